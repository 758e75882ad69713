/- Part of the claim: see its last text. -/
import Derived.Test.YtjhogglgkjcacaaGreatMa14
import Derived.Test.YtjhogglgkjcacaaGreatMa15
import Derived.Laws.BytesString
set_option linter.all false
namespace Go.AM
theorem x9 {P:Program} {t:TypeId} {e:TypeId} (hu:P.underlying t=some (.slice e)) (d:Nat) (a:Option Addr) (n c:Nat) (w:World):(Op.equalIn (d+1) t (.slice a n c) (.slice none 0 0)).run P w=.ok a.isNone w:=by
 cases a <;> simp [Op.equalIn,run_underlying hu]
theorem s6 {P:Program} {t k:TypeId} {e:TypeId} (hu:P.underlying t=some (.map k e)) (d:Nat) (a:Option Nat) (w:World):(Op.equalIn (d+1) t (.map a) (.map none)).run P w=.ok a.isNone w:=by
 cases a <;> simp [Op.equalIn,run_underlying hu]
theorem ya {P:Program} {t:TypeId} {e:TypeId} (hu:P.underlying t=some (.slice e)) {op:BinOp} (hop:op=.eql∨op=.neq) (a:Option Addr) (n c:Nat) (w:World) :
  (binOp op t (.slice a n c) (.slice none 0 0)).run P w=.ok (.bool (if op=.eql then a.isNone else !a.isNone)) w:=by
 have he:(Op.equal t (.slice a n c) (.slice none 0 0)).run P w=.ok a.isNone w:=x9 hu 9999 a n c w
 rcases hop with rfl | rfl
 ·simp only [binOp]
  simp [he]
 ·simp only [binOp]
  simp [he]
theorem uZ {P:Program} {G:Gh} {s:St} {w:World} {t e:TypeId} (hu:P.underlying t=some (.slice e)) {op:BinOp} {x:AV} {xv:Value} {ox oy:Operand} {K:AV→St→Prop} (h:jC op x s K) (hx:Rep G x xv) :
  ∃ r av,(do eqGuard op t ox oy xv (.slice none 0 0); binOp op t xv (.slice none 0 0)).run P w=.ok r w∧Rep G av r∧K av s:=by
 obtain ⟨hop,h⟩:=h
 have fin:∀ (a:Option Addr) (n c:Nat),xv=.slice a n c→K (.bool (if op=.eql then a.isNone else !a.isNone)) s→∃ r av,(do eqGuard op t ox oy xv (.slice none 0 0); binOp op t xv (.slice none 0 0)).run P w=.ok r w∧Rep G av r∧K av s:=by
  intro a n c hxv hk
  subst hxv
  refine ⟨_,_,?_,.sc _ rfl,hk⟩
  have h0:=eM (P:=P) (w:=w) (op:=op) (t:=t) (x:=ox) (y:=oy) (a:=.slice a n c) (b:=.slice none 0 0) (by simp) (by simp)
  simp only [Sem.run_bind,h0,Result.andThen_ok,ya hu hop]
 have both:∀ (a:Option Addr) (n c:Nat),xv=.slice a n c→K (.bool true) s∧K (.bool false) s→∃ r av,(do eqGuard op t ox oy xv (.slice none 0 0); binOp op t xv (.slice none 0 0)).run P w=.ok r w∧Rep G av r∧K av s:=by
  intro a n c hxv hk
  refine fin a n c hxv ?_
  rcases hop with rfl | rfl <;> cases a <;> simp [hk.1,hk.2]
 split at h
 ·cases hx with
  | sl _ _ a cap b o sz f hc hf ha hz hm hh=>
   refine fin a _ _ rfl ?_
   rw [ha (by simp)]
   rcases hop with rfl | rfl
   ·exact h
   ·exact h
 ·cases hx with
  | row _ _ _ l a hl hlc ha=>
   refine fin a _ _ rfl ?_
   rw [ha (by omega)]
   rcases hop with rfl | rfl
   ·exact h
   ·exact h
 ·cases hx with
  | sl _ _ a cap b o sz f hc hf ha hz hm hh=>exact both a _ _ rfl h
 ·cases hx with
  | row _ _ _ l a hl hlc ha=>exact both a _ _ rfl h
 ·exact h.elim
theorem uQ {P:Program} {G:Gh} {s:St} {w:World} {t k e:TypeId} (hu:P.underlying t=some (.map k e)) {op:BinOp} {x y av:AV} {xv:Value} {ox oy:Operand} (h:eX .mpNil op x y=some av) (hx:Rep G x xv) (hS:Sim G s w) :
  Out P (do eqGuard op t ox oy xv (.map none); binOp op t xv (.map none)) G s w av s:=by
 simp only [eX] at h
 have key:∀ m:Option Nat,xv=.map m→iH op m.isNone=some av→Out P (do eqGuard op t ox oy xv (.map none); binOp op t xv (.map none)) G s w av s:=by
  intro m hm he
  subst hm
  have h0:=eM (P:=P) (w:=w) (op:=op) (t:=t) (x:=ox) (y:=oy) (a:=.map m) (b:=.map none) (by simp) (by simp)
  unfold iH at he
  split at he
  ·injection he with he; subst he
   refine .quiet hS (v:=.bool m.isNone) ?_ (.sc _ rfl)
   have hq:(Op.equal t (.map m) (.map none)).run P w=.ok m.isNone w:=s6 hu 9999 m w
   simp only [Sem.run_bind,h0,Result.andThen_ok,binOp]
   simp [hq]
  ·injection he with he; subst he
   refine .quiet hS (v:=.bool !m.isNone) ?_ (.sc _ rfl)
   have hq:(Op.equal t (.map m) (.map none)).run P w=.ok m.isNone w:=s6 hu 9999 m w
   simp only [Sem.run_bind,h0,Result.andThen_ok,binOp]
   simp [hq]
  ·cases he
 unfold sW at h
 split at h
 ·obtain ⟨rfl,_⟩:=bC hx
  exact key none rfl (by simpa using h)
 ·cases hx with
  | map _ l hl=>exact key (some l.b) rfl (by simpa using h)
 ·cases h
theorem mS {G:Gh}:∀ {es:List (List AV)} {l:List UInt8} {vs:List Value},gd es=some l→Flat G 1 es vs→es.all (aB 1)=true∧∃ ns:List Int,vs=ns.map (Value.int .u8)∧ns.map (fun n=>UInt8.ofNat n.toNat)=l
 | [],l,vs,h,hf=>by
  simp [gd] at h; subst h
  have:vs=[]:=by have:=hf.1; simpa using this
  subst this
  exact ⟨rfl,[],rfl,rfl⟩
 | e::es,l,vs,h,hf=>by
  simp only [gd] at h
  split at h
  ·rename_i b bs h1 h2
   injection h with h; subst h
   unfold pL at h1
   split at h1
   ·rename_i n
    injection h1 with h1; subst h1
    have hl:=hf.1
    simp at hl
    cases vs with
    | nil=>simp at hl
    | cons v vs=>
     have hd:=hf.drop 1
     simp at hd
     obtain ⟨q1,ns,q2,q3⟩:=mS h2 hd
     obtain ⟨_,hel⟩:=hf.elem (e:=0) rfl
     obtain ⟨v',hv',hr⟩:=hel.get (j:=0) rfl
     simp at hv'; subst hv'
     obtain ⟨rfl,_⟩:=bC hr
     refine ⟨by simp [q1,aB,AV.cell],n::ns,by simp [q2],by simp [q3]⟩
   ·cases h1
  ·cases h
theorem lJ:∀ {es:List (List AV)} {l:List UInt8},gd es=some l→es.all (aB 1)=true
 | [],_,_=>rfl
 | e::es,l,h=>by
  simp only [gd] at h
  split at h
  ·rename_i b bs h1 h2
   have:=lJ h2
   unfold pL at h1
   split at h1
   ·simp [this,aB,AV.cell]
   ·cases h1
  ·cases h
theorem lP:∀ (ns:List Int) (r:ByteArray),ns.foldl (fun r n=>r.push (UInt8.ofNat n.toNat)) r=⟨r.data++(ns.map fun n=>UInt8.ofNat n.toNat).toArray⟩
 | [],r=>by simp
 | n::ns,r=>by
  rw [List.foldl_cons,lP ns]
  simp [ByteArray.push]
theorem wy {P:Program} {G:Gh} {s:St} {w:World} {src dst e:TypeId} (hs:P.underlying src=some (.slice e)) (he:P.underlying e=some (.int .u8)) (hd:P.underlying dst=some .string) {x av:AV} {xv:Value} (h:cvI .b2s x s=some av) (hx:Rep G x xv) (hS:Sim G s w) :
  Out P (convert src dst xv) G s w av s:=by
 simp only [cvI] at h
 split at h
 ·rename_i hsz
  cases hsh:s.show_ x with
  | none=>simp [hsh] at h
  | some es=>
   simp [hsh] at h
   obtain ⟨l,hl,rfl⟩:=h
   obtain ⟨a,cap,vs,rfl,hcap,hf,hlies⟩:=eh hS hsh hx (lJ hl) (by
    rintro g z o l rfl
    simpa [dT] using hsz)
   obtain ⟨_,ns,rfl,hns⟩:=mS hl hf
   refine .quiet hS (v:=.string ⟨l.toArray⟩) ?_ (.sc _ rfl)
   rw [run_convert_bytes_string w src dst e a es.length cap hs he hd]
   have hfirst:=fw (P:=P) (w:=w) (len:=es.length) (cap:=cap) (a:=a) hf hlies
   cases a with
   | none=>
    by_cases hne:es=[]
    ·subst hne
     have:ns=[]:=by have:=hf.1; simpa using this
     subst this
     simp at hns; subst hns
     simp [Conv.bytesToString]
     try rfl
    ·obtain ⟨b,o,h1,_⟩:=hlies hne
     cases h1
   | some a=>
    simp only [Builtin.firstCells,Nat.mul_one] at hfirst
    rw [run_bytesToString w a es.length cap ns hfirst,lP,hns]
    simp
    try rfl
 ·cases h
end Go.AM
