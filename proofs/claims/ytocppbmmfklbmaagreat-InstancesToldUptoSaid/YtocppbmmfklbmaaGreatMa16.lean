/- Part of the claim: see its last text. -/
import Derived.Test.YtocppbmmfklbmaaGreatMa14
import Derived.Test.YtocppbmmfklbmaaGreatMa15
import Derived.Laws.BytesString
set_option linter.all false
namespace Go.AM
theorem xy {P:Program} {t:TypeId} {e:TypeId} (hu:P.underlying t=some (.slice e)) (d:Nat) (a:Option Addr) (n c:Nat) (w:World):(Op.equalIn (d+1) t (.slice a n c) (.slice none 0 0)).run P w=.ok a.isNone w:=by
 cases a <;> simp [Op.equalIn,run_underlying hu]
theorem sH {P:Program} {t k:TypeId} {e:TypeId} (hu:P.underlying t=some (.map k e)) (d:Nat) (a:Option Nat) (w:World):(Op.equalIn (d+1) t (.map a) (.map none)).run P w=.ok a.isNone w:=by
 cases a <;> simp [Op.equalIn,run_underlying hu]
theorem xz {P:Program} {t:TypeId} {e:TypeId} (hu:P.underlying t=some (.slice e)) {op:BinOp} (hop:op=.eql∨op=.neq) (a:Option Addr) (n c:Nat) (w:World) :
  (binOp op t (.slice a n c) (.slice none 0 0)).run P w=.ok (.bool (if op=.eql then a.isNone else !a.isNone)) w:=by
 have he:(Op.equal t (.slice a n c) (.slice none 0 0)).run P w=.ok a.isNone w:=xy hu 9999 a n c w
 rcases hop with rfl | rfl
 ·simp only [binOp]
  simp [he]
 ·simp only [binOp]
  simp [he]
theorem uq {P:Program} {G:Gh} {s:St} {w:World} {t e:TypeId} (hu:P.underlying t=some (.slice e)) {op:BinOp} {x:AV} {xv:Value} {ox oy:Operand} {K:AV→St→Prop} (h:nq op x s K) (hx:Rep G x xv) :
  ∃ r av,(do eqGuard op t ox oy xv (.slice none 0 0); binOp op t xv (.slice none 0 0)).run P w=.ok r w∧Rep G av r∧K av s:=by
 obtain ⟨hop,h⟩:=h
 have fin:∀ (a:Option Addr) (n c:Nat),xv=.slice a n c→K (.bool (if op=.eql then a.isNone else !a.isNone)) s→∃ r av,(do eqGuard op t ox oy xv (.slice none 0 0); binOp op t xv (.slice none 0 0)).run P w=.ok r w∧Rep G av r∧K av s:=by
  intro a n c hxv hk
  subst hxv
  refine ⟨_,_,?_,.sc _ rfl,hk⟩
  have h0:=eJ (P:=P) (w:=w) (op:=op) (t:=t) (x:=ox) (y:=oy) (a:=.slice a n c) (b:=.slice none 0 0) (by simp) (by simp)
  simp only [Sem.run_bind,h0,Result.andThen_ok,xz hu hop]
 have both:∀ (a:Option Addr) (n c:Nat),xv=.slice a n c→K (.bool true) s∧K (.bool false) s→∃ r av,(do eqGuard op t ox oy xv (.slice none 0 0); binOp op t xv (.slice none 0 0)).run P w=.ok r w∧Rep G av r∧K av s:=by
  intro a n c hxv hk
  refine fin a n c hxv ?_
  rcases hop with rfl | rfl <;> cases a <;> simp [hk.1,hk.2]
 split at h
 ·cases hx with
  | sl _ _ a cap b o sz f hc hf ha hz hm hh=>
   refine fin a _ _ rfl ?_
   rw [ha (by simp)]
   rcases hop with rfl | rfl
   ·exact h
   ·exact h
 ·cases hx with
  | row _ _ _ l a hl hlc ha=>
   refine fin a _ _ rfl ?_
   rw [ha (by omega)]
   rcases hop with rfl | rfl
   ·exact h
   ·exact h
 ·cases hx with
  | sl _ _ a cap b o sz f hc hf ha hz hm hh=>exact both a _ _ rfl h
 ·cases hx with
  | row _ _ _ l a hl hlc ha=>exact both a _ _ rfl h
 ·exact h.elim
theorem uj {P:Program} {G:Gh} {s:St} {w:World} {t k e:TypeId} (hu:P.underlying t=some (.map k e)) {op:BinOp} {x y av:AV} {xv:Value} {ox oy:Operand} (h:eQ .mpNil op x y=some av) (hx:Rep G x xv) (hS:Sim G s w) :
  Out P (do eqGuard op t ox oy xv (.map none); binOp op t xv (.map none)) G s w av s:=by
 simp only [eQ] at h
 have key:∀ m:Option Nat,xv=.map m→iu op m.isNone=some av→Out P (do eqGuard op t ox oy xv (.map none); binOp op t xv (.map none)) G s w av s:=by
  intro m hm he
  subst hm
  have h0:=eJ (P:=P) (w:=w) (op:=op) (t:=t) (x:=ox) (y:=oy) (a:=.map m) (b:=.map none) (by simp) (by simp)
  unfold iu at he
  split at he
  ·injection he with he; subst he
   refine .quiet hS (v:=.bool m.isNone) ?_ (.sc _ rfl)
   have hq:(Op.equal t (.map m) (.map none)).run P w=.ok m.isNone w:=sH hu 9999 m w
   simp only [Sem.run_bind,h0,Result.andThen_ok,binOp]
   simp [hq]
  ·injection he with he; subst he
   refine .quiet hS (v:=.bool !m.isNone) ?_ (.sc _ rfl)
   have hq:(Op.equal t (.map m) (.map none)).run P w=.ok m.isNone w:=sH hu 9999 m w
   simp only [Sem.run_bind,h0,Result.andThen_ok,binOp]
   simp [hq]
  ·cases he
 unfold sE at h
 split at h
 ·obtain ⟨rfl,_⟩:=bC hx
  exact key none rfl (by simpa using h)
 ·cases hx with
  | map _ l hl=>exact key (some l.b) rfl (by simpa using h)
 ·cases h
theorem mL {G:Gh}:∀ {es:List (List AV)} {l:List UInt8} {vs:List Value},fR es=some l→Flat G 1 es vs→es.all (aC 1)=true∧∃ ns:List Int,vs=ns.map (Value.int .u8)∧ns.map (fun n=>UInt8.ofNat n.toNat)=l
 | [],l,vs,h,hf=>by
  simp [fR] at h; subst h
  have:vs=[]:=by have:=hf.1; simpa using this
  subst this
  exact ⟨rfl,[],rfl,rfl⟩
 | e::es,l,vs,h,hf=>by
  simp only [fR] at h
  split at h
  ·rename_i b bs h1 h2
   injection h with h; subst h
   unfold pz at h1
   split at h1
   ·rename_i n
    injection h1 with h1; subst h1
    have hl:=hf.1
    simp at hl
    cases vs with
    | nil=>simp at hl
    | cons v vs=>
     have hd:=hf.drop 1
     simp at hd
     obtain ⟨q1,ns,q2,q3⟩:=mL h2 hd
     obtain ⟨_,hel⟩:=hf.elem (e:=0) rfl
     obtain ⟨v',hv',hr⟩:=hel.get (j:=0) rfl
     simp at hv'; subst hv'
     obtain ⟨rfl,_⟩:=bC hr
     refine ⟨by simp [q1,aC,AV.cell],n::ns,by simp [q2],by simp [q3]⟩
   ·cases h1
  ·cases h
theorem lL:∀ {es:List (List AV)} {l:List UInt8},fR es=some l→es.all (aC 1)=true
 | [],_,_=>rfl
 | e::es,l,h=>by
  simp only [fR] at h
  split at h
  ·rename_i b bs h1 h2
   have:=lL h2
   unfold pz at h1
   split at h1
   ·simp [this,aC,AV.cell]
   ·cases h1
  ·cases h
theorem lQ:∀ (ns:List Int) (r:ByteArray),ns.foldl (fun r n=>r.push (UInt8.ofNat n.toNat)) r=⟨r.data++(ns.map fun n=>UInt8.ofNat n.toNat).toArray⟩
 | [],r=>by simp
 | n::ns,r=>by
  rw [List.foldl_cons,lQ ns]
  simp [ByteArray.push]
theorem vT {P:Program} {G:Gh} {s:St} {w:World} {src dst e:TypeId} (hs:P.underlying src=some (.slice e)) (he:P.underlying e=some (.int .u8)) (hd:P.underlying dst=some .string) {x av:AV} {xv:Value} (h:cvI .b2s x s=some av) (hx:Rep G x xv) (hS:Sim G s w) :
  Out P (convert src dst xv) G s w av s:=by
 simp only [cvI] at h
 split at h
 ·rename_i hsz
  cases hsh:s.show_ x with
  | none=>simp [hsh] at h
  | some es=>
   simp [hsh] at h
   obtain ⟨l,hl,rfl⟩:=h
   obtain ⟨a,cap,vs,rfl,hcap,hf,hlies⟩:=eh hS hsh hx (lL hl) (by
    rintro g z o l rfl
    simpa [dR] using hsz)
   obtain ⟨_,ns,rfl,hns⟩:=mL hl hf
   refine .quiet hS (v:=.string ⟨l.toArray⟩) ?_ (.sc _ rfl)
   rw [run_convert_bytes_string w src dst e a es.length cap hs he hd]
   have hfirst:=ff (P:=P) (w:=w) (len:=es.length) (cap:=cap) (a:=a) hf hlies
   cases a with
   | none=>
    by_cases hne:es=[]
    ·subst hne
     have:ns=[]:=by have:=hf.1; simpa using this
     subst this
     simp at hns; subst hns
     simp [Conv.bytesToString]
     try rfl
    ·obtain ⟨b,o,h1,_⟩:=hlies hne
     cases h1
   | some a=>
    simp only [Builtin.firstCells,Nat.mul_one] at hfirst
    rw [run_bytesToString w a es.length cap ns hfirst,lQ,hns]
    simp
    try rfl
 ·cases h
end Go.AM
