/- Part of the claim: see its last text. -/
import Derived.Test.YtjhogglgkjcacaaGreatMa8
import Derived.Test.YtjhogglgkjcacaaGreatMa6
import Derived.Laws.BytesString
set_option linter.all false
namespace Go.AM
theorem sy {P:Program} {G:Gh} {s:St} {w:World} (hS:Sim G s w) {g off:Nat} {es ys:List (List AV)} {l:Loc} (hg:s.h g=some (.row l.sz es .live none)) (hl:G.loc g=some l) (hcap:0<l.cap) {us:List Value} (hfy:Flat G l.sz ys us)
  (hfit:off+ys.length≤es.length) :
  ∃ w',(storeCells ⟨l.b,off*l.sz,none⟩ us).run P w=.ok () w'∧Sim G { s with h:=upd s.h g (some (.row l.sz (es.take off++ys++es.drop (off+ys.length)) .live none)) } w' ∧
   Stp G s w G { s with h:=upd s.h g (some (.row l.sz (es.take off++ys++es.drop (off+ys.length)) .live none)) } w':=by
 obtain ⟨l',hl',hb1,hb2,hb3,hb4⟩:=hS.blk g _ hg
 rw [hl] at hl'; injection hl' with e4; subst e4
 obtain ⟨C,ty',hC,hcs,hflat⟩:=hb3.flat hcap
 have hyl:=hfy.1
 have hes:es.length*l.sz≤C.size:=Nat.le_trans (Nat.mul_le_mul_right _ hb3.1) hcs
 have hle2:(off+ys.length)*l.sz≤es.length*l.sz:=Nat.mul_le_mul_right _ hfit
 rw [Nat.add_mul] at hle2
 have hrun:=run_storeCells_at (P:=P) l.b (off*l.sz) ty' us 0 C w hC (by omega) (hfy.mem_cell (by omega))
 simp only [Nat.add_zero] at hrun
 have hfl:=((hflat.take off).append hfy).append (hflat.drop (off+ys.length))
 obtain ⟨h1,h2⟩:=ke hS hg hl hcap hC (es':=es.take off++ys++es.drop (off+ys.length)) (C':=(C.toList.take (off*l.sz)++us++C.toList.drop (off*l.sz+us.length)).toArray) (by simp; omega) hcs
  (by have:=hb3.1; simp; omega) hfl (fun j v hj=>by
   have e6:(C.toList.take (es.length*l.sz)).take (off*l.sz)=C.toList.take (off*l.sz):=by
    rw [List.take_take,Nat.min_eq_left (Nat.mul_le_mul_right _ (by omega))]
   refine getElem?_mid (vs:=C.toList.take (es.length*l.sz)) (o:=off*l.sz) (n:=us.length) ?_ rfl (by simp; omega) (by simp; omega) ?_
   ·intro j v hj
    rw [List.getElem?_take] at hj
    split at hj
    ·simpa using hj
    ·cases hj
   ·rw [hyl,←Nat.add_mul]; exact hj)
 exact ⟨_,hrun,h1,h2⟩
theorem oM {zc:Array Value} {n:Nat} (h0:0<zc.size):(Builtin.zeroCells zc n).toList=(List.replicate n zc.toList).flatten:=by
 apply List.ext_getElem?
 intro k
 by_cases hk:k<n*zc.size
 ·rw [←Array.getElem?_toList.symm,ko h0 hk]
  have hl:((List.replicate n zc.toList).flatten).length=n*zc.size:=by simp
  have hget:((List.replicate n zc.toList).flatten)[k]?=some ((List.replicate n zc.toList).flatten)[k]:=List.getElem?_eq_getElem (by omega)
  obtain ⟨_,h2⟩:=fB (by simpa using h0) _ _ _ hget
  rw [hget]
  simpa using h2
 ·rw [List.getElem?_eq_none (by simp [Builtin.zeroCells]; omega),List.getElem?_eq_none (by simp; omega)]
theorem xM {P:Program} {G:Gh} {s s':St} {w:World} {t e ty:TypeId} {ats:Array TypeId} {i:TypeInfo} {zs:List AV} (hat:ats[0]?=some t) (ht:dB P t=some (e,i)) (hz:eK P e=some (zs,i)) {x:AV} {xv:Value} (h:clI i.size zs x s=some s')
  (hx:Rep G x xv) (hS:Sim G s w):Out P (Builtin.clear_ ats ty #[xv]) G s w (.tup []) s':=by
 obtain ⟨hu,hi⟩:=de ht
 obtain ⟨_,z,hz0,rfl⟩:=dF hz
 have hzero:(zeroValue e).run P w=.ok z w:=by simp [zeroValue,typeInfo,hi,hz0]
 have hun:Rep G (.tup []) (.tuple #[]):=(RepL.nil G).toTup
 unfold clI at h
 split at h
 ·rename_i g sz' off len
  split at h
  ·rename_i sz'' es hg
   split at h
   ·rename_i hc
    obtain ⟨hpos,e1,e2,hok,hfit⟩:=hc
    injection h with h; subst h
    subst e2
    cases hx with
    | row _ _ _ l a hl hlc ha=>
     obtain ⟨hrl,hzs⟩:=fZ (G:=G) hok
     obtain ⟨l',hl',hb1,hb2,hb3,hb4⟩:=hS.blk g _ hg
     rw [hl] at hl'; injection hl' with e4; subst e4
     by_cases h0:len=0
     ·subst h0
      have hsame:es.take off++List.replicate 0 (ofValue z).cells++es.drop (off+0)=es:=by simp
      have hupd:({ h:=upd s.h g (some (.row i.size (es.take off++List.replicate 0 (ofValue z).cells++es.drop (off+0)) .live none)),c:=s.c }:St)=s:=by
       rw [hsame]
       have:upd s.h g (some (.row i.size es .live none))=s.h:=by
        funext k
        unfold upd
        split
        ·rename_i e; subst e; rw [hg]
        ·rfl
       rw [this]
      rw [hupd]
      refine .quiet hS (v:=.tuple #[]) ?_ hun
      cases a <;> simp [Builtin.clear_,hat,run_underlying hu]
     ·have hoff:off<l.cap:=by omega
      have hao:=ha hoff
      subst hao
      have hcap:0<l.cap:=by omega
      have hfy:=Flat.replicate (G:=G) hok hrl len
      rw [←oM (zc:=z.cells) (by omega)] at hfy
      rw [e1] at hg hfy
      obtain ⟨w',h1,h2,h3⟩:=sy (P:=P) hS hg hl hcap hfy (off:=off) (by simpa using hfit)
      simp only [List.length_replicate] at h2 h3
      rw [e1]
      refine ⟨.tuple #[],w',G,?_,h3,h2,hun⟩
      obtain ⟨n,rfl⟩:∃ n,len=n+1:=⟨len-1,by omega⟩
      simp [Builtin.clear_,hat,run_underlying hu,hzero,h1]
   ·cases h
  ·cases h
 ·injection h with h; subst h
  cases hx with
  | sl _ _ a cap b o sz f hc hf ha hz' hm hh=>
   refine .quiet hS (v:=.tuple #[]) ?_ hun
   cases a <;> simp [Builtin.clear_,hat,run_underlying hu]
 ·cases h
theorem xP {P:Program} {G:Gh} {s s':St} {w:World} {t kt et ty:TypeId} {ats:Array TypeId} {kk:KK} (hat:ats[0]?=some t) (ht:P.underlying t=some (.map kt et)) (hk:eM P kt=some kk) {m k:AV} {xm xk:Value}
  (h:dlI kk m k s=some s') (hm:Rep G m xm) (hkr:Rep G k xk) (hS:Sim G s w):Out P (Builtin.delete_ ats ty #[xm,xk]) G s w (.tup []) s':=by
 have hun:Rep G (.tup []) (.tuple #[]):=(RepL.nil G).toTup
 unfold dlI at h
 split at h
 ·rename_i g
  split at h
  ·rename_i kv ver hg
   cases hm with
   | map _ l hl=>
    obtain ⟨_,_,es,clock,h1,h2,h3,h4⟩:=hS.map hg hl
    split at h
    ·rename_i j hj
     obtain ⟨c1,c2,c3⟩:=fR hk hkr w h2 h3 hj
     injection h with h; subst h
     have hlt:=c3 j rfl
     have he:es[j]?=some es[j]:=Array.getElem?_eq_getElem hlt
     have hel:(es.eraseIdxIfInBounds j).toList=es.toList.eraseIdx j:=by
      simp [Array.eraseIdxIfInBounds,hlt]
     have look:∀ (i:Nat) (e:MapEntry),(es.eraseIdxIfInBounds j)[i]?=some e→es[if i<j then i else i+1]?=some e:=by
      intro i e he'
      rw [←Array.getElem?_toList,hel,List.getElem?_eraseIdx] at he'
      split at he'
      ·rename_i hij; rw [if_pos hij]; simpa using he'
      ·rename_i hij; rw [if_neg hij]; simpa using he'
     obtain ⟨q1,q2⟩:=kK hS hg hl (es':=es.eraseIdxIfInBounds j) (clock':=clock) (kv':=kv.eraseIdx j) h1 (by
      have:(es.eraseIdxIfInBounds j).toList.length=(kv.eraseIdx j).length:=by
       rw [hel,List.length_eraseIdx,List.length_eraseIdx]; simp [h2]
      rwa [Array.length_toList] at this) (by
      intro i e q he' hq
      have a1:=look i e he'
      rw [List.getElem?_eraseIdx] at hq
      split at hq
      ·rename_i hij; rw [if_pos hij] at a1; exact h3 _ e q a1 hq
      ·rename_i hij; rw [if_neg hij] at a1; exact h3 _ e q a1 hq) (by
      intro i i' e e' he1 he2 hb
      have:=h4 _ _ e e' (look i e he1) (look i' e' he2) hb
      split at this <;> split at this <;> omega)
     refine ⟨.tuple #[],_,G,?_,q2,q1,hun⟩
     simp [Builtin.delete_,hat,run_underlying ht,MapKept.run_getObj_map h1,c1,c2,he,MapKept.run_setObj_map _ h1]
    ·rename_i hj
     obtain ⟨c1,c2,c3⟩:=fR hk hkr w h2 h3 hj
     injection h with h; subst h
     have hsame:({ w with heap:=w.heap.setIfInBounds l.b (.map es clock) }:World)=w:=by
      have:w.heap.setIfInBounds l.b (.map es clock)=w.heap:=by
       apply Array.ext_getElem?
       intro k
       rw [Array.getElem?_setIfInBounds]
       split
       ·rename_i e; subst e; rw [if_pos (cK h1),h1]
       ·rfl
      rw [this]
     refine .quiet hS (v:=.tuple #[]) ?_ hun
     simp [Builtin.delete_,hat,run_underlying ht,MapKept.run_getObj_map h1,c1,c2,MapKept.run_setObj_map _ h1,hsame]
    ·cases h
  ·cases h
 ·cases h
end Go.AM
namespace Go.AM
theorem yj {P:Program} {t:TypeId} {e:TypeId} (hu:P.underlying t=some (.slice e)) (d:Nat) (a:Option Addr) (n c:Nat) (w:World):(Op.equalIn (d+1) t (.slice a n c) (.slice none 0 0)).run P w=.ok a.isNone w:=by
 cases a <;> simp [Op.equalIn,run_underlying hu]
theorem tu {P:Program} {t k:TypeId} {e:TypeId} (hu:P.underlying t=some (.map k e)) (d:Nat) (a:Option Nat) (w:World):(Op.equalIn (d+1) t (.map a) (.map none)).run P w=.ok a.isNone w:=by
 cases a <;> simp [Op.equalIn,run_underlying hu]
theorem yk {P:Program} {t:TypeId} {e:TypeId} (hu:P.underlying t=some (.slice e)) {op:BinOp} (hop:op=.eql∨op=.neq) (a:Option Addr) (n c:Nat) (w:World) :
  (binOp op t (.slice a n c) (.slice none 0 0)).run P w=.ok (.bool (if op=.eql then a.isNone else !a.isNone)) w:=by
 have he:(Op.equal t (.slice a n c) (.slice none 0 0)).run P w=.ok a.isNone w:=yj hu 9999 a n c w
 rcases hop with rfl | rfl
 ·simp only [binOp]
  simp [he]
 ·simp only [binOp]
  simp [he]
theorem u7 {P:Program} {G:Gh} {s:St} {w:World} {t e:TypeId} (hu:P.underlying t=some (.slice e)) {op:BinOp} {x:AV} {xv:Value} {ox oy:Operand} {K:AV→St→Prop} (h:jC op x s K) (hx:Rep G x xv) :
  ∃ r av,(do eqGuard op t ox oy xv (.slice none 0 0); binOp op t xv (.slice none 0 0)).run P w=.ok r w∧Rep G av r∧K av s:=by
 obtain ⟨hop,h⟩:=h
 have fin:∀ (a:Option Addr) (n c:Nat),xv=.slice a n c→K (.bool (if op=.eql then a.isNone else !a.isNone)) s→∃ r av,(do eqGuard op t ox oy xv (.slice none 0 0); binOp op t xv (.slice none 0 0)).run P w=.ok r w∧Rep G av r∧K av s:=by
  intro a n c hxv hk
  subst hxv
  refine ⟨_,_,?_,.sc _ rfl,hk⟩
  have h0:=eD (P:=P) (w:=w) (op:=op) (t:=t) (x:=ox) (y:=oy) (a:=.slice a n c) (b:=.slice none 0 0) (by simp) (by simp)
  simp only [Sem.run_bind,h0,Result.andThen_ok,yk hu hop]
 have both:∀ (a:Option Addr) (n c:Nat),xv=.slice a n c→K (.bool true) s∧K (.bool false) s→∃ r av,(do eqGuard op t ox oy xv (.slice none 0 0); binOp op t xv (.slice none 0 0)).run P w=.ok r w∧Rep G av r∧K av s:=by
  intro a n c hxv hk
  refine fin a n c hxv ?_
  rcases hop with rfl | rfl <;> cases a <;> simp [hk.1,hk.2]
 split at h
 ·cases hx with
  | sl _ _ a cap b o sz f hc hf ha hz hm hh=>
   refine fin a _ _ rfl ?_
   rw [ha (by simp)]
   rcases hop with rfl | rfl
   ·exact h
   ·exact h
 ·cases hx with
  | row _ _ _ l a hl hlc ha=>
   refine fin a _ _ rfl ?_
   rw [ha (by omega)]
   rcases hop with rfl | rfl
   ·exact h
   ·exact h
 ·cases hx with
  | sl _ _ a cap b o sz f hc hf ha hz hm hh=>exact both a _ _ rfl h
 ·cases hx with
  | row _ _ _ l a hl hlc ha=>exact both a _ _ rfl h
 ·cases hx with
  | sc _ _=>
   refine fin none 0 0 rfl ?_
   rcases hop with rfl | rfl
   ·exact h
   ·exact h
 ·exact h.elim
theorem uU {P:Program} {G:Gh} {s:St} {w:World} {t k e:TypeId} (hu:P.underlying t=some (.map k e)) {op:BinOp} {x y av:AV} {xv:Value} {ox oy:Operand} (h:eL .mpNil op x y=some av) (hx:Rep G x xv) (hS:Sim G s w) :
  Out P (do eqGuard op t ox oy xv (.map none); binOp op t xv (.map none)) G s w av s:=by
 simp only [eL] at h
 have key:∀ m:Option Nat,xv=.map m→iB op m.isNone=some av→Out P (do eqGuard op t ox oy xv (.map none); binOp op t xv (.map none)) G s w av s:=by
  intro m hm he
  subst hm
  have h0:=eD (P:=P) (w:=w) (op:=op) (t:=t) (x:=ox) (y:=oy) (a:=.map m) (b:=.map none) (by simp) (by simp)
  unfold iB at he
  split at he
  ·injection he with he; subst he
   refine .quiet hS (v:=.bool m.isNone) ?_ (.sc _ rfl)
   have hq:(Op.equal t (.map m) (.map none)).run P w=.ok m.isNone w:=tu hu 9999 m w
   simp only [Sem.run_bind,h0,Result.andThen_ok,binOp]
   simp [hq]
  ·injection he with he; subst he
   refine .quiet hS (v:=.bool !m.isNone) ?_ (.sc _ rfl)
   have hq:(Op.equal t (.map m) (.map none)).run P w=.ok m.isNone w:=tu hu 9999 m w
   simp only [Sem.run_bind,h0,Result.andThen_ok,binOp]
   simp [hq]
  ·cases he
 unfold tl at h
 split at h
 ·obtain ⟨rfl,_⟩:=bE hx
  exact key none rfl (by simpa using h)
 ·cases hx with
  | map _ l hl=>exact key (some l.b) rfl (by simpa using h)
 ·cases h
theorem mV {G:Gh}:∀ {es:List (List AV)} {l:List UInt8} {vs:List Value},fQ es=some l→Flat G 1 es vs→es.all (aA 1)=true∧∃ ns:List Int,vs=ns.map (Value.int .u8)∧ns.map (fun n=>UInt8.ofNat n.toNat)=l
 | [],l,vs,h,hf=>by
  simp [fQ] at h; subst h
  have:vs=[]:=by have:=hf.1; simpa using this
  subst this
  exact ⟨rfl,[],rfl,rfl⟩
 | e::es,l,vs,h,hf=>by
  simp only [fQ] at h
  split at h
  ·rename_i b bs h1 h2
   injection h with h; subst h
   unfold pZ at h1
   split at h1
   ·rename_i n
    injection h1 with h1; subst h1
    have hl:=hf.1
    simp at hl
    cases vs with
    | nil=>simp at hl
    | cons v vs=>
     have hd:=hf.drop 1
     simp at hd
     obtain ⟨q1,ns,q2,q3⟩:=mV h2 hd
     obtain ⟨_,hel⟩:=hf.elem (e:=0) rfl
     obtain ⟨v',hv',hr⟩:=hel.get (j:=0) rfl
     simp at hv'; subst hv'
     obtain ⟨rfl,_⟩:=bE hr
     refine ⟨by simp [q1,aA,AV.cell],n::ns,by simp [q2],by simp [q3]⟩
   ·cases h1
  ·cases h
theorem lK:∀ {es:List (List AV)} {l:List UInt8},fQ es=some l→es.all (aA 1)=true
 | [],_,_=>rfl
 | e::es,l,h=>by
  simp only [fQ] at h
  split at h
  ·rename_i b bs h1 h2
   have:=lK h2
   unfold pZ at h1
   split at h1
   ·simp [this,aA,AV.cell]
   ·cases h1
  ·cases h
theorem lQ:∀ (ns:List Int) (r:ByteArray),ns.foldl (fun r n=>r.push (UInt8.ofNat n.toNat)) r=⟨r.data++(ns.map fun n=>UInt8.ofNat n.toNat).toArray⟩
 | [],r=>by simp
 | n::ns,r=>by
  rw [List.foldl_cons,lQ ns]
  simp [ByteArray.push]
theorem wH {P:Program} {G:Gh} {s:St} {w:World} {src dst e:TypeId} (hs:P.underlying src=some (.slice e)) (he:P.underlying e=some (.int .u8)) (hd:P.underlying dst=some .string) {x av:AV} {xv:Value} (h:cvI .b2s x s=some av) (hx:Rep G x xv) (hS:Sim G s w) :
  Out P (convert src dst xv) G s w av s:=by
 simp only [cvI] at h
 split at h
 ·rename_i hsz
  cases hsh:s.show_ x with
  | none=>simp [hsh] at h
  | some es=>
   simp [hsh] at h
   obtain ⟨l,hl,rfl⟩:=h
   obtain ⟨a,cap,vs,rfl,hcap,hf,hlies⟩:=dV hS hsh hx (lK hl) (by
    rintro g z o l rfl
    simpa [dW] using hsz)
   obtain ⟨_,ns,rfl,hns⟩:=mV hl hf
   refine .quiet hS (v:=.string ⟨l.toArray⟩) ?_ (.sc _ rfl)
   rw [run_convert_bytes_string w src dst e a es.length cap hs he hd]
   have hfirst:=fg (P:=P) (w:=w) (len:=es.length) (cap:=cap) (a:=a) hf hlies
   cases a with
   | none=>
    by_cases hne:es=[]
    ·subst hne
     have:ns=[]:=by have:=hf.1; simpa using this
     subst this
     simp at hns; subst hns
     simp [Conv.bytesToString]
     try rfl
    ·obtain ⟨b,o,h1,_⟩:=hlies hne
     cases h1
   | some a=>
    simp only [Builtin.firstCells,Nat.mul_one] at hfirst
    rw [run_bytesToString w a es.length cap ns hfirst,lQ,hns]
    simp
    try rfl
 ·cases h
end Go.AM
