/- Part of the claim: see its last text. -/
import Derived.Test.YtjhogglgkjcacaaGreatMa3
import Derived.Laws.Entries
import Derived.Laws.CopyRow
import Derived.ChangeKeysEq
set_option linter.all false
namespace Go.AM
def Out (P:Program) (x:Sem Value) (G:Gh) (s:St) (w:World) (av:AV) (s':St):Prop:=
 ∃ v w' G',x.run P w=.ok v w'∧Stp G s w G' s' w'∧Sim G' s' w'∧Rep G' av v
theorem Out.quiet {P:Program} {x:Sem Value} {G:Gh} {s:St} {w:World} {av:AV} {v:Value} (hS:Sim G s w) (h:x.run P w=.ok v w) (hr:Rep G av v):Out P x G s w av s:=
 ⟨v,w,G,h,Stp.refl G s w,hS,hr⟩
def tAg (P:Program) (t:TypeId):Option (Option Nat):=match P.underlying t with
 | some (.struct _) | some (.array _ _)=>(P.info? t).map fun i=>some i.size
 | some _=>some none
 | none=>none
theorem qB {P:Program} {t:TypeId} {n:Nat} (h:tAg P t=some (some n)) (w:World):(isAgg t).run P w=.ok true w∧(sizeOf t).run P w=.ok n w:=by
 unfold tAg at h
 have hs:∀ d,P.underlying t=some d→(match d with | .struct _ | .array _ _=>true | _=>false)=true→(P.info? t).map (fun i=>some i.size)=some (some n)→(isAgg t).run P w=.ok true w∧(sizeOf t).run P w=.ok n w:=by
  intro d hu hd hi
  cases hi':P.info? t with
  | none=>simp [hi'] at hi
  | some i=>
   simp [hi'] at hi
   refine ⟨?_,by simp [sizeOf,typeInfo,hi',hi]⟩
   cases d <;> simp at hd <;> simp [isAgg,run_underlying hu]
 split at h
 ·exact hs _ ‹_› rfl h
 ·exact hs _ ‹_› rfl h
 ·simp at h
 ·simp at h
theorem qA {P:Program} {t:TypeId} (h:tAg P t=some none) (w:World):(isAgg t).run P w=.ok false w:=by
 unfold tAg at h
 split at h
 ·simp at h
 ·simp at h
 ·rename_i d h1 h2 hu
  cases d <;> first | (exact absurd rfl (h1 _)) | (exact absurd rfl (h2 _ _)) | simp [isAgg,run_underlying hu]
 ·simp at h
def pD (w:World) (b o:Nat) (vs:List Value):Prop:=∀ (j:Nat) (v:Value),vs[j]?=some v→w.cell? ⟨b,o+j,none⟩=some v
theorem er (b o j:Nat):(⟨b,o,none⟩:Addr).add j=⟨b,o+j,none⟩:=by unfold Addr.add; split <;> simp_all
theorem fo {P:Program} {w:World} {t:TypeId} {b o:Nat} {cs:List AV} {G:Gh} {vs:List Value} (hl:pD w b o vs) (hr:RepL G cs vs) {ag:Option Nat} (hag:tAg P t=some ag) {k:Nat} {av:AV}
  (h:cK ag cs k=some av):∃ v,(loadVar t ⟨b,o+k,none⟩).run P w=.ok v w∧Rep G av v:=by
 cases ag with
 | some n=>
  simp only [cK] at h
  split at h
  ·rename_i hle
   injection h with h; subst h
   obtain ⟨h1,h2⟩:=qB hag w
   refine ⟨.agg ((vs.drop k).take n).toArray,?_,(hr.drop k |>.take n).toAgg⟩
   have hlen:((vs.drop k).take n).length=n:=by simp [←hr.1]; omega
   have hc:=run_loadCells_list (P:=P) w ⟨b,o+k,none⟩ ((vs.drop k).take n) (fun j v hv=>by
    rw [er,Nat.add_assoc]
    rw [List.getElem?_take] at hv
    split at hv
    ·rw [List.getElem?_drop] at hv; exact hl _ _ hv
    ·cases hv)
   rw [hlen] at hc
   simp [loadVar,h1,h2,hc]
  ·cases h
 | none=>
  simp only [cK] at h
  obtain ⟨v,hv,hrep⟩:=hr.get h
  refine ⟨v,?_,hrep⟩
  simp [loadVar,qA hag w,hl _ _ hv]
theorem Sim.elem {G:Gh} {s:St} {w:World} (hS:Sim G s w) {g e:Nat} {cs:List AV} (h:s.elem g e=some cs) :
  ∃ l,G.loc g=some l∧∃ vs,pD w l.b (e*l.sz) vs∧RepL G cs vs∧0<l.cap∧cs.length=l.sz:=by
 unfold St.elem at h
 split at h
 ·rename_i sz es st par hg
  obtain ⟨l,hl,hsz,hpos,hrow,_⟩:=hS.blk g _ hg
  have hlt:e<es.length:=(List.getElem?_eq_some_iff.1 h).1
  have hcap:0<l.cap:=by have:=hrow.1; omega
  obtain ⟨C,t,h1,h2,h3⟩:=hrow.2 hcap
  obtain ⟨h4,h5⟩:=h3 e cs h
  refine ⟨l,hl,(List.range cs.length).map (fun j=>C.getD (e*l.sz+j) default),?_,⟨by simp,?_⟩,hcap,h4⟩
  ·intro j v hv
   have hj:j<cs.length:=by have:=(List.getElem?_eq_some_iff.1 hv).1; simpa using this
   obtain ⟨_,u,hu,_⟩:=h5 j _ (List.getElem?_eq_getElem hj)
   simp [List.getElem?_map,List.getElem?_range hj] at hv
   rw [lz h1,hu,←hv,hu]; rfl
  ·intro j a v ha hv
   have hj:j<cs.length:=(List.getElem?_eq_some_iff.1 ha).1
   obtain ⟨_,u,hu,hrep⟩:=h5 j a ha
   simp [List.getElem?_map,List.getElem?_range hj,hu] at hv
   subst hv; exact hrep
 ·cases h
theorem Sim.zp {G:Gh} {s:St} {w:World} (hS:Sim G s w) {cs:List AV} {o:Nat} {v:Value} (h:Rep G (.zp cs o) v) :
  ∃ b a vs,v=.pointer (some ⟨b,a+o,none⟩)∧pD w b a vs∧RepL G cs vs:=by
 cases h with
 | zp _ _ b a f hm h=>
  refine ⟨b,a,(List.range cs.length).map f,rfl,fun j v hv=>?_,by simp,fun j c v hc hv=>?_⟩
  ·have hj:j<cs.length:=by have:=(List.getElem?_eq_some_iff.1 hv).1; simpa using this
   simp [List.getElem?_map,List.getElem?_range hj] at hv
   subst hv
   exact hS.mem _ _ _ (hm j _ (List.getElem?_eq_getElem hj))
  ·have hj:j<cs.length:=(List.getElem?_eq_some_iff.1 hc).1
   simp [List.getElem?_map,List.getElem?_range hj] at hv
   subst hv; exact h j c hc
theorem xQ {P:Program} {G:Gh} {s:St} {w:World} {t:TypeId} {ag:Option Nat} (hag:tAg P t=some ag) {a av:AV} {x:Value} (h:ldI ag a s=some av) (hr:Rep G a x) (hS:Sim G s w) :
  Out P (Instr.loadAt t x) G s w av s:=by
 unfold ldI at h
 split at h
 ·rename_i g e o
  cases he:s.elem g e with
  | none=>simp [he] at h
  | some cs=>
   simp [he] at h
   obtain ⟨l,hl,vs,hlies,hrl,_⟩:=hS.elem he
   cases hr with
   | ptr _ _ _ l' hg=>
    rw [hl] at hg; injection hg with hg; subst hg
    obtain ⟨v,hv,hrep⟩:=fo (P:=P) hlies hrl hag h
    exact .quiet hS (by simp [Instr.loadAt,Instr.sureAddr,hv]) hrep
 ·rename_i cs o
  obtain ⟨b,a,vs,rfl,hlies,hrl⟩:=hS.zp hr
  obtain ⟨v,hv,hrep⟩:=fo (P:=P) hlies hrl hag h
  exact .quiet hS (by simp [Instr.loadAt,Instr.sureAddr,hv]) hrep
 ·cases h
def tSz (P:Program) (t:TypeId):Option Nat:=(P.info? t).map (·.size)
theorem rA {P:Program} {t:TypeId} {n:Nat} (h:tSz P t=some n) (w:World):(sizeOf t).run P w=.ok n w:=by
 unfold tSz at h
 cases hi:P.info? t with
 | none=>simp [hi] at h
 | some i=>simp [hi] at h; simp [sizeOf,typeInfo,hi,h]
def u9 (P:Program) (st:TypeId) (f:Nat):Option Nat:=match P.underlying st with
 | some (.struct fields)=>match fields[f]? with
  | some fd=>match tSz P fd.type with
   | some (_+1)=>some fd.offset
   | _=>none
  | none=>none
 | _=>none
theorem xJ {P:Program} {G:Gh} {s:St} {w:World} {t:TypeId} {f off:Nat} (ht:u9 P t f=some off) {a av:AV} {x:Value} (h:faI off a=some av) (hr:Rep G a x) (hS:Sim G s w) :
  Out P (Instr.fieldAt t x f) G s w av s:=by
 unfold u9 at ht
 split at ht
 ·rename_i fields hu
  split at ht
  ·rename_i fd hf
   split at ht
   ·rename_i n hn
    injection ht with ht; subst ht
    have hrun:∀ (b o:Nat),(Instr.fieldAt t (.pointer (some ⟨b,o,none⟩)) f).run P w=.ok (.pointer (some ⟨b,o+fd.offset,none⟩)) w:=by
     intro b o
     simp [Instr.fieldAt,run_underlying hu,hf,Instr.sureAddr,fieldPlace,rA hn,er]
    unfold faI at h
    split at h
    ·rename_i g e o
     injection h with h; subst h
     cases hr with
     | ptr _ _ _ l hg=>exact .quiet hS (hrun _ _) (by rw [Nat.add_assoc]; exact .ptr g e (o+fd.offset) l hg)
    ·rename_i cs o
     injection h with h; subst h
     cases hr with
     | zp _ _ b a f' hm hz=>exact .quiet hS (hrun _ _) (by rw [Nat.add_assoc]; exact .zp cs (o+fd.offset) b a f' hm hz)
    ·cases h
   ·cases ht
  ·cases ht
 ·cases ht
def tFd (P:Program) (st:TypeId) (f:Nat):Option (Option Nat×Nat):=match P.underlying st with
 | some (.struct fields)=>match fields[f]? with
  | some fd=>(tAg P fd.type).map fun ag=>(ag,fd.offset)
  | none=>none
 | _=>none
theorem qV {P:Program} {G:Gh} {w:World} {t:TypeId} {ag:Option Nat} (hag:tAg P t=some ag) {cs:List AV} {vs:Array Value} (hr:RepL G cs vs.toList) {off:Nat} {av:AV}
  (h:cK ag cs off=some av):∃ v,(part t vs off).run P w=.ok v w∧Rep G av v:=by
 cases ag with
 | some n=>
  simp only [cK] at h
  split at h
  ·injection h with h; subst h
   obtain ⟨h1,h2⟩:=qB hag w
   refine ⟨.agg (vs.extract off (off+n)),by simp [part,h1,h2],?_⟩
   have:=(hr.drop off |>.take n).toAgg
   have e:((vs.toList.drop off).take n).toArray=vs.extract off (off+n):=by
    apply Array.ext'
    simp [Array.toList_extract,List.extract_eq_take_drop]
   rwa [e] at this
  ·cases h
 | none=>
  simp only [cK] at h
  obtain ⟨v,hv,hrep⟩:=hr.get h
  exact ⟨v,by simp [part,qA hag w,(by simpa using hv:vs[off]?=some v)],hrep⟩
theorem xK {P:Program} {G:Gh} {s:St} {w:World} {t:TypeId} {f:Nat} {ag:Option Nat} {off:Nat} (ht:tFd P t f=some (ag,off)) {a av:AV} {x:Value} (h:fdI ag off a=some av) (hr:Rep G a x) (hS:Sim G s w) :
  Out P (Instr.field t x f) G s w av s:=by
 unfold tFd at ht
 split at ht
 ·rename_i fields hu
  split at ht
  ·rename_i fd hf
   cases hag:tAg P fd.type with
   | none=>simp [hag] at ht
   | some ag'=>
    simp [hag] at ht
    obtain ⟨e1,e2⟩:=ht
    subst e1; subst e2
    unfold fdI at h
    split at h
    ·obtain ⟨vs,rfl,hrl⟩:=hr.ofAgg
     obtain ⟨v,hv,hrep⟩:=qV (P:=P) (w:=w) hag hrl h
     exact .quiet hS (by simp [Instr.field,run_underlying hu,hf,asAgg,hv]) hrep
    ·cases h
  ·cases ht
 ·cases ht
def dJ (P:Program) (t:TypeId):Option (TypeId×TypeInfo):=match P.underlying t with
 | some (.slice e)=>(P.info? e).map fun i=>(e,i)
 | _=>none
theorem dn {P:Program} {t e:TypeId} {i:TypeInfo} (h:dJ P t=some (e,i)):P.underlying t=some (.slice e)∧P.info? e=some i:=by
 unfold dJ at h
 split at h
 ·rename_i e' hu
  cases hi:P.info? e' with
  | none=>simp [hi] at h
  | some i'=>simp [hi] at h; obtain ⟨rfl,rfl⟩:=h; exact ⟨hu,hi⟩
 ·cases h
theorem iw {G:Gh} {a:AV} {x:Value} {n:Int} (h:asI a=some n) (hr:Rep G a x):∃ k,x=.int k n:=by
 unfold asI at h
 split at h
 ·injection h with h; subst h
  cases hr with
  | sc _ _=>exact ⟨_,rfl⟩
 ·cases h
theorem xO {P:Program} {G:Gh} {s:St} {w:World} {t e:TypeId} {i:TypeInfo} (ht:dJ P t=some (e,i)) {a ai av:AV} {x xi:Value} (h:iaI i.size a ai=some av)
  (hr:Rep G a x) (hri:Rep G ai xi) (hS:Sim G s w):Out P (Instr.indexAt t x xi) G s w av s:=by
 obtain ⟨hu,hi⟩:=dn ht
 unfold iaI at h
 cases hn:asI ai with
 | none=>simp [hn] at h
 | some n=>
  obtain ⟨k,rfl⟩:=iw hn hri
  simp only [hn] at h
  split at h
  ·rename_i g sz' off len
   split at h
   ·rename_i hc
    obtain ⟨hse,h0,hlt⟩:=hc
    injection h with h; subst h
    cases hr with
    | row _ _ _ l ao hg hcap ha=>
     have hoff:off<l.cap:=by omega
     have hao:=ha hoff
     subst hao
     refine .quiet hS (v:=.pointer (some ⟨l.b,(off+n.toNat)*l.sz+0,none⟩)) ?_ (.ptr _ _ 0 l hg)
     have hlt':n<(len:Int):=hlt
     simp [Instr.indexAt,asIntOf,run_underlying hu,sizeOf,typeInfo,er,Nat.add_mul, *]
   ·cases h
  ·rename_i es full
   split at h
   ·rename_i h0
    split at h
    ·rename_i cs hcs
     split at h
     ·rename_i hlen
      injection h with h; subst h
      have hlt:n.toNat<es.length:=(List.getElem?_eq_some_iff.1 hcs).1
      cases hr with
      | sl _ _ ao cap b o sz f hc hf ha hz hm hrep=>
       have hao:=ha (by intro e; subst e; simp at hlt)
       subst hao
       have hsz:=hz _ _ hcs
       have hsz':sz=i.size:=by omega
       subst hsz'
       refine .quiet hS (v:=.pointer (some ⟨b,o+n.toNat*i.size+0,none⟩)) ?_ (.zp cs 0 b _ (f n.toNat) (fun j c hj=>hm _ _ _ _ hcs hj) (fun j c hj=>hrep _ _ _ _ hcs hj))
       have hlt':n<(es.length:Int):=by omega
       simp [Instr.indexAt,asIntOf,run_underlying hu,h0,hlt',sizeOf,typeInfo,hi,er]
     ·cases h
    ·cases h
   ·cases h
  ·cases h
theorem xP {P:Program} {G:Gh} {s:St} {w:World} {t:TypeId} (hu:P.underlying t=some .string) {a ai av:AV} {x xi:Value} (h:ixI a ai=some av)
  (hr:Rep G a x) (hri:Rep G ai xi) (hS:Sim G s w):Out P (Instr.index t x xi) G s w av s:=by
 unfold ixI at h
 split at h
 ·rename_i st n hn
  obtain ⟨k,rfl⟩:=iw hn hri
  cases hr with
  | sc _ _=>
   split at h
   ·rename_i h0
    cases hb:st[n.toNat]? with
    | none=>simp [hb] at h
    | some b=>
     simp [hb] at h; subst h
     exact .quiet hS (v:=.int .u8 b.toNat) (by simp [Instr.index,asIntOf,run_underlying hu,h0,hb]) (.sc _ rfl)
   ·cases h
 ·cases h
theorem xY {P:Program} {G:Gh} {w:World} {a:AV} {x:Value} (hr:Rep G a x) (h:(∃ g e o,a=.ptr g e o)∨(∃ cs o,a=.zp cs o)∨(∃ f l m,a=.fn (.func f) l m)) {o:Oper} {y:Operand} {ρ:Operand→Value} (ho:o.op=.nilCheck y)
  (hx:ρ y=x):(execOp ρ o).run P w=.ok (.value x) w:=by
 rcases h with ⟨g,e,oo,rfl⟩ | ⟨cs,oo,rfl⟩ | ⟨f,l,m,rfl⟩ <;> cases hr <;> simp [execOp,ho,hx]
theorem xI {P:Program} {G:Gh} {s:St} {w:World} {a av:AV} {x:Value} {i:Nat} (h:exI a i=some av) (hr:Rep G a x) (hS:Sim G s w):Out P (Instr.extract x i) G s w av s:=by
 unfold exI at h
 split at h
 ·obtain ⟨vs,rfl,hrl⟩:=hr.ofTup
  obtain ⟨v,hv,hrep⟩:=hrl.get h
  exact .quiet hS (by simp [Instr.extract,(by simpa using hv:vs[i]?=some v)]) hrep
 ·cases h
end Go.AM
