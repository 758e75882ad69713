/- Part of the claim: see its last text. -/
import Derived.Test.YtjhogglgkjcacaaGreatMa0
set_option linter.all false
namespace Go.AM
structure Loc where
 b:Nat
 cap:Nat
 sz:Nat
structure Gh where
 loc:Nat→Option Loc
 mem:Nat→Nat→Option Value
structure Gh.Le (G G':Gh):Prop where
 loc:∀ g l,G.loc g=some l→G'.loc g=some l
 mem:∀ b o v,G.mem b o=some v→G'.mem b o=some v
theorem Gh.Le.refl (G:Gh):G.Le G:=⟨fun _ _ h=>h,fun _ _ _ h=>h⟩
theorem Gh.Le.trans {A B C:Gh} (h:A.Le B) (k:B.Le C):A.Le C:=⟨fun g l e=>k.loc g l (h.loc g l e),fun b o v e=>k.mem b o v (h.mem b o v e)⟩
inductive Rep (G:Gh):AV→Value→Prop
 | undef (v:Value):Rep G .undef v
 | sc (v:Value) (h:iH v=true):Rep G (.sc v) v
 | agg (cs:List AV) (vs:Array Value) (hl:cs.length=vs.size) (h:∀ (j:Nat) (c:AV) (v:Value),cs[j]?=some c→vs[j]?=some v→Rep G c v):Rep G (.agg cs) (.agg vs)
 | tup (cs:List AV) (vs:Array Value) (hl:cs.length=vs.size) (h:∀ (j:Nat) (c:AV) (v:Value),cs[j]?=some c→vs[j]?=some v→Rep G c v):Rep G (.tup cs) (.tuple vs)
 | ptr (g e o:Nat) (l:Loc) (hg:G.loc g=some l):Rep G (.ptr g e o) (.pointer (some ⟨l.b,e*l.sz+o,none⟩))
 | zp (cs:List AV) (o b a:Nat) (f:Nat→Value) (hm:∀ (j:Nat) (c:AV),cs[j]?=some c→G.mem b (a+j)=some (f j)) (h:∀ (j:Nat) (c:AV),cs[j]?=some c→Rep G c (f j)) :
   Rep G (.zp cs o) (.pointer (some ⟨b,a+o,none⟩))
 | row (g off len:Nat) (l:Loc) (a:Option Addr) (hg:G.loc g=some l) (hc:off+len≤l.cap) (ha:off<l.cap→a=some ⟨l.b,off*l.sz,none⟩) (hb:len≤68719476736) :
   Rep G (.row g l.sz off len) (.slice a len (l.cap-off))
 | sl (es:List (List AV)) (full:Bool) (a:Option Addr) (cap b o sz:Nat) (f:Nat→Nat→Value) (hc:es.length≤cap) (hf:full=true→cap=es.length)
   (ha:es≠[]→a=some ⟨b,o,none⟩) (hz:∀ (i:Nat) (e:List AV),es[i]?=some e→e.length=sz)
   (hm:∀ (i:Nat) (e:List AV) (j:Nat) (c:AV),es[i]?=some e→e[j]?=some c→G.mem b (o+i*sz+j)=some (f i j)) (h:∀ (i:Nat) (e:List AV) (j:Nat) (c:AV),es[i]?=some e→e[j]?=some c→Rep G c (f i j)) (hb:es.length≤68719476736) :
   Rep G (.sl es full) (.slice a es.length cap)
 | map (g:Nat) (l:Loc) (hg:G.loc g=some l):Rep G (.map g) (.map (some l.b))
 | fn (f:Fn) (as bs:List AV) (us vs:Array Value) (hl:as.length=us.size) (hl':bs.length=vs.size) (h:∀ (j:Nat) (c:AV) (v:Value),as[j]?=some c→us[j]?=some v→Rep G c v)
   (h':∀ (j:Nat) (c:AV) (v:Value),bs[j]?=some c→vs[j]?=some v→Rep G c v):Rep G (.fn f as bs) (.func f us vs)
 | ifc (t:TypeId) (a:AV) (v:Value) (h:Rep G a v):Rep G (.ifc t a) (.iface t v)
theorem Rep.mono {G G':Gh} (hle:G.Le G') {a:AV} {v:Value} (h:Rep G a v):Rep G' a v:=by
 induction h with
 | undef v=>exact .undef v
 | sc v h=>exact .sc v h
 | agg cs vs hl _ ih=>exact .agg cs vs hl ih
 | tup cs vs hl _ ih=>exact .tup cs vs hl ih
 | ptr g e o l hg=>exact .ptr g e o l (hle.loc _ _ hg)
 | zp cs o b a f hm _ ih=>exact .zp cs o b a f (fun j c hj=>hle.mem _ _ _ (hm j c hj)) ih
 | row g off len l a hg hc ha hb=>exact .row g off len l a (hle.loc _ _ hg) hc ha hb
 | sl es full a cap b o sz f hc hf ha hz hm _ hb ih=>exact .sl es full a cap b o sz f hc hf ha hz (fun i e j c hi hj=>hle.mem _ _ _ (hm i e j c hi hj)) ih hb
 | map g l hg=>exact .map g l (hle.loc _ _ hg)
 | fn f as bs us vs hl hl' _ _ ih ih'=>exact .fn f as bs us vs hl hl' ih ih'
 | ifc t a v _ ih=>exact .ifc t a v ih
def RepL (G:Gh) (as:List AV) (vs:List Value):Prop:=as.length=vs.length∧∀ (j:Nat) (a:AV) (v:Value),as[j]?=some a→vs[j]?=some v→Rep G a v
theorem RepL.nil (G:Gh):RepL G [] []:=⟨rfl,fun j a v h=>by simp at h⟩
theorem RepL.cons {G:Gh} {a:AV} {v:Value} {as:List AV} {vs:List Value} (h:Rep G a v) (t:RepL G as vs):RepL G (a::as) (v::vs):=by
 refine ⟨by simp [t.1],fun j b u hb hu=>?_⟩
 cases j with
 | zero=>simp at hb hu; subst hb; subst hu; exact h
 | succ j=>exact t.2 j b u (by simpa using hb) (by simpa using hu)
theorem RepL.mono {G G':Gh} (hle:G.Le G') {as:List AV} {vs:List Value} (h:RepL G as vs):RepL G' as vs:=⟨h.1,fun j a v ha hv=>(h.2 j a v ha hv).mono hle⟩
theorem RepL.get {G:Gh} {as:List AV} {vs:List Value} (h:RepL G as vs) {j:Nat} {a:AV} (ha:as[j]?=some a):∃ v,vs[j]?=some v∧Rep G a v:=by
 have hj:j<vs.length:=by rw [←h.1]; exact (List.getElem?_eq_some_iff.1 ha).1
 exact ⟨vs[j],List.getElem?_eq_getElem hj,h.2 j a _ ha (List.getElem?_eq_getElem hj)⟩
theorem RepL.take {G:Gh} {as:List AV} {vs:List Value} (h:RepL G as vs) (n:Nat):RepL G (as.take n) (vs.take n):=
 ⟨by simp [h.1],fun j a v ha hv=>by
  rw [List.getElem?_take] at ha hv
  split at ha
  ·rename_i hj; rw [if_pos hj] at hv; exact h.2 j a v ha hv
  ·simp at ha⟩
theorem RepL.drop {G:Gh} {as:List AV} {vs:List Value} (h:RepL G as vs) (n:Nat):RepL G (as.drop n) (vs.drop n):=
 ⟨by simp [h.1],fun j a v ha hv=>by
  rw [List.getElem?_drop] at ha hv
  exact h.2 _ a v ha hv⟩
theorem RepL.append {G:Gh} {as bs:List AV} {vs us:List Value} (h:RepL G as vs) (k:RepL G bs us):RepL G (as++bs) (vs++us):=
 ⟨by simp [h.1,k.1],fun j a v ha hv=>by
  rw [List.getElem?_append] at ha hv
  rw [←h.1] at hv
  split at ha
  ·rename_i hj; rw [if_pos hj] at hv; exact h.2 j a v ha hv
  ·rename_i hj; rw [if_neg hj] at hv; exact k.2 _ a v ha hv⟩
theorem RepL.toAgg {G:Gh} {as:List AV} {vs:List Value} (h:RepL G as vs):Rep G (.agg as) (.agg vs.toArray):=
 .agg as _ (by simp [h.1]) (fun j a v ha hv=>h.2 j a v ha (by simpa using hv))
theorem RepL.toTup {G:Gh} {as:List AV} {vs:List Value} (h:RepL G as vs):Rep G (.tup as) (.tuple vs.toArray):=
 .tup as _ (by simp [h.1]) (fun j a v ha hv=>h.2 j a v ha (by simpa using hv))
theorem Rep.ofAgg {G:Gh} {as:List AV} {v:Value} (h:Rep G (.agg as) v):∃ vs:Array Value,v=.agg vs∧RepL G as vs.toList:=by
 cases h with
 | agg _ vs hl h=>exact ⟨vs,rfl,by simp [hl],fun j a v ha hv=>h j a v ha (by simpa using hv)⟩
theorem Rep.ofTup {G:Gh} {as:List AV} {v:Value} (h:Rep G (.tup as) v):∃ vs:Array Value,v=.tuple vs∧RepL G as vs.toList:=by
 cases h with
 | tup _ vs hl h=>exact ⟨vs,rfl,by simp [hl],fun j a v ha hv=>h j a v ha (by simpa using hv)⟩
theorem RepL.ofCells {G:Gh}:∀ (cs:List Value),(∀ c∈cs,Rep G (iE c) c)→RepL G (cs.map iE) cs
 | [],_=>RepL.nil G
 | c::cs,h=>RepL.cons (h c (by simp)) (RepL.ofCells cs fun d hd=>h d (by simp [hd]))
theorem nM (G:Gh) (v:Value):Rep G (iE v) v:=by
 unfold iE
 split
 ·exact Rep.sl [] true none 0 0 0 0 (fun _ _=>default) (by simp) (by simp) (by simp) (by simp) (by simp) (by simp) (by simp)
 ·rename_i f fs cs
  split
  ·rename_i h
   obtain ⟨h1,h2⟩:=h
   have e1:fs=#[]:=Array.eq_empty_of_size_eq_zero h1
   have e2:cs=#[]:=Array.eq_empty_of_size_eq_zero h2
   subst e1; subst e2
   exact .fn _ [] [] #[] #[] rfl rfl (fun j c v h=>by simp at h) (fun j c v h=>by simp at h)
  ·exact .undef _
 ·split
  ·rename_i h; exact .sc _ h
  ·exact .undef _
theorem eT (G:Gh) (v:Value):Rep G (ofValue v) v:=by
 unfold ofValue
 split
 ·rename_i cs
  have:=(RepL.ofCells cs.toList (fun c _=>nM G c)).toAgg
  simpa using this
 ·exact nM G _
theorem Rep.oneCell {G:Gh} {a:AV} {v:Value} (h:Rep G a v) (hc:a.cell=true):v.oneCell'=true:=by
 cases h <;> simp_all [AV.cell,Value.oneCell'] <;> (rename_i h; cases v <;> simp_all [iH])
theorem Rep.cellsOf {G:Gh} {a:AV} {v:Value} (h:Rep G a v) (hcc:a.cells.all AV.cell=true):RepL G a.cells v.cells.toList:=by
 cases h with
 | agg cs vs hl h=>exact ⟨by simpa [AV.cells,Value.cells] using hl,fun j a v ha hv=>h j a v ha (by simpa [Value.cells] using hv)⟩
 | tup cs vs hl h=>simp [AV.cells,AV.cell] at hcc
 | undef v=>simp [AV.cells,AV.cell] at hcc
 | sc v h=>
  have:v.cells=#[v]:=by cases v <;> simp_all [Value.cells,iH]
  rw [this]; exact RepL.cons (.sc v h) (RepL.nil G)
 | ptr g e o l hg=>exact RepL.cons (.ptr g e o l hg) (RepL.nil G)
 | zp cs o b a f hm h=>exact RepL.cons (.zp cs o b a f hm h) (RepL.nil G)
 | row g off len l a hg hc ha hb=>exact RepL.cons (.row g off len l a hg hc ha hb) (RepL.nil G)
 | sl es full a cap b o sz f hc hf ha hz hm h hb=>exact RepL.cons (.sl es full a cap b o sz f hc hf ha hz hm h hb) (RepL.nil G)
 | map g l hg=>exact RepL.cons (.map g l hg) (RepL.nil G)
 | fn f as bs us vs hl hl' h h'=>exact RepL.cons (.fn f as bs us vs hl hl' h h') (RepL.nil G)
 | ifc t a v h=>exact RepL.cons (.ifc t a v h) (RepL.nil G)
mutual
theorem iD {G:Gh}:∀ (a:AV) (v:Value),Rep G a v→Rep G (norm a) v
 | .agg cs,_,h=>by
  obtain ⟨vs,rfl,hr⟩:=h.ofAgg
  have:=(iW cs vs.toList hr).toAgg
  simpa [norm] using this
 | .tup cs,_,h=>by
  obtain ⟨vs,rfl,hr⟩:=h.ofTup
  have:=(iW cs vs.toList hr).toTup
  simpa [norm] using this
 | .sl es full,_,h=>by
  cases h with
  | sl _ _ a cap b o sz f hc hf ha hz hm h hb=>
   have hle:=kN es
   have hE:=pb es f h
   simp only [norm]
   rw [←hle]
   refine .sl (aP es) false a cap b o sz f (by rw [hle]; exact hc) (by simp) (fun hne=>ha ?_) ?_ ?_ hE.2 (by rw [hle]; exact hb)
   ·intro e; apply hne; rw [e]; rfl
   ·intro i e he
    obtain ⟨e0,h0,hl,_⟩:=hE.1 i e he
    rw [hl]; exact hz i e0 h0
   ·intro i e j c he hj
    obtain ⟨e0,h0,hl,_⟩:=hE.1 i e he
    have hj':j<e0.length:=by rw [←hl]; exact (List.getElem?_eq_some_iff.1 hj).1
    exact hm i e0 j _ h0 (List.getElem?_eq_getElem hj')
 | .undef,_,h=>by simpa [norm] using h
 | .sc _,_,h=>by simpa [norm] using h
 | .ptr ..,_,h=>by simpa [norm] using h
 | .zp ..,_,h=>by simpa [norm] using h
 | .row ..,_,h=>by simpa [norm] using h
 | .map _,_,h=>by simpa [norm] using h
 | .fn ..,_,h=>by simpa [norm] using h
 | .ifc ..,_,h=>by simpa [norm] using h
theorem iW {G:Gh}:∀ (as:List AV) (vs:List Value),RepL G as vs→RepL G (aQ as) vs
 | [],vs,h=>by simpa [aQ] using h
 | a::as,[],h=>by have:=h.1; simp at this
 | a::as,v::vs,h=>by
  simp only [aQ]
  exact RepL.cons (iD a v (h.2 0 a v rfl rfl)) (iW as vs ⟨by simpa using h.1,fun j b u hb hu=>h.2 (j+1) b u (by simpa using hb) (by simpa using hu)⟩)
theorem pb {G:Gh}:∀ (es:List (List AV)) (f:Nat→Nat→Value),(∀ (i:Nat) (e:List AV) (j:Nat) (c:AV),es[i]?=some e→e[j]?=some c→Rep G c (f i j)) →
  (∀ (i:Nat) (e:List AV),(aP es)[i]?=some e→∃ e0:List AV,es[i]?=some e0∧e.length=e0.length∧e=aQ e0)∧∀ (i:Nat) (e:List AV) (j:Nat) (c:AV),(aP es)[i]?=some e→e[j]?=some c→Rep G c (f i j)
 | [],f,h=>⟨fun i e he=>by simp [aP] at he,fun i e j c he=>by simp [aP] at he⟩
 | x::es,f,h=>by
  have ih:=pb es (fun i j=>f (i+1) j) (fun i e j c he hj=>h (i+1) e j c (by simpa using he) hj)
  have hlen:(aQ x).length=x.length:=ft x
  refine ⟨fun i e he=>?_,fun i e j c he hj=>?_⟩
  ·cases i with
   | zero=>simp [aP] at he; subst he; exact ⟨x,rfl,hlen,rfl⟩
   | succ i=>simpa using ih.1 i e (by simpa [aP] using he)
  ·cases i with
   | zero=>
    simp [aP] at he; subst he
    have hr:RepL G x ((List.range x.length).map (f 0)):=⟨by simp,fun k a v ha hv=>by
     have hk:k<x.length:=(List.getElem?_eq_some_iff.1 ha).1
     simp [List.getElem?_map,List.getElem?_range hk] at hv
     subst hv; exact h 0 x k a rfl ha⟩
    obtain ⟨v,hv,hrep⟩:=(iW x _ hr).get hj
    have hk:j<x.length:=by rw [←hlen]; exact (List.getElem?_eq_some_iff.1 hj).1
    simp [List.getElem?_map,List.getElem?_range hk] at hv
    subst hv; exact hrep
   | succ i=>exact ih.2 i e j c (by simpa [aP] using he) hj
theorem ft:∀ (as:List AV),(aQ as).length=as.length
 | []=>rfl
 | a::as=>by simp [aQ,ft as]
theorem kN:∀ (es:List (List AV)),(aP es).length=es.length
 | []=>rfl
 | a::as=>by simp [aP,kN as]
end
end Go.AM
namespace Go.AM
def RowOk (G:Gh) (hp:Array Obj) (l:Loc) (es:List (List AV)):Prop:=
 es.length≤l.cap∧(0<l.cap→∃ (C:Array Value) (e:TypeId),hp[l.b]?=some (.cells C e (0,0))∧l.cap*l.sz≤C.size ∧
  ∀ (i:Nat) (x:List AV),es[i]?=some x→x.length=l.sz∧∀ (j:Nat) (a:AV),x[j]?=some a→a.cell=true∧∃ v,C[i*l.sz+j]?=some v∧Rep G a v)
def MapOk (G:Gh) (hp:Array Obj) (l:Loc) (kv:List (AV×AV)):Prop:=
 0<l.cap∧∃ (es:Array MapEntry) (clock:Nat),hp[l.b]?=some (.map es clock)∧es.size=kv.length ∧
  (∀ (i:Nat) (e:MapEntry) (p:AV×AV),es[i]?=some e→kv[i]?=some p→Rep G p.1 e.key∧Rep G p.2 e.val∧e.born<clock) ∧
  (∀ (i j:Nat) (e e':MapEntry),es[i]?=some e→es[j]?=some e'→e.born=e'.born→i=j)
def wD (G:Gh) (s:St) (hp:Array Obj) (l:Loc) (m ver:Nat) (done:List Nat):Prop:=
 0<l.cap∧ver<s.c∧∃ (lm:Loc) (since last:Nat) (seen:Array Nat),G.loc m=some lm∧hp[l.b]?=some (.mapIter (some lm.b) since seen last) ∧
  ∀ kv,s.h m=some (.map kv ver)→∃ (es:Array MapEntry) (clock:Nat),hp[lm.b]?=some (.map es clock)∧clock=since∧clock=last ∧
   (∀ (i:Nat) (e:MapEntry),es[i]?=some e→(e.born∈seen↔i∈done))∧∀ (i:Nat) (e:MapEntry),done.getLast?=some i→es[i]?=some e→seen.back?=some e.born
def lh (G:Gh) (s:St) (hp:Array Obj) (l:Loc):Body→Prop
 | .row sz es st par=>l.sz=sz∧0<sz∧RowOk G hp l es∧(st≠.frz→0<l.cap→∀ k,G.mem l.b k=none)
 | .map kv ver=>MapOk G hp l kv∧ver<s.c
 | .iter m ver done=>wD G s hp l m ver done
def kr (G:Gh) (s:St) (i j:Nat) (li:Loc):Prop:=
 ∃ (sz k:Nat) (es:List (List AV)) (par:Option Nat),s.h i=some (.row sz es (.lent k) par)∧k≤j ∧
  (∃ (sz':Nat) (es':List (List AV)) (st':RSt) (par':Option Nat) (lk:Loc),s.h k=some (.row sz' es' st' par')∧G.loc k=some lk∧lk.b=li.b∧0<lk.cap) ∧
  ∃ (sz':Nat) (es':List (List AV)) (st':RSt) (p:Nat),s.h j=some (.row sz' es' st' (some p))∧es.length≤es'.length∧sz=sz'
structure Sim (G:Gh) (s:St) (w:World):Prop where
 mem:∀ b o v,G.mem b o=some v→w.cell? ⟨b,o,none⟩=some v
 dom:∀ g l,G.loc g=some l→g<s.c
 blk:∀ g b,s.h g=some b→∃ l,G.loc g=some l∧lh G s w.heap l b
 ov:∀ i j bi bj li lj,i<j→s.h i=some bi→s.h j=some bj→G.loc i=some li→G.loc j=some lj→li.b=lj.b→0<li.cap→0<lj.cap→kr G s i j li
def mR (G:Gh) (s:St) (b:Nat):Prop:=∃ g body l,s.h g=some body∧G.loc g=some l∧l.b=b∧0<l.cap
structure Stp (G:Gh) (s:St) (w:World) (G':Gh) (s':St) (w':World):Prop where
 le:G.Le G'
 c:s.c≤s'.c
 os:w'.os=w.os
 tape:w'.tape=w.tape
 output:w'.output=w.output
 size:w.heap.size≤w'.heap.size
 keep:∀ b,b<w.heap.size→¬mR G s b→w'.heap[b]?=w.heap[b]?
 own:∀ b,b<w.heap.size→mR G' s' b→mR G s b
theorem Stp.refl (G:Gh) (s:St) (w:World):Stp G s w G s w:=⟨.refl G,Nat.le_refl _,rfl,rfl,rfl,Nat.le_refl _,fun _ _ _=>rfl,fun _ _ h=>h⟩
theorem Stp.trans {G G1 G2:Gh} {s s1 s2:St} {w w1 w2:World} (h:Stp G s w G1 s1 w1) (k:Stp G1 s1 w1 G2 s2 w2):Stp G s w G2 s2 w2 where
 le:=h.le.trans k.le
 c:=Nat.le_trans h.c k.c
 os:=k.os.trans h.os
 tape:=k.tape.trans h.tape
 output:=k.output.trans h.output
 size:=Nat.le_trans h.size k.size
 keep b hb ho:=(k.keep b (Nat.lt_of_lt_of_le hb h.size) fun x=>ho (h.own b hb x)).trans (h.keep b hb ho)
 own b hb x:=h.own b hb (k.own b (Nat.lt_of_lt_of_le hb h.size) x)
theorem du {w w':World} {b o:Nat} (h:w'.heap[b]?=w.heap[b]?):w'.cell? ⟨b,o,none⟩=w.cell? ⟨b,o,none⟩:=by
 simp [World.cell?,h]
theorem lq {w:World} {b o:Nat} {C:Array Value} {e:TypeId} {fr:Nat×Nat} (h:w.heap[b]?=some (.cells C e fr)):w.cell? ⟨b,o,none⟩=C[o]?:=by
 simp [World.cell?,h]
theorem cK {w:World} {b:Nat} {o:Obj} (h:w.heap[b]?=some o):b<w.heap.size:=(Array.getElem?_eq_some_iff.1 h).1
theorem RowOk.keep {G G':Gh} {hp hp':Array Obj} {l:Loc} {es:List (List AV)} (h:RowOk G hp l es) (hle:G.Le G') (hb:0<l.cap→hp'[l.b]?=hp[l.b]?):RowOk G' hp' l es:=
 ⟨h.1,fun hc=>by
  obtain ⟨C,e,h1,h2,h3⟩:=h.2 hc
  refine ⟨C,e,(hb hc).trans h1,h2,fun i x hx=>⟨(h3 i x hx).1,fun j a ha=>?_⟩⟩
  obtain ⟨h4,v,h5,h6⟩:=(h3 i x hx).2 j a ha
  exact ⟨h4,v,h5,h6.mono hle⟩⟩
theorem MapOk.keep {G G':Gh} {hp hp':Array Obj} {l:Loc} {kv:List (AV×AV)} (h:MapOk G hp l kv) (hle:G.Le G') (hb:hp'[l.b]?=hp[l.b]?):MapOk G' hp' l kv:=by
 obtain ⟨h0,es,clock,h1,h2,h3,h4⟩:=h
 exact ⟨h0,es,clock,hb.trans h1,h2,fun i e p he hp=>⟨((h3 i e p he hp).1).mono hle,((h3 i e p he hp).2.1).mono hle,(h3 i e p he hp).2.2⟩,h4⟩
theorem Sim.grow {G:Gh} {s:St} {w w':World} (hS:Sim G s w) (hb:∀ b,b<w.heap.size→w'.heap[b]?=w.heap[b]?):Sim G s w':=by
 have hlt:∀ g b l,s.h g=some b→G.loc g=some l→0<l.cap→w'.heap[l.b]?=w.heap[l.b]?:=by
  intro g b l hg hl hc
  obtain ⟨l',hl',hok⟩:=hS.blk g b hg
  rw [hl] at hl'; injection hl' with e; subst e
  cases b with
  | row sz es st par=>obtain ⟨C,e,h1,_⟩:=hok.2.2.1.2 hc; exact hb _ (cK h1)
  | map kv ver=>obtain ⟨⟨_,es,clock,h1,_⟩,_⟩:=hok; exact hb _ (cK h1)
  | iter m ver done=>obtain ⟨_,_,lm,since,last,seen,h1,h2,_⟩:=hok; exact hb _ (cK h2)
 refine ⟨fun b o v hm=>?_,hS.dom,fun g b hg=>?_,hS.ov⟩
 ·have h:=hS.mem b o v hm
  have hlt':b<w.heap.size:=World.block_lt_of_cell? w ⟨b,o,none⟩ h
  rw [du (hb b hlt')]; exact h
 ·obtain ⟨l,hl,hok⟩:=hS.blk g b hg
  refine ⟨l,hl,?_⟩
  cases b with
  | row sz es st par=>exact ⟨hok.1,hok.2.1,hok.2.2.1.keep (.refl G) (fun hc=>hlt g _ l hg hl hc),hok.2.2.2⟩
  | map kv ver=>exact ⟨MapOk.keep hok.1 (.refl G) (hlt g _ l hg hl hok.1.1),hok.2⟩
  | iter m ver done=>
   obtain ⟨h0,hv,lm,since,last,seen,h1,h2,h3⟩:=hok
   refine ⟨h0,hv,lm,since,last,seen,h1,(hb _ (cK h2)).trans h2,fun kv hkv=>?_⟩
   obtain ⟨es,clock,h4,h5⟩:=h3 kv hkv
   exact ⟨es,clock,(hb _ (cK h4)).trans h4,h5⟩
theorem Sim.drew {G:Gh} {s:St} {w:World} (hS:Sim G s w):Sim G s w.drew:=hS.grow fun _ _=>rfl
def Gh.addLoc (G:Gh) (g:Nat) (l:Loc):Gh:={ G with loc:=fun k=>if k=g then some l else G.loc k }
theorem Gh.le_addLoc {G:Gh} {g:Nat} {l:Loc} (h:G.loc g=none):G.Le (G.addLoc g l):=
 ⟨fun k l' hk=>by
  simp only [Gh.addLoc]
  split
  ·rename_i e; subst e; rw [h] at hk; cases hk
  ·exact hk,fun _ _ _ h=>h⟩
theorem Sim.fresh {G:Gh} {s:St} {w:World} (hS:Sim G s w):G.loc s.c=none:=by
 cases h:G.loc s.c with
 | none=>rfl
 | some l=>exact absurd (hS.dom _ _ h) (Nat.lt_irrefl _)
theorem Sim.blkLt {G:Gh} {s:St} {w:World} (hS:Sim G s w) {g:Nat} {b:Body} {l:Loc} (hg:s.h g=some b) (hl:G.loc g=some l) (hc:0<l.cap):l.b<w.heap.size:=by
 obtain ⟨l',hl',hok⟩:=hS.blk g b hg
 rw [hl] at hl'; injection hl' with e; subst e
 cases b with
 | row sz es st par=>obtain ⟨C,e,h1,_⟩:=hok.2.2.1.2 hc; exact cK h1
 | map kv ver=>obtain ⟨⟨_,es,clock,h1,_⟩,_⟩:=hok; exact cK h1
 | iter m ver done=>obtain ⟨_,_,lm,since,last,seen,h1,h2,_⟩:=hok; exact cK h2
theorem Sim.hLt {G:Gh} {s:St} {w:World} (hS:Sim G s w) {g:Nat} {b:Body} (hg:s.h g=some b):g<s.c:=by
 obtain ⟨l,hl,_⟩:=hS.blk g b hg
 exact hS.dom g l hl
theorem Sim.memLt {G:Gh} {s:St} {w:World} (hS:Sim G s w) {b o:Nat} {v:Value} (h:G.mem b o=some v):b<w.heap.size:=
 World.block_lt_of_cell? w ⟨b,o,none⟩ (hS.mem b o v h)
theorem uT {G:Gh} {s:St} {i j:Nat} {li:Loc} {l:Loc} {b:Body} {c':Nat} (hS:∀ g b,s.h g=some b→g<s.c) (h:kr G s i j li) :
  kr (G.addLoc s.c l) { h:=upd s.h s.c (some b),c:=c' } i j li:=by
 obtain ⟨sz,k,es,par,h1,h2,⟨sz',es',st',par',lk,h3,h4,h5⟩,sz'',es'',st'',p,h6,h7⟩:=h
 have hi:=hS _ _ h1
 have hk:=hS _ _ h3
 have hj:=hS _ _ h6
 refine ⟨sz,k,es,par,?_,h2,⟨sz',es',st',par',lk,?_,?_,h5⟩,sz'',es'',st'',p,?_,h7⟩
 ·show upd s.h s.c (some b) i=_; unfold upd; rw [if_neg (Nat.ne_of_lt hi)]; exact h1
 ·show upd s.h s.c (some b) k=_; unfold upd; rw [if_neg (Nat.ne_of_lt hk)]; exact h3
 ·show (if k=s.c then some l else G.loc k)=_; rw [if_neg (Nat.ne_of_lt hk)]; exact h4
 ·show upd s.h s.c (some b) j=_; unfold upd; rw [if_neg (Nat.ne_of_lt hj)]; exact h6
theorem sN {G:Gh} {s:St} {w w':World} {g:Nat} {b b':Body} {l l':Loc} {c':Nat} (hS:Sim G s w) (hc:s.c<c') (hg:s.h g=some b) (hl:G.loc g=some l)
  (hok:lh G s w.heap l b) (hb:∀ b,b<w.heap.size→w'.heap[b]?=w.heap[b]?) (hv:∀ kv ver,b'=.map kv ver→s.c≤ver) :
  lh (G.addLoc s.c l') { h:=upd s.h s.c (some b'),c:=c' } w'.heap l b:=by
 have hle:G.Le (G.addLoc s.c l'):=Gh.le_addLoc hS.fresh
 cases b with
 | row sz es st par=>
  exact ⟨hok.1,hok.2.1,hok.2.2.1.keep hle (fun h=>hb _ (hS.blkLt hg hl h)),hok.2.2.2⟩
 | map kv ver=>exact ⟨MapOk.keep hok.1 hle (hb _ (hS.blkLt hg hl hok.1.1)),Nat.lt_trans hok.2 hc⟩
 | iter m ver done=>
  obtain ⟨h0,hv',lm,since,last,seen,h1,h2,h3⟩:=hok
  have hm:=hS.dom _ _ h1
  refine ⟨h0,Nat.lt_trans hv' hc,lm,since,last,seen,hle.loc _ _ h1,(hb _ (cK h2)).trans h2,fun kv hkv=>?_⟩
  have hkv':s.h m=some (.map kv ver):=by
   have:upd s.h s.c (some b') m=some (.map kv ver):=hkv
   unfold upd at this; rwa [if_neg (Nat.ne_of_lt hm)] at this
  obtain ⟨es,clock,h4,h5⟩:=h3 kv hkv'
  exact ⟨es,clock,(hb _ (cK h4)).trans h4,h5⟩
theorem Sim.add {G:Gh} {s:St} {w w':World} {b':Body} {l':Loc} {c':Nat} (hS:Sim G s w) (hc:s.c<c') (hb:∀ b,b<w.heap.size→w'.heap[b]?=w.heap[b]?)
  (hnew:0<l'.cap→w.heap.size≤l'.b) (hv:∀ kv ver,b'=.map kv ver→s.c≤ver)
  (hok:lh (G.addLoc s.c l') { h:=upd s.h s.c (some b'),c:=c' } w'.heap l' b') :
  Sim (G.addLoc s.c l') { h:=upd s.h s.c (some b'),c:=c' } w':=by
 have hle:G.Le (G.addLoc s.c l'):=Gh.le_addLoc hS.fresh
 refine ⟨fun b o v hm=>?_,fun g l hg=>?_,fun g b hg=>?_,?_⟩
 ·have h:=hS.mem b o v hm
  rw [du (hb b (hS.memLt hm))]; exact h
 ·have:(if g=s.c then some l' else G.loc g)=some l:=hg
  split at this
  ·rename_i e; subst e; exact hc
  ·exact Nat.lt_trans (hS.dom g l this) hc
 ·have:upd s.h s.c (some b') g=some b:=hg
  unfold upd at this
  split at this
  ·rename_i e; subst e; injection this with e; subst e
   exact ⟨l',by simp [Gh.addLoc],hok⟩
  ·obtain ⟨l,hl,hok'⟩:=hS.blk g b this
   exact ⟨l,hle.loc _ _ hl,sN hS hc this hl hok' hb hv⟩
 ·intro i j bi bj li lj hij hi hj hli hlj he hci hcj
  have hi':upd s.h s.c (some b') i=some bi:=hi
  have hj':upd s.h s.c (some b') j=some bj:=hj
  have hli':(if i=s.c then some l' else G.loc i)=some li:=hli
  have hlj':(if j=s.c then some l' else G.loc j)=some lj:=hlj
  unfold upd at hi' hj'
  by_cases e1:j=s.c
  ·rw [if_pos e1] at hlj'; injection hlj' with e; subst e
   have e2:i≠s.c:=by omega
   rw [if_neg e2] at hi' hli'
   have:=hS.blkLt hi' hli' hci
   have:=hnew hcj
   omega
  ·rw [if_neg e1] at hj' hlj'
   have hjc:=hS.hLt hj'
   have e2:i≠s.c:=by omega
   rw [if_neg e2] at hi' hli'
   exact uT (fun g b h=>hS.hLt h) (hS.ov i j bi bj li lj hij hi' hj' hli' hlj' he hci hcj)
theorem Stp.add {G:Gh} {s:St} {w w':World} {b':Body} {l':Loc} {c':Nat} (hS:Sim G s w) (hc:s.c<c') (hb:∀ b,b<w.heap.size→w'.heap[b]?=w.heap[b]?)
  (hnew:0<l'.cap→w.heap.size≤l'.b) (hsz:w.heap.size≤w'.heap.size) (ho:w'.os=w.os) (ht:w'.tape=w.tape) (hp:w'.output=w.output) :
  Stp G s w (G.addLoc s.c l') { h:=upd s.h s.c (some b'),c:=c' } w' where
 le:=Gh.le_addLoc hS.fresh
 c:=Nat.le_of_lt hc
 os:=ho
 tape:=ht
 output:=hp
 size:=hsz
 keep b hlt _:=hb b hlt
 own b hlt:=by
  rintro ⟨g,body,l,hg,hl,he,hcap⟩
  have hg':upd s.h s.c (some b') g=some body:=hg
  have hl':(if g=s.c then some l' else G.loc g)=some l:=hl
  unfold upd at hg'
  by_cases e:g=s.c
  ·rw [if_pos e] at hl'; injection hl' with e'; subst e'
   have:=hnew hcap
   omega
  ·rw [if_neg e] at hg' hl'
   exact ⟨g,body,l,hg',hl',he,hcap⟩
end Go.AM
