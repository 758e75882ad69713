/- Part of the claim: see its last text. -/
import Derived.Test.YtjhogglgkjcacaaGreatMa0
set_option linter.all false
namespace Go.AM
structure Loc where
 b:Nat
 cap:Nat
 sz:Nat
structure Gh where
 loc:Nat→Option Loc
 mem:Nat→Nat→Option Value
structure Gh.Le (G G':Gh):Prop where
 loc:∀ g l,G.loc g=some l→G'.loc g=some l
 mem:∀ b o v,G.mem b o=some v→G'.mem b o=some v
theorem Gh.Le.refl (G:Gh):G.Le G:=⟨fun _ _ h=>h,fun _ _ _ h=>h⟩
theorem Gh.Le.trans {A B C:Gh} (h:A.Le B) (k:B.Le C):A.Le C:=⟨fun g l e=>k.loc g l (h.loc g l e),fun b o v e=>k.mem b o v (h.mem b o v e)⟩
inductive Rep (G:Gh):AV→Value→Prop
 | undef (v:Value):Rep G .undef v
 | sc (v:Value) (h:iM v=true):Rep G (.sc v) v
 | agg (cs:List AV) (vs:Array Value) (hl:cs.length=vs.size) (h:∀ (j:Nat) (c:AV) (v:Value),cs[j]?=some c→vs[j]?=some v→Rep G c v):Rep G (.agg cs) (.agg vs)
 | tup (cs:List AV) (vs:Array Value) (hl:cs.length=vs.size) (h:∀ (j:Nat) (c:AV) (v:Value),cs[j]?=some c→vs[j]?=some v→Rep G c v):Rep G (.tup cs) (.tuple vs)
 | ptr (g e o:Nat) (l:Loc) (hg:G.loc g=some l):Rep G (.ptr g e o) (.pointer (some ⟨l.b,e*l.sz+o,none⟩))
 | zp (cs:List AV) (o b a:Nat) (f:Nat→Value) (hm:∀ (j:Nat) (c:AV),cs[j]?=some c→G.mem b (a+j)=some (f j)) (h:∀ (j:Nat) (c:AV),cs[j]?=some c→Rep G c (f j)) :
   Rep G (.zp cs o) (.pointer (some ⟨b,a+o,none⟩))
 | row (g off len:Nat) (l:Loc) (a:Option Addr) (hg:G.loc g=some l) (hc:off+len≤l.cap) (ha:off<l.cap→a=some ⟨l.b,off*l.sz,none⟩) (hb:len≤68719476736) :
   Rep G (.row g l.sz off len) (.slice a len (l.cap-off))
 | sl (es:List (List AV)) (full:Bool) (a:Option Addr) (cap b o sz:Nat) (f:Nat→Nat→Value) (hc:es.length≤cap) (hf:full=true→cap=es.length)
   (ha:es≠[]→a=some ⟨b,o,none⟩) (hz:∀ (i:Nat) (e:List AV),es[i]?=some e→e.length=sz)
   (hm:∀ (i:Nat) (e:List AV) (j:Nat) (c:AV),es[i]?=some e→e[j]?=some c→G.mem b (o+i*sz+j)=some (f i j)) (h:∀ (i:Nat) (e:List AV) (j:Nat) (c:AV),es[i]?=some e→e[j]?=some c→Rep G c (f i j)) (hb:es.length≤68719476736) :
   Rep G (.sl es full) (.slice a es.length cap)
 | map (g:Nat) (l:Loc) (hg:G.loc g=some l):Rep G (.map g) (.map (some l.b))
 | fn (f:Fn) (as bs:List AV) (us vs:Array Value) (hl:as.length=us.size) (hl':bs.length=vs.size) (h:∀ (j:Nat) (c:AV) (v:Value),as[j]?=some c→us[j]?=some v→Rep G c v)
   (h':∀ (j:Nat) (c:AV) (v:Value),bs[j]?=some c→vs[j]?=some v→Rep G c v):Rep G (.fn f as bs) (.func f us vs)
 | ifc (t:TypeId) (a:AV) (v:Value) (h:Rep G a v):Rep G (.ifc t a) (.iface t v)
theorem Rep.mono {G G':Gh} (hle:G.Le G') {a:AV} {v:Value} (h:Rep G a v):Rep G' a v:=by
 induction h with
 | undef v=>exact .undef v
 | sc v h=>exact .sc v h
 | agg cs vs hl _ ih=>exact .agg cs vs hl ih
 | tup cs vs hl _ ih=>exact .tup cs vs hl ih
 | ptr g e o l hg=>exact .ptr g e o l (hle.loc _ _ hg)
 | zp cs o b a f hm _ ih=>exact .zp cs o b a f (fun j c hj=>hle.mem _ _ _ (hm j c hj)) ih
 | row g off len l a hg hc ha hb=>exact .row g off len l a (hle.loc _ _ hg) hc ha hb
 | sl es full a cap b o sz f hc hf ha hz hm _ hb ih=>exact .sl es full a cap b o sz f hc hf ha hz (fun i e j c hi hj=>hle.mem _ _ _ (hm i e j c hi hj)) ih hb
 | map g l hg=>exact .map g l (hle.loc _ _ hg)
 | fn f as bs us vs hl hl' _ _ ih ih'=>exact .fn f as bs us vs hl hl' ih ih'
 | ifc t a v _ ih=>exact .ifc t a v ih
def RepL (G:Gh) (as:List AV) (vs:List Value):Prop:=as.length=vs.length∧∀ (j:Nat) (a:AV) (v:Value),as[j]?=some a→vs[j]?=some v→Rep G a v
theorem RepL.nil (G:Gh):RepL G [] []:=⟨rfl,fun j a v h=>by simp at h⟩
theorem RepL.cons {G:Gh} {a:AV} {v:Value} {as:List AV} {vs:List Value} (h:Rep G a v) (t:RepL G as vs):RepL G (a::as) (v::vs):=by
 refine ⟨by simp [t.1],fun j b u hb hu=>?_⟩
 cases j with
 | zero=>simp at hb hu; subst hb; subst hu; exact h
 | succ j=>exact t.2 j b u (by simpa using hb) (by simpa using hu)
theorem RepL.mono {G G':Gh} (hle:G.Le G') {as:List AV} {vs:List Value} (h:RepL G as vs):RepL G' as vs:=⟨h.1,fun j a v ha hv=>(h.2 j a v ha hv).mono hle⟩
theorem RepL.get {G:Gh} {as:List AV} {vs:List Value} (h:RepL G as vs) {j:Nat} {a:AV} (ha:as[j]?=some a):∃ v,vs[j]?=some v∧Rep G a v:=by
 have hj:j<vs.length:=by rw [←h.1]; exact (List.getElem?_eq_some_iff.1 ha).1
 exact ⟨vs[j],List.getElem?_eq_getElem hj,h.2 j a _ ha (List.getElem?_eq_getElem hj)⟩
theorem RepL.take {G:Gh} {as:List AV} {vs:List Value} (h:RepL G as vs) (n:Nat):RepL G (as.take n) (vs.take n):=
 ⟨by simp [h.1],fun j a v ha hv=>by
  rw [List.getElem?_take] at ha hv
  split at ha
  ·rename_i hj; rw [if_pos hj] at hv; exact h.2 j a v ha hv
  ·simp at ha⟩
theorem RepL.drop {G:Gh} {as:List AV} {vs:List Value} (h:RepL G as vs) (n:Nat):RepL G (as.drop n) (vs.drop n):=
 ⟨by simp [h.1],fun j a v ha hv=>by
  rw [List.getElem?_drop] at ha hv
  exact h.2 _ a v ha hv⟩
theorem RepL.append {G:Gh} {as bs:List AV} {vs us:List Value} (h:RepL G as vs) (k:RepL G bs us):RepL G (as++bs) (vs++us):=
 ⟨by simp [h.1,k.1],fun j a v ha hv=>by
  rw [List.getElem?_append] at ha hv
  rw [←h.1] at hv
  split at ha
  ·rename_i hj; rw [if_pos hj] at hv; exact h.2 j a v ha hv
  ·rename_i hj; rw [if_neg hj] at hv; exact k.2 _ a v ha hv⟩
theorem RepL.toAgg {G:Gh} {as:List AV} {vs:List Value} (h:RepL G as vs):Rep G (.agg as) (.agg vs.toArray):=
 .agg as _ (by simp [h.1]) (fun j a v ha hv=>h.2 j a v ha (by simpa using hv))
theorem RepL.toTup {G:Gh} {as:List AV} {vs:List Value} (h:RepL G as vs):Rep G (.tup as) (.tuple vs.toArray):=
 .tup as _ (by simp [h.1]) (fun j a v ha hv=>h.2 j a v ha (by simpa using hv))
theorem Rep.ofAgg {G:Gh} {as:List AV} {v:Value} (h:Rep G (.agg as) v):∃ vs:Array Value,v=.agg vs∧RepL G as vs.toList:=by
 cases h with
 | agg _ vs hl h=>exact ⟨vs,rfl,by simp [hl],fun j a v ha hv=>h j a v ha (by simpa using hv)⟩
theorem Rep.ofTup {G:Gh} {as:List AV} {v:Value} (h:Rep G (.tup as) v):∃ vs:Array Value,v=.tuple vs∧RepL G as vs.toList:=by
 cases h with
 | tup _ vs hl h=>exact ⟨vs,rfl,by simp [hl],fun j a v ha hv=>h j a v ha (by simpa using hv)⟩
theorem RepL.ofCells {G:Gh}:∀ (cs:List Value),(∀ c∈cs,Rep G (jA c) c)→RepL G (cs.map jA) cs
 | [],_=>RepL.nil G
 | c::cs,h=>RepL.cons (h c (by simp)) (RepL.ofCells cs fun d hd=>h d (by simp [hd]))
theorem ny (G:Gh) (v:Value):Rep G (jA v) v:=by
 unfold jA
 split
 ·exact Rep.sl [] true none 0 0 0 0 (fun _ _=>default) (by simp) (by simp) (by simp) (by simp) (by simp) (by simp) (by simp)
 ·rename_i f fs cs
  split
  ·rename_i h
   obtain ⟨h1,h2⟩:=h
   have e1:fs=#[]:=Array.eq_empty_of_size_eq_zero h1
   have e2:cs=#[]:=Array.eq_empty_of_size_eq_zero h2
   subst e1; subst e2
   exact .fn _ [] [] #[] #[] rfl rfl (fun j c v h=>by simp at h) (fun j c v h=>by simp at h)
  ·exact .undef _
 ·split
  ·rename_i h; exact .sc _ h
  ·exact .undef _
theorem ff (G:Gh) (v:Value):Rep G (ofValue v) v:=by
 unfold ofValue
 split
 ·rename_i cs
  have:=(RepL.ofCells cs.toList (fun c _=>ny G c)).toAgg
  simpa using this
 ·exact ny G _
theorem Rep.oneCell {G:Gh} {a:AV} {v:Value} (h:Rep G a v) (hc:a.cell=true):v.oneCell'=true:=by
 cases h <;> simp_all [AV.cell,Value.oneCell'] <;> (rename_i h; cases v <;> simp_all [iM])
theorem Rep.cellsOf {G:Gh} {a:AV} {v:Value} (h:Rep G a v) (hcc:a.cells.all AV.cell=true):RepL G a.cells v.cells.toList:=by
 cases h with
 | agg cs vs hl h=>exact ⟨by simpa [AV.cells,Value.cells] using hl,fun j a v ha hv=>h j a v ha (by simpa [Value.cells] using hv)⟩
 | tup cs vs hl h=>simp [AV.cells,AV.cell] at hcc
 | undef v=>simp [AV.cells,AV.cell] at hcc
 | sc v h=>
  have:v.cells=#[v]:=by cases v <;> simp_all [Value.cells,iM]
  rw [this]; exact RepL.cons (.sc v h) (RepL.nil G)
 | ptr g e o l hg=>exact RepL.cons (.ptr g e o l hg) (RepL.nil G)
 | zp cs o b a f hm h=>exact RepL.cons (.zp cs o b a f hm h) (RepL.nil G)
 | row g off len l a hg hc ha hb=>exact RepL.cons (.row g off len l a hg hc ha hb) (RepL.nil G)
 | sl es full a cap b o sz f hc hf ha hz hm h hb=>exact RepL.cons (.sl es full a cap b o sz f hc hf ha hz hm h hb) (RepL.nil G)
 | map g l hg=>exact RepL.cons (.map g l hg) (RepL.nil G)
 | fn f as bs us vs hl hl' h h'=>exact RepL.cons (.fn f as bs us vs hl hl' h h') (RepL.nil G)
 | ifc t a v h=>exact RepL.cons (.ifc t a v h) (RepL.nil G)
mutual
theorem iJ {G:Gh}:∀ (a:AV) (v:Value),Rep G a v→Rep G (norm a) v
 | .agg cs,_,h=>by
  obtain ⟨vs,rfl,hr⟩:=h.ofAgg
  have:=(iU cs vs.toList hr).toAgg
  simpa [norm] using this
 | .tup cs,_,h=>by
  obtain ⟨vs,rfl,hr⟩:=h.ofTup
  have:=(iU cs vs.toList hr).toTup
  simpa [norm] using this
 | .sl es full,_,h=>by
  cases h with
  | sl _ _ a cap b o sz f hc hf ha hz hm h hb=>
   have hle:=kR es
   have hE:=oF es f h
   simp only [norm]
   rw [←hle]
   refine .sl (aW es) false a cap b o sz f (by rw [hle]; exact hc) (by simp) (fun hne=>ha ?_) ?_ ?_ hE.2 (by rw [hle]; exact hb)
   ·intro e; apply hne; rw [e]; rfl
   ·intro i e he
    obtain ⟨e0,h0,hl,_⟩:=hE.1 i e he
    rw [hl]; exact hz i e0 h0
   ·intro i e j c he hj
    obtain ⟨e0,h0,hl,_⟩:=hE.1 i e he
    have hj':j<e0.length:=by rw [←hl]; exact (List.getElem?_eq_some_iff.1 hj).1
    exact hm i e0 j _ h0 (List.getElem?_eq_getElem hj')
 | .undef,_,h=>by simpa [norm] using h
 | .sc _,_,h=>by simpa [norm] using h
 | .ptr ..,_,h=>by simpa [norm] using h
 | .zp ..,_,h=>by simpa [norm] using h
 | .row ..,_,h=>by simpa [norm] using h
 | .map _,_,h=>by simpa [norm] using h
 | .fn ..,_,h=>by simpa [norm] using h
 | .ifc ..,_,h=>by simpa [norm] using h
theorem iU {G:Gh}:∀ (as:List AV) (vs:List Value),RepL G as vs→RepL G (aQ as) vs
 | [],vs,h=>by simpa [aQ] using h
 | a::as,[],h=>by have:=h.1; simp at this
 | a::as,v::vs,h=>by
  simp only [aQ]
  exact RepL.cons (iJ a v (h.2 0 a v rfl rfl)) (iU as vs ⟨by simpa using h.1,fun j b u hb hu=>h.2 (j+1) b u (by simpa using hb) (by simpa using hu)⟩)
theorem oF {G:Gh}:∀ (es:List (List AV)) (f:Nat→Nat→Value),(∀ (i:Nat) (e:List AV) (j:Nat) (c:AV),es[i]?=some e→e[j]?=some c→Rep G c (f i j)) →
  (∀ (i:Nat) (e:List AV),(aW es)[i]?=some e→∃ e0:List AV,es[i]?=some e0∧e.length=e0.length∧e=aQ e0)∧∀ (i:Nat) (e:List AV) (j:Nat) (c:AV),(aW es)[i]?=some e→e[j]?=some c→Rep G c (f i j)
 | [],f,h=>⟨fun i e he=>by simp [aW] at he,fun i e j c he=>by simp [aW] at he⟩
 | x::es,f,h=>by
  have ih:=oF es (fun i j=>f (i+1) j) (fun i e j c he hj=>h (i+1) e j c (by simpa using he) hj)
  have hlen:(aQ x).length=x.length:=fG x
  refine ⟨fun i e he=>?_,fun i e j c he hj=>?_⟩
  ·cases i with
   | zero=>simp [aW] at he; subst he; exact ⟨x,rfl,hlen,rfl⟩
   | succ i=>simpa using ih.1 i e (by simpa [aW] using he)
  ·cases i with
   | zero=>
    simp [aW] at he; subst he
    have hr:RepL G x ((List.range x.length).map (f 0)):=⟨by simp,fun k a v ha hv=>by
     have hk:k<x.length:=(List.getElem?_eq_some_iff.1 ha).1
     simp [List.getElem?_map,List.getElem?_range hk] at hv
     subst hv; exact h 0 x k a rfl ha⟩
    obtain ⟨v,hv,hrep⟩:=(iU x _ hr).get hj
    have hk:j<x.length:=by rw [←hlen]; exact (List.getElem?_eq_some_iff.1 hj).1
    simp [List.getElem?_map,List.getElem?_range hk] at hv
    subst hv; exact hrep
   | succ i=>exact ih.2 i e j c (by simpa [aW] using he) hj
theorem fG:∀ (as:List AV),(aQ as).length=as.length
 | []=>rfl
 | a::as=>by simp [aQ,fG as]
theorem kR:∀ (es:List (List AV)),(aW es).length=es.length
 | []=>rfl
 | a::as=>by simp [aW,kR as]
end
end Go.AM
