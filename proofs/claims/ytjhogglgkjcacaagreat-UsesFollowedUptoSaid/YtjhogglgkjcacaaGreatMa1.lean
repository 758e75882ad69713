/- Part of the claim: see its last text. -/
import Derived.Test.YtjhogglgkjcacaaGreatMa0
set_option linter.all false
namespace Go.AM
structure Loc where
 b:Nat
 cap:Nat
 sz:Nat
structure Gh where
 loc:Nat->Option Loc
 mem:Nat->Nat->Option Value
structure Gh.Le (G G':Gh):Prop where
 loc:∀ g l,G.loc g=some l->G'.loc g=some l
 mem:∀ b o v,G.mem b o=some v->G'.mem b o=some v
theorem Gh.Le.refl (G:Gh):G.Le G:=⟨fun _ _ a=>a,fun _ _ _ a=>a⟩
theorem Gh.Le.trans {A B C:Gh} (h:A.Le B) (k:B.Le C):A.Le C:=⟨fun c d a=>k.loc c d (h.loc c d a),fun b e f a=>k.mem b e f (h.mem b e f a)⟩
inductive Rep (G:Gh):AV->Value->Prop
 | undef (v:Value):Rep G .undef v
 | sc (v:Value) (h:km v=true):Rep G (.sc v) v
 | agg (cs:List AV) (vs:Array Value) (hl:cs.length=vs.size) (h:∀ (j:Nat) (c:AV) (v:Value),cs[j]?=some c->vs[j]?=some v->Rep G c v):Rep G (.agg cs) (.agg vs)
 | tup (cs:List AV) (vs:Array Value) (hl:cs.length=vs.size) (h:∀ (j:Nat) (c:AV) (v:Value),cs[j]?=some c->vs[j]?=some v->Rep G c v):Rep G (.tup cs) (.tuple vs)
 | ptr (g e o:Nat) (l:Loc) (hg:G.loc g=some l):Rep G (.ptr g e o) (.pointer (some ⟨l.b,e*l.sz+o,none⟩))
 | zp (cs:List AV) (o b a:Nat) (f:Nat->Value) (hm:∀ (j:Nat) (c:AV),cs[j]?=some c->G.mem b (a+j)=some (f j)) (h:∀ (j:Nat) (c:AV),cs[j]?=some c->Rep G c (f j)) :
   Rep G (.zp cs o) (.pointer (some ⟨b,a+o,none⟩))
 | row (g off len:Nat) (l:Loc) (a:Option Addr) (hg:G.loc g=some l) (hc:off+len<=l.cap) (ha:off<l.cap->a=some ⟨l.b,off*l.sz,none⟩) (hb:len<=68719476736) :
   Rep G (.row g l.sz off len) (.slice a len (l.cap-off))
 | sl (es:List (List AV)) (full:Bool) (a:Option Addr) (cap b o sz:Nat) (f:Nat->Nat->Value) (hc:es.length<=cap) (hf:full=true->cap=es.length)
   (ha:es≠[]->a=some ⟨b,o,none⟩) (hz:∀ (i:Nat) (e:List AV),es[i]?=some e->e.length=sz)
   (hm:∀ (i:Nat) (e:List AV) (j:Nat) (c:AV),es[i]?=some e->e[j]?=some c->G.mem b (o+i*sz+j)=some (f i j)) (h:∀ (i:Nat) (e:List AV) (j:Nat) (c:AV),es[i]?=some e->e[j]?=some c->Rep G c (f i j)) (hb:es.length<=68719476736) :
   Rep G (.sl es full) (.slice a es.length cap)
 | map (g:Nat) (l:Loc) (hg:G.loc g=some l):Rep G (.map g) (.map (some l.b))
 | fn (f:Fn) (as bs:List AV) (us vs:Array Value) (hl:as.length=us.size) (hl':bs.length=vs.size) (h:∀ (j:Nat) (c:AV) (v:Value),as[j]?=some c->us[j]?=some v->Rep G c v)
   (h':∀ (j:Nat) (c:AV) (v:Value),bs[j]?=some c->vs[j]?=some v->Rep G c v):Rep G (.fn f as bs) (.func f us vs)
 | ifc (t:TypeId) (a:AV) (v:Value) (h:Rep G a v):Rep G (.ifc t a) (.iface t v)
theorem Rep.mono {G C:Gh} (k:G.Le C) {a:AV} {v:Value} (h:Rep G a v):Rep C a v:=by
 induction h with
 | undef v=>exact .undef v
 | sc v h=>exact .sc v h
 | agg c o g _ b=>exact .agg c o g b
 | tup c o g _ b=>exact .tup c o g b
 | ptr e t m l f=>exact .ptr e t m l (k.loc _ _ f)
 | zp c m p a d z _ b=>exact .zp c m p a d (fun j q y=>k.mem _ _ _ (z j q y)) b
 | row e off len l a f x u w=>exact .row e off len l a (k.loc _ _ f) x u w
 | sl J K a H p m R d x M u P z _ w b=>exact .sl J K a H p m R d x M u P (fun i t j q N y=>k.mem _ _ _ (z i t j q N y)) b w
 | map e l f=>exact .map e l (k.loc _ _ f)
 | fn d D bs T o g O _ _ b Q=>exact .fn d D bs T o g O b Q
 | ifc S a v _ b=>exact .ifc S a v b
def RepL (G:Gh) (b:List AV) (vs:List Value):Prop:=b.length=vs.length/\∀ (j:Nat) (a:AV) (c:Value),b[j]?=some a->vs[j]?=some c->Rep G a c
theorem RepL.nil (G:Gh):RepL G [] []:=⟨rfl,fun j b c a=>by simp at a⟩
theorem RepL.cons {G:Gh} {a:AV} {v:Value} {d:List AV} {vs:List Value} (h:Rep G a v) (t:RepL G d vs):RepL G (a::d) (v::vs):=by
 refine ⟨by simp [t.1],fun j e f b c=>?_⟩
 cases j with
 | zero=>simp at b c; subst b; subst c; exact h
 | succ j=>exact t.2 j e f (by simpa using b) (by simpa using c)
theorem RepL.mono {G a:Gh} (e:G.Le a) {b:List AV} {vs:List Value} (h:RepL G b vs):RepL a b vs:=⟨h.1,fun j c g d f=>(h.2 j c g d f).mono e⟩
theorem RepL.get {G:Gh} {b:List AV} {vs:List Value} (h:RepL G b vs) {j:Nat} {a:AV} (c:b[j]?=some a):∃ v,vs[j]?=some v/\Rep G a v:=by
 have d:j<vs.length:=by rw [<-h.1]; exact (q4.1 c).1
 exact ⟨vs[j],q3 d,h.2 j a _ c (q3 d)⟩
theorem RepL.take {G:Gh} {c:List AV} {vs:List Value} (h:RepL G c vs) (n:Nat):RepL G (c.take n) (vs.take n):=
 ⟨by simp [h.1],fun j d f a b=>by
  rw [s0] at a b;split at a
  ·rename_i e; rw [if_pos e] at b; exact h.2 j d f a b
  ·simp at a⟩
theorem RepL.drop {G:Gh} {a:List AV} {vs:List Value} (h:RepL G a vs) (n:Nat):RepL G (a.drop n) (vs.drop n):=
 ⟨by simp [h.1],fun j d e b c=>by
  rw [s8] at b c;exact h.2 _ d e b c⟩
theorem RepL.append {G:Gh} {e bs:List AV} {vs f:List Value} (h:RepL G e vs) (k:RepL G bs f):RepL G (e++bs) (vs++f):=
 ⟨by simp [h.1,k.1],fun j d g b a=>by
  rw [wx] at b a;rw [<-h.1] at a;split at b
  ·rename_i c; rw [if_pos c] at a; exact h.2 j d g b a
  ·rename_i c; rw [if_neg c] at a; exact k.2 _ d g b a⟩
theorem RepL.toAgg {G:Gh} {a:List AV} {vs:List Value} (h:RepL G a vs):Rep G (.agg a) (.agg vs.toArray):=
 .agg a _ (by simp [h.1]) (fun j b e c d=>h.2 j b e c (by simpa using d))
theorem RepL.toTup {G:Gh} {a:List AV} {vs:List Value} (h:RepL G a vs):Rep G (.tup a) (.tuple vs.toArray):=
 .tup a _ (by simp [h.1]) (fun j b e c d=>h.2 j b e c (by simpa using d))
theorem Rep.ofAgg {G:Gh} {a:List AV} {v:Value} (h:Rep G (.agg a) v):∃ vs:Array Value,v=.agg vs/\RepL G a vs.toList:=by
 cases h with
 | agg _ vs d h=>exact ⟨vs,rfl,by simp [d],fun j b v c e=>h j b v c (by simpa using e)⟩
theorem Rep.ofTup {G:Gh} {a:List AV} {v:Value} (h:Rep G (.tup a) v):∃ vs:Array Value,v=.tuple vs/\RepL G a vs.toList:=by
 cases h with
 | tup _ vs d h=>exact ⟨vs,rfl,by simp [d],fun j b v c e=>h j b v c (by simpa using e)⟩
theorem RepL.ofCells {G:Gh}:∀ (cs:List Value),(∀ c∈cs,Rep G (kh c) c)->RepL G (cs.map kh) cs
 | [],_=>RepL.nil G
 | c::cs,a=>RepL.cons (a c (by simp)) (RepL.ofCells cs fun b d=>a b (by simp [d]))
theorem qd (G:Gh) (v:Value):Rep G (kh v) v:=by
 unfold kh;split
 ·exact Rep.sl [] true none 0 0 0 0 (fun _ _=>default) (by simp) (by simp) (by simp) (by simp) (by simp) (by simp) (by simp)
 ·rename_i k f c;split
  ·rename_i a;obtain ⟨g,h⟩:=a;have d:f=#[]:=sp g;have e:c=#[]:=sp h;subst d; subst e;exact .fn _ [] [] #[] #[] rfl rfl (fun j b v a=>by simp at a) (fun j b v a=>by simp at a)
  ·exact .undef _
 ·split
  ·rename_i a; exact .sc _ a
  ·exact .undef _
theorem gD (G:Gh) (v:Value):Rep G (ofValue v) v:=by
 unfold ofValue;split
 ·rename_i b;have:=(RepL.ofCells b.toList (fun a _=>qd G a)).toAgg;simpa using this
 ·exact qd G _
theorem Rep.oneCell {G:Gh} {a:AV} {v:Value} (h:Rep G a v) (b:a.cell=true):v.oneCell'=true:=by
 cases h <;> simp_all [AV.cell,Value.oneCell'] <;> (rename_i h; cases v <;> simp_all [km])
theorem Rep.cellsOf {G:Gh} {a:AV} {v:Value} (h:Rep G a v) (u:a.cells.all AV.cell=true):RepL G a.cells v.cells.toList:=by
 cases h with
 | agg m t k h=>exact ⟨by simpa [AV.cells,Value.cells] using k,fun j a v d K=>h j a v d (by simpa [Value.cells] using K)⟩
 | tup m t k h=>simp [AV.cells,AV.cell] at u
 | undef v=>simp [AV.cells,AV.cell] at u
 | sc v h=>
  have:v.cells=#[v]:=by cases v <;> simp_all [Value.cells,km]
  rw [this]; exact RepL.cons (.sc v h) (RepL.nil G)
 | ptr c y g f e=>exact RepL.cons (.ptr c y g f e) (RepL.nil G)
 | zp m g l a b q h=>exact RepL.cons (.zp m g l a b q h) (RepL.nil G)
 | row c off len f a e p d o=>exact RepL.cons (.row c off len f a e p d o) (RepL.nil G)
 | sl z C a x l g N b p H d M q h o=>exact RepL.cons (.sl z C a x l g N b p H d M q h o) (RepL.nil G)
 | map c f e=>exact RepL.cons (.map c f e) (RepL.nil G)
 | fn b w bs P t k J h D=>exact RepL.cons (.fn b w bs P t k J h D) (RepL.nil G)
 | ifc O a v h=>exact RepL.cons (.ifc O a v h) (RepL.nil G)
mutual
theorem kg {G:Gh}:∀ (a:AV) (v:Value),Rep G a v->Rep G (norm a) v
 | .agg cs,_,h=>by
  obtain ⟨vs,rfl,hr⟩:=h.ofAgg;have:=(kH cs vs.toList hr).toAgg;simpa [norm] using this
 | .tup cs,_,h=>by
  obtain ⟨vs,rfl,hr⟩:=h.ofTup;have:=(kH cs vs.toList hr).toTup;simpa [norm] using this
 | .sl es full,_,h=>by
  cases h with
  | sl _ _ a cap b o sz f hc hf ha hz hm h hb=>
   have hle:=nC es;have hE:=rq es f h;simp only [norm];rw [<-hle];refine .sl (aP es) false a cap b o sz f (by rw [hle]; exact hc) (by simp) (fun hne=>ha ?_) ?_ ?_ hE.2 (by rw [hle]; exact hb)
   ·intro e; apply hne; rw [e]; rfl
   ·intro i e he;obtain ⟨e0,h0,hl,_⟩:=hE.1 i e he;rw [hl]; exact hz i e0 h0
   ·intro i e j c he hj;obtain ⟨e0,h0,hl,_⟩:=hE.1 i e he;have hj':j<e0.length:=by rw [<-hl]; exact (q4.1 hj).1
    exact hm i e0 j _ h0 (q3 hj')
 | .undef,_,h=>by simpa [norm] using h
 | .sc _,_,h=>by simpa [norm] using h
 | .ptr ..,_,h=>by simpa [norm] using h
 | .zp ..,_,h=>by simpa [norm] using h
 | .row ..,_,h=>by simpa [norm] using h
 | .map _,_,h=>by simpa [norm] using h
 | .fn ..,_,h=>by simpa [norm] using h
 | .ifc ..,_,h=>by simpa [norm] using h
theorem kH {G:Gh}:∀ (as:List AV) (vs:List Value),RepL G as vs->RepL G (br as) vs
 | [],vs,h=>by simpa [br] using h
 | a::as,[],h=>by have:=h.1; simp at this
 | a::as,v::vs,h=>by
  simp only [br];exact RepL.cons (kg a v (h.2 0 a v rfl rfl)) (kH as vs ⟨by simpa using h.1,fun j b u hb hu=>h.2 (j+1) b u (by simpa using hb) (by simpa using hu)⟩)
theorem rq {G:Gh}:∀ (es:List (List AV)) (f:Nat->Nat->Value),(∀ (i:Nat) (e:List AV) (j:Nat) (c:AV),es[i]?=some e->e[j]?=some c->Rep G c (f i j)) ->
  (∀ (i:Nat) (e:List AV),(aP es)[i]?=some e->∃ e0:List AV,es[i]?=some e0/\e.length=e0.length/\e=br e0)/\∀ (i:Nat) (e:List AV) (j:Nat) (c:AV),(aP es)[i]?=some e->e[j]?=some c->Rep G c (f i j)
 | [],f,h=>⟨fun i e he=>by simp [aP] at he,fun i e j c he=>by simp [aP] at he⟩
 | x::es,f,h=>by
  have ih:=rq es (fun i j=>f (i+1) j) (fun i e j c he hj=>h (i+1) e j c (by simpa using he) hj)
  have hlen:(br x).length=x.length:=ib x;refine ⟨fun i e he=>?_,fun i e j c he hj=>?_⟩
  ·cases i with
   | zero=>simp [aP] at he; subst he; exact ⟨x,rfl,hlen,rfl⟩
   | succ i=>simpa using ih.1 i e (by simpa [aP] using he)
  ·cases i with
   | zero=>
    simp [aP] at he; subst he;have hr:RepL G x ((List.range x.length).map (f 0)):=⟨by simp,fun k a v ha hv=>by
     have hk:k<x.length:=(q4.1 ha).1;simp [rb,u9 hk] at hv;subst hv; exact h 0 x k a rfl ha⟩
    obtain ⟨v,hv,hrep⟩:=(kH x _ hr).get hj;have hk:j<x.length:=by rw [<-hlen]; exact (q4.1 hj).1
    simp [rb,u9 hk] at hv;subst hv; exact hrep
   | succ i=>exact ih.2 i e j c (by simpa [aP] using he) hj
theorem ib:∀ (as:List AV),(br as).length=as.length
 | []=>rfl
 | a::as=>by simp [br,ib as]
theorem nC:∀ (es:List (List AV)),(aP es).length=es.length
 | []=>rfl
 | a::as=>by simp [aP,nC as]
end
def RowOk (G:Gh) (f:Array Obj) (l:Loc) (es:List (List AV)):Prop:=
 es.length<=l.cap/\(0<l.cap->∃ (a:Array Value) (e:TypeId),f[l.b]?=some (.cells a e (0,0))/\l.cap*l.sz<=a.size /\
  ∀ (i:Nat) (c:List AV),es[i]?=some c->c.length=l.sz/\∀ (j:Nat) (b:AV),c[j]?=some b->b.cell=true/\∃ d,a[i*l.sz+j]?=some d/\Rep G b d)
def MapOk (G:Gh) (f:Array Obj) (l:Loc) (kv:List (AV×AV)):Prop:=
 0<l.cap/\∃ (b:Array MapEntry) (d:Nat),f[l.b]?=some (.map b d)/\b.size=kv.length /\
  (∀ (i:Nat) (a:MapEntry) (c:AV×AV),b[i]?=some a->kv[i]?=some c->Rep G c.1 a.key/\Rep G c.2 a.val/\a.born<d) /\
  (∀ (i j:Nat) (a e:MapEntry),b[i]?=some a->b[j]?=some e->a.born=e.born->i=j)
def AG (G:Gh) (s:St) (e:Array Obj) (l:Loc) (m ver:Nat) (done:List Nat):Prop:=
 0<l.cap/\ver<s.c/\∃ (d:Loc) (f last:Nat) (seen:Array Nat),G.loc m=some d/\e[l.b]?=some (.mapIter (some d.b) f seen last) /\
  ∀ g,s.h m=some (.map g ver)->∃ (c:Array MapEntry) (b:Nat),e[d.b]?=some (.map c b)/\b=f/\b=last /\
   (∀ (i:Nat) (a:MapEntry),c[i]?=some a->(a.born∈seen↔i∈done))/\∀ (i:Nat) (a:MapEntry),done.getLast?=some i->c[i]?=some a->seen.back?=some a.born
def nS (G:Gh) (s:St) (a:Array Obj) (l:Loc):Body->Prop
 | .row b c g h=>l.sz=b/\0<b/\RowOk G a l c/\(g≠.frz->0<l.cap->∀ d,G.mem l.b d=none)
 | .map e ver=>MapOk G a l e/\ver<s.c
 | .iter f ver done=>AG G s a l f ver done
def mV (G:Gh) (s:St) (i j:Nat) (h:Loc):Prop:=
 ∃ (g b:Nat) (f:List (List AV)) (l:Option Nat),s.h i=some (.row g f (.lent b) l)/\b<=j /\
  (∃ (c:Nat) (a:List (List AV)) (e:RSt) (m:Option Nat) (d:Loc),s.h b=some (.row c a e m)/\G.loc b=some d/\d.b=h.b/\0<d.cap) /\
  ∃ (c:Nat) (a:List (List AV)) (e:RSt) (k:Nat),s.h j=some (.row c a e (some k))/\f.length<=a.length/\g=c
structure Sim (G:Gh) (s:St) (w:World):Prop where
 mem:∀ b o v,G.mem b o=some v->w.cell? ⟨b,o,none⟩=some v
 dom:∀ g l,G.loc g=some l->g<s.c
 blk:∀ g b,s.h g=some b->∃ l,G.loc g=some l/\nS G s w.heap l b
 ov:∀ i j bi bj li lj,i<j->s.h i=some bi->s.h j=some bj->G.loc i=some li->G.loc j=some lj->li.b=lj.b->0<li.cap->0<lj.cap->mV G s i j li
def nV (G:Gh) (s:St) (b:Nat):Prop:=∃ c body a,s.h c=some body/\G.loc c=some a/\a.b=b/\0<a.cap
structure Stp (G:Gh) (s:St) (w:World) (G':Gh) (s':St) (w':World):Prop where
 le:G.Le G'
 c:s.c<=s'.c
 os:w'.os=w.os
 tape:w'.tape=w.tape
 output:w'.output=w.output
 size:w.heap.size<=w'.heap.size
 keep:∀ b,b<w.heap.size->¬nV G s b->w'.heap[b]?=w.heap[b]?
 own:∀ b,b<w.heap.size->nV G' s' b->nV G s b
theorem Stp.refl (G:Gh) (s:St) (w:World):Stp G s w G s w:=⟨.refl G,q5 _,rfl,rfl,rfl,q5 _,fun _ _ _=>rfl,fun _ _ a=>a⟩
theorem Stp.trans {G G1 G2:Gh} {s s1 s2:St} {w w1 w2:World} (h:Stp G s w G1 s1 w1) (k:Stp G1 s1 w1 G2 s2 w2):Stp G s w G2 s2 w2 where
 le:=h.le.trans k.le
 c:=ts h.c k.c
 os:=k.os.trans h.os
 tape:=k.tape.trans h.tape
 output:=k.output.trans h.output
 size:=ts h.size k.size
 keep b hb ho:=(k.keep b (ro hb h.size) fun x=>ho (h.own b hb x)).trans (h.keep b hb ho)
 own b hb x:=h.own b hb (k.own b (ro hb h.size) x)
theorem d6 {w w':World} {b o:Nat} (h:w'.heap[b]?=w.heap[b]?):w'.cell? ⟨b,o,none⟩=w.cell? ⟨b,o,none⟩:=by
 simp [World.cell?,h]
theorem lu {w:World} {b o:Nat} {C:Array Value} {e:TypeId} {fr:Nat×Nat} (h:w.heap[b]?=some (.cells C e fr)):w.cell? ⟨b,o,none⟩=C[o]?:=by
 simp [World.cell?,h]
theorem cF {w:World} {b:Nat} {o:Obj} (h:w.heap[b]?=some o):b<w.heap.size:=(u7.1 h).1
theorem RowOk.keep {G a:Gh} {d e:Array Obj} {l:Loc} {es:List (List AV)} (h:RowOk G d l es) (y:G.Le a) (x:0<l.cap->e[l.b]?=d[l.b]?):RowOk a e l es:=
 ⟨h.1,fun c=>by
  obtain ⟨k,o,p,q,b⟩:=h.2 c;refine ⟨k,o,(x c).trans p,q,fun i g f=>⟨(b i g f).1,fun j m w=>?_⟩⟩;obtain ⟨t,z,u,v⟩:=(b i g f).2 j m w;exact ⟨t,z,u,v.mono y⟩⟩
theorem MapOk.keep {G f:Gh} {a k:Array Obj} {l:Loc} {kv:List (AV×AV)} (h:MapOk G a l kv) (g:G.Le f) (v:k[l.b]?=a[l.b]?):MapOk f k l kv:=by
 obtain ⟨p,o,m,q,t,c,u⟩:=h;exact ⟨p,o,m,v.trans q,t,fun i b e d a=>⟨((c i b e d a).1).mono g,((c i b e d a).2.1).mono g,(c i b e d a).2.2⟩,u⟩
theorem Sim.grow {G:Gh} {s:St} {w w':World} (g:Sim G s w) (f:∀ b,b<w.heap.size->w'.heap[b]?=w.heap[b]?):Sim G s w':=by
 have y:∀ d b c,s.h d=some b->G.loc d=some c->0<c.cap->w'.heap[c.b]?=w.heap[c.b]?:=by
  intro d b c h k o;obtain ⟨Y,x,a⟩:=g.blk d b h;rw [k] at x; injection x with t; subst t;cases b with
  | row T l S R=>obtain ⟨W,t,e,_⟩:=a.2.2.1.2 o; exact f _ (cF e)
  | map p ver=>obtain ⟨⟨_,l,q,e,_⟩,_⟩:=a; exact f _ (cF e)
  | iter Q ver done=>obtain ⟨_,_,z,D,last,seen,e,m,_⟩:=a; exact f _ (cF m)
 refine ⟨fun b C U O=>?_,g.dom,fun d b h=>?_,g.ov⟩
 ·have u:=g.mem b C U O;have N:b<w.heap.size:=World.block_lt_of_cell? w ⟨b,C,none⟩ u;rw [d6 (f b N)]; exact u
 ·obtain ⟨c,k,a⟩:=g.blk d b h;refine ⟨c,k,?_⟩;cases b with
  | row T l S R=>exact ⟨a.1,a.2.1,a.2.2.1.keep (.refl G) (fun o=>y d _ c h k o),a.2.2.2⟩
  | map p ver=>exact ⟨MapOk.keep a.1 (.refl G) (y d _ c h k a.1.1),a.2⟩
  | iter Q ver done=>
   obtain ⟨H,P,z,D,last,seen,e,m,J⟩:=a;refine ⟨H,P,z,D,last,seen,e,(f _ (cF m)).trans m,fun p M=>?_⟩;obtain ⟨l,q,v,K⟩:=J p M;exact ⟨l,q,(f _ (cF v)).trans v,K⟩
theorem Sim.drew {G:Gh} {s:St} {w:World} (a:Sim G s w):Sim G s w.drew:=a.grow fun _ _=>rfl
def Gh.addLoc (G:Gh) (g:Nat) (l:Loc):Gh:={ G with loc:=fun a=>if a=g then some l else G.loc a }
theorem Gh.le_addLoc {G:Gh} {g:Nat} {l:Loc} (h:G.loc g=none):G.Le (G.addLoc g l):=
 ⟨fun c d a=>by
  simp only [Gh.addLoc];split
  ·rename_i b; subst b; rw [h] at a; cases a
  ·exact a,fun _ _ _ h=>h⟩
theorem Sim.fresh {G:Gh} {s:St} {w:World} (b:Sim G s w):G.loc s.c=none:=by
 cases a:G.loc s.c with
 | none=>rfl
 | some c=>exact absurd (b.dom _ _ a) (u6 _)
theorem Sim.blkLt {G:Gh} {s:St} {w:World} (k:Sim G s w) {g:Nat} {b:Body} {l:Loc} (o:s.h g=some b) (p:G.loc g=some l) (m:0<l.cap):l.b<w.heap.size:=by
 obtain ⟨v,e,c⟩:=k.blk g b o;rw [p] at e; injection e with d; subst d;cases b with
 | row H f D z=>obtain ⟨q,d,a,_⟩:=c.2.2.1.2 m; exact cF a
 | map u ver=>obtain ⟨⟨_,f,t,a,_⟩,_⟩:=c; exact cF a
 | iter y ver done=>obtain ⟨_,_,x,C,last,seen,a,h,_⟩:=c; exact cF h
theorem Sim.hLt {G:Gh} {s:St} {w:World} (a:Sim G s w) {g:Nat} {b:Body} (c:s.h g=some b):g<s.c:=by
 obtain ⟨e,d,_⟩:=a.blk g b c;exact a.dom g e d
theorem Sim.memLt {G:Gh} {s:St} {w:World} (a:Sim G s w) {b o:Nat} {v:Value} (h:G.mem b o=some v):b<w.heap.size:=
 World.block_lt_of_cell? w ⟨b,o,none⟩ (a.mem b o v h)
theorem yV {G:Gh} {s:St} {i j:Nat} {m:Loc} {l:Loc} {b:Body} {c':Nat} (c:∀ g b,s.h g=some b->g<s.c) (h:mV G s i j m) :
  mV (G.addLoc s.c l) { h:=upd s.h s.c (some b),c:=c' } i j m:=by
 obtain ⟨M,a,o,D,d,t,⟨N,p,J,H,z,e,u,v⟩,sz'',q,K,C,f,w⟩:=h;have x:=c _ _ d;have k:=c _ _ e;have y:=c _ _ f;refine ⟨M,a,o,D,?_,t,⟨N,p,J,H,z,?_,?_,v⟩,sz'',q,K,C,?_,w⟩
 ·show upd s.h s.c (some b) i=_; unfold upd; rw [if_neg (tr x)]; exact d
 ·show upd s.h s.c (some b) a=_; unfold upd; rw [if_neg (tr k)]; exact e
 ·show (if a=s.c then some l else G.loc a)=_; rw [if_neg (tr k)]; exact u
 ·show upd s.h s.c (some b) j=_; unfold upd; rw [if_neg (tr y)]; exact f
theorem vI {G:Gh} {s:St} {w w':World} {g:Nat} {b b':Body} {l l':Loc} {c':Nat} (c:Sim G s w) (p:s.c<c') (q:s.h g=some b) (t:G.loc g=some l)
  (a:nS G s w.heap l b) (d:∀ b,b<w.heap.size->w'.heap[b]?=w.heap[b]?) (N:∀ kv ver,b'=.map kv ver->s.c<=ver) :
  nS (G.addLoc s.c l') { h:=upd s.h s.c (some b'),c:=c' } w'.heap l b:=by
 have e:G.Le (G.addLoc s.c l'):=Gh.le_addLoc c.fresh;cases b with
 | row Q f P O=>
  exact ⟨a.1,a.2.1,a.2.2.1.keep e (fun h=>d _ (c.blkLt q t h)),a.2.2.2⟩
 | map kv ver=>exact ⟨MapOk.keep a.1 e (d _ (c.blkLt q t a.1.1)),Nat.lt_trans a.2 p⟩
 | iter u ver done=>
  obtain ⟨x,J,K,M,last,seen,k,m,y⟩:=a;have H:=c.dom _ _ k;refine ⟨x,Nat.lt_trans J p,K,M,last,seen,e.loc _ _ k,(d _ (cF m)).trans m,fun kv C=>?_⟩;have D:s.h u=some (.map kv ver):=by
   have:upd s.h s.c (some b') u=some (.map kv ver):=C;unfold upd at this; rwa [if_neg (tr H)] at this
  obtain ⟨f,v,o,z⟩:=y kv D;exact ⟨f,v,(d _ (cF o)).trans o,z⟩
theorem Sim.add {G:Gh} {s:St} {w w':World} {b':Body} {l':Loc} {c':Nat} (a:Sim G s w) (o:s.c<c') (v:∀ b,b<w.heap.size->w'.heap[b]?=w.heap[b]?)
  (R:0<l'.cap->w.heap.size<=l'.b) (U:∀ kv ver,b'=.map kv ver->s.c<=ver)
  (S:nS (G.addLoc s.c l') { h:=upd s.h s.c (some b'),c:=c' } w'.heap l' b') :
  Sim (G.addLoc s.c l') { h:=upd s.h s.c (some b'),c:=c' } w':=by
 have O:G.Le (G.addLoc s.c l'):=Gh.le_addLoc a.fresh;refine ⟨fun b W Y C=>?_,fun d l p=>?_,fun d b p=>?_,?_⟩
 ·have h:=a.mem b W Y C;rw [d6 (v b (a.memLt C))]; exact h
 ·have:(if d=s.c then some l' else G.loc d)=some l:=p
  split at this
  ·rename_i c; subst c; exact o
  ·exact Nat.lt_trans (a.dom d l this) o
 ·have:upd s.h s.c (some b') d=some b:=p;unfold upd at this;split at this
  ·rename_i c; subst c; injection this with c; subst c;exact ⟨l',by simp [Gh.addLoc],S⟩
  ·obtain ⟨l,z,T⟩:=a.blk d b this;exact ⟨l,O.loc _ _ z,vI a o this z T v U⟩
 ·intro i j q t D H M K N P Q J x y;have e:upd s.h s.c (some b') i=some q:=K;have f:upd s.h s.c (some b') j=some t:=N;have g:(if i=s.c then some l' else G.loc i)=some D:=P
  have k:(if j=s.c then some l' else G.loc j)=some H:=Q
  unfold upd at e f;by_cases u:j=s.c
  ·rw [if_pos u] at k; injection k with c; subst c;have m:i≠s.c:=by omega
   rw [if_neg m] at e g;have:=a.blkLt e g x;have:=R y;omega
  ·rw [if_neg u] at f k;have Z:=a.hLt f;have m:i≠s.c:=by omega
   rw [if_neg m] at e g;exact yV (fun d b h=>a.hLt h) (a.ov i j q t D H M e f g k J x y)
theorem Stp.add {G:Gh} {s:St} {w w':World} {b':Body} {l':Loc} {c':Nat} (hS:Sim G s w) (hc:s.c<c') (hb:∀ b,b<w.heap.size->w'.heap[b]?=w.heap[b]?)
  (hnew:0<l'.cap->w.heap.size<=l'.b) (hsz:w.heap.size<=w'.heap.size) (ho:w'.os=w.os) (ht:w'.tape=w.tape) (hp:w'.output=w.output) :
  Stp G s w (G.addLoc s.c l') { h:=upd s.h s.c (some b'),c:=c' } w' where
 le:=Gh.le_addLoc hS.fresh
 c:=EC hc
 os:=ho
 tape:=ht
 output:=hp
 size:=hsz
 keep b hlt _:=hb b hlt
 own b hlt:=by
  rintro ⟨g,body,l,hg,hl,he,hcap⟩;have hg':upd s.h s.c (some b') g=some body:=hg;have hl':(if g=s.c then some l' else G.loc g)=some l:=hl
  unfold upd at hg';by_cases e:g=s.c
  ·rw [if_pos e] at hl'; injection hl' with e'; subst e';have:=hnew hcap;omega
  ·rw [if_neg e] at hg' hl';exact ⟨g,body,l,hg',hl',he,hcap⟩
end Go.AM
