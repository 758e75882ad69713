/- Part of the claim: see its last text. -/
import Derived.Test.YtjhogglgkjcacaaGreatMa7
import Derived.Test.YtjhogglgkjcacaaGreatMa5
set_option linter.all false
namespace Go.AM
theorem qP {k:FK} {a:AV} (h:pH k a=true):∃ r,eU k a a=some r:=by
 unfold pH at h;split at h <;> first | (simp [eU]; done) | cases h
theorem pI:∀ {ks:List FK} {b:List AV},jI ks b=true->∃ r,cd ks b b=some r
 | [],[],_=>⟨true,rfl⟩
 | [],_::_,a=>by simp [jI] at a
 | _::_,[],a=>by simp [jI] at a
 | g::ks,f::b,a=>by
  simp only [jI,q9] at a;obtain ⟨r,d⟩:=qP a.1;obtain ⟨e,c⟩:=pI a.2;exact ⟨r&&e,by simp [cd,d,c]⟩
theorem tz {b:KK} {a:AV} (h:n9 b a=true):∃ r,gI b a a=some r:=by
 cases b with
 | one d=>exact qP h
 | agg e=>
  cases a <;> simp [n9] at h;obtain ⟨r,c⟩:=pI h;exact ⟨r,c⟩
theorem tw {b:KK} {a:AV} {kv:List (AV×AV)} {r:Option Nat} (h:kE b a kv=some r):n9 b a=true/\bZ b a kv 0=some r:=by
 unfold kE at h;split at h
 ·exact ⟨by assumption,h⟩
 ·cases h
theorem Sim.map {G:Gh} {s:St} {w:World} (q:Sim G s w) {g ver:Nat} {kv:List (AV×AV)} {l:Loc} (t:s.h g=some (.map kv ver)) (u:G.loc g=some l) :
  0<l.cap/\ver<s.c/\∃ (es:Array MapEntry) (a:Nat),w.heap[l.b]?=some (.map es a)/\es.size=kv.length /\
   (∀ (i:Nat) (e:MapEntry) (p:AV×AV),es[i]?=some e->kv[i]?=some p->Rep G p.1 e.key/\Rep G p.2 e.val/\e.born<a) /\
   (∀ (i j:Nat) (e b:MapEntry),es[i]?=some e->es[j]?=some b->e.born=b.born->i=j):=by
 obtain ⟨v,c,⟨d,es,a,f,h,k,m⟩,o⟩:=q.blk g _ t;rw [u] at c; injection c with e; subst e;exact ⟨d,o,es,a,f,h,k,m⟩
theorem iO {P:Program} {G:Gh} {t:TypeId} {f:KK} (d:fN P t=some f) {a:AV} {x:Value} (c:Rep G a x) (w:World) {es:Array MapEntry} {kv:List (AV×AV)} {r:Option Nat} (u:es.size=kv.length) {g:Nat}
  (z:∀ (i:Nat) (e:MapEntry) (p:AV×AV),es[i]?=some e->kv[i]?=some p->Rep G p.1 e.key/\Rep G p.2 e.val/\e.born<g) (h:kE f a kv=some r) :
  (∀ b,(Instr.checkKey b 10000 t x).run P w=.ok () w)/\(Instr.findKey t x es.toList).run P w=.ok (r.bind fun j=>(es[j]?).map fun e=>(j,e.val)) w/\(∀ j,r=some j->j<es.size):=by
 obtain ⟨C,q⟩:=tw h;obtain ⟨D,y⟩:=tz C;obtain ⟨k,l⟩:=pO d c w (es:=es.toList) (kv:=kv) (by simpa using u) (fun j e p m v=>(z j e p (by simpa using m) v).1) q
 exact ⟨fun b=>oq d c c y b w,by simpa using k,fun j o=>by simpa using l j o⟩
theorem nz {G:Gh} {s:St} {w:World} (b:Sim G s w) {g ver:Nat} {kv kv':List (AV×AV)} {l:Loc} (c:s.h g=some (.map kv ver)) (f:G.loc g=some l) {es es':Array MapEntry} {M clock':Nat} (v:w.heap[l.b]?=some (.map es M))
  (P:es'.size=kv'.length) (U:∀ (i:Nat) (e:MapEntry) (p:AV×AV),es'[i]?=some e->kv'[i]?=some p->Rep G p.1 e.key/\Rep G p.2 e.val/\e.born<clock')
  (N:∀ (i j:Nat) (e u:MapEntry),es'[i]?=some e->es'[j]?=some u->e.born=u.born->i=j) :
  Sim G { h:=upd s.h g (some (.map kv' s.c)),c:=s.c+1 } { w with heap:=w.heap.setIfInBounds l.b (.map es' clock') } /\
  Stp G s w G { h:=upd s.h g (some (.map kv' s.c)),c:=s.c+1 } { w with heap:=w.heap.setIfInBounds l.b (.map es' clock') }:=by
 obtain ⟨h,Y,_⟩:=b.map c f;have Q:=cF v;have m:=iZ f;have H:∀ a,a<w.heap.size->a≠l.b->(w.heap.setIfInBounds l.b (.map es' clock'))[a]?=w.heap[a]?:=fun a _ o=>by
  rw [u4,if_neg (s4 o)]
 have W:(w.heap.setIfInBounds l.b (Obj.map es' clock'))[l.b]?=some (.map es' clock'):=by
  rw [u4,if_pos rfl,if_pos Q]
 have J:=Sim.put (g:=g) (b':=.map kv' s.c) (l':=l) (c':=s.c+1) (w':={ w with heap:=w.heap.setIfInBounds l.b (.map es' clock') }) b (rv _) (xi (b.hLt c)) (by rw [m]; exact .refl G)
  (fun y=>b.freeOther c (by simp) f y) (fun a R o=>H a R (o h)) (fun aa ab y S=>by
   have:=b.mem _ _ _ S;simp [World.cell?,v] at this) (by intro Z ag e; injection e with _ e; omega)
  ⟨⟨h,es',clock',W,P,by rw [m]; exact U,N⟩,q7 _⟩
 rw [m] at J;refine ⟨J,.refl G,rv _,rfl,rfl,rfl,by simp,fun a x T=>?_,?_⟩
 ·by_cases d:a=l.b
  ·exact absurd ⟨g,_,l,c,f,d.symm,h⟩ T
  ·exact H a x d
 ·rintro a x ⟨q,t,K,O,D,C,z⟩;have k:upd s.h g (some (.map kv' s.c)) q=some t:=O;unfold upd at k;split at k
  ·rename_i d; subst d; exact ⟨q,_,K,c,D,C,z⟩
  ·exact ⟨q,t,K,k,D,C,z⟩
theorem vf {P:Program} {G:Gh} {s:St} {w:World} (t:TypeId) (d:Sim G s w) :
  Out P (Instr.makeMap t none) G s w (.map s.c) { h:=upd s.h s.c (some (.map [] s.c)),c:=s.c+1 }:=by
 have e:∀ a,a<w.heap.size->(w.alloc (.map #[] 0)).heap[a]?=w.heap[a]?:=fun a h=>heap_alloc_old w _ h;have f:=Sim.add (b':=.map [] s.c) (l':=⟨w.heap.size,1,0⟩) (c':=s.c+1) (w':=w.alloc (.map #[] 0)) d (q7 _) e (fun _=>q5 _) (by intro l o b; injection b with _ b; omega)
  ⟨⟨by simp,#[],0,heap_alloc_new w _,rfl,fun i b m c=>by simp at c,fun i j b k c=>by simp at c⟩,q7 _⟩
 have g:=Stp.add (b':=.map [] s.c) (l':=⟨w.heap.size,1,0⟩) (c':=s.c+1) (w':=w.alloc (.map #[] 0)) d (q7 _) e (fun _=>q5 _) (by simp) rfl rfl rfl
 exact ⟨.map (some w.heap.size),_,_,by simp [Instr.makeMap,newObj,Sem.run],g,f,.map s.c ⟨w.heap.size,1,0⟩ (ci _ _ _)⟩
theorem tup2 {G:Gh} {a b:AV} {x y:Value} (c:Rep G a x) (d:Rep G b y):Rep G (.tup [a,b]) (.tuple #[x,y]):=(RepL.cons c (RepL.cons d (RepL.nil G))).toTup
theorem BW {P:Program} {G:Gh} {s:St} {w:World} {t M l:TypeId} {K:KK} (q:P.underlying t=some (.map M l)) (d:fN P M=some K) {i:TypeInfo} {z:Value} (U:P.info? l=some i) (ag:i.zero=some z) {ok:Bool} {m k av:AV} {O N:Value}
  (h:lkI K (ofValue z) ok m k s=some av) (H:Rep G m O) (a:Rep G k N) (c:Sim G s w):Out P (Instr.lookup t O N ok) G s w av s:=by
 have J:(zeroValue l).run P w=.ok z w:=by simp [zeroValue,typeInfo,U,ag]
 have fin:∀ (e:Bool) (v:Value) (b:AV),Rep G b v->Rep G (if ok then .tup [b,.bool e] else b) (if ok then .tuple #[v,.bool e] else v):=by
  intro e v b C;cases ok
  ·simpa using C
  ·simpa using tup2 C (.sc _ rfl)
 unfold lkI at h;split at h
 ·rename_i am;split at h
  ·rename_i kv ver T;cases H with
   | map _ ap W=>
    obtain ⟨_,_,es,al,x,y,o,ao⟩:=c.map T W;split at h
    ·rename_i j p;obtain ⟨f,g,u⟩:=iO d a w y o p;obtain ⟨ai,Z,rfl⟩:=gC h;have Y:=u j rfl;have D:es[j]?=some es[j]:=rm Y;refine Out.quiet c (v:=if ok then .tuple #[es[j].val,.bool true] else es[j].val) ?_ (fin true _ _ (o j _ ai D Z).2.1)
     simp [Instr.lookup,run_underlying q,MapKept.run_getObj_map x,f,g,D]
    ·rename_i p;obtain ⟨f,g,u⟩:=iO d a w y o p;injection h with h; subst h;refine Out.quiet c (v:=if ok then .tuple #[z,.bool false] else z) ?_ (fin false _ _ (gD G z))
     simp [Instr.lookup,run_underlying q,MapKept.run_getObj_map x,f,g,J]
    ·cases h
  ·cases h
 ·split at h
  ·rename_i ab;injection h with h; subst h;obtain ⟨rfl,_⟩:=bH H;obtain ⟨ar,aa⟩:=tz ab;have R:=fun Q=>oq d a a aa Q w;have S:=(pO d a w (es:=[]) (kv:=[]) (r:=none) rfl (by simp) rfl).1
   refine Out.quiet c (v:=if ok then .tuple #[z,.bool false] else z) ?_ (fin false _ _ (gD G z))
   simp [Instr.lookup,run_underlying q,R,S,J]
  ·cases h
 ·cases h
theorem mQ {k:FK} {x y:Value} {r:Bool} (h:Same k x y r) (n:Nat):Instr.sameBits n x x=true:=by
 cases n <;> cases h <;> simp [Instr.sameBits,gV]
theorem mW {f:Value×Value->Bool}:∀ (l:List Value),(∀ x∈l,f (x,x)=true)->(l.zip l).all f=true
 | [],_=>rfl
 | x::l,a=>by simp only [List.zip_cons_cons,yn,a x (by simp),yt]; exact mW l fun c b=>a c (by simp [b])
theorem pJ {G:Gh}:∀ {ks:List FK} {c bs:List AV} {xs ys:List Value},cd ks c bs=some true->RepL G c xs->RepL G bs ys->xs=ys/\∀ x∈xs,∀ n,Instr.sameBits n x x=true
 | [],c,bs,xs,ys,d,a,b=>by
  obtain ⟨rfl,rfl,_⟩:=uf d;have l:xs=[]:=vF a.1.symm;have m:ys=[]:=vF b.1.symm;subst l; subst m;exact ⟨rfl,by simp⟩
 | H::ks,c,bs,xs,ys,d,a,b=>by
  obtain ⟨g,C,h,D,v,w,rfl,rfl,q,t,u⟩:=mZ d;have o:v=true/\w=true:=by
   have:=u.symm
   rwa [q9] at this
  obtain ⟨rfl,rfl⟩:=o;cases xs with
  | nil=>have:=a.1; simp at this
  | cons x xs=>
   cases ys with
   | nil=>have:=b.1; simp at this
   | cons y ys=>
    have f:=eZ q (a.2 0 g x rfl rfl) (b.2 0 h y rfl rfl);obtain ⟨k,p⟩:=pJ t (xs:=xs) (ys:=ys) (by simpa using a.drop 1) (by simpa using b.drop 1)
    refine ⟨by rw [f.eq,k],?_⟩
    intro z e n;rcases se.1 e with rfl | e
    ·exact mQ f n
    ·exact p z e n
theorem yR {P:Program} {G:Gh} {w:World} {f:KK} {a b:AV} {x y:Value} (h:gI f a b=some true) (d:Rep G a x) (e:Rep G b y):(Instr.keyThatStays y x).run P w=.ok x w:=by
 have:y=x/\Instr.sameBits 10000 x x=true:=by
  cases f with
  | one p=>have:=eZ h d e; exact ⟨this.eq.symm,mQ this _⟩
  | agg q=>
   unfold gI at h;split at h
   ·rename_i c; cases c
   ·rename_i t o bs c;injection c with c; subst c;obtain ⟨xs,rfl,l⟩:=d.ofAgg;obtain ⟨ys,rfl,m⟩:=e.ofAgg;obtain ⟨c,g⟩:=pJ h l m;have:xs=ys:=EF.1 c;subst this;refine ⟨rfl,?_⟩;show Instr.sameBits (9999+1) _ _=true;simp only [Instr.sameBits,beq_self_eq_true,yt];exact mW _ fun x k=>g x k _
   ·cases h
 rw [this.1];simp [Instr.keyThatStays,this.2]
theorem tv {c:KK} {a:AV}:∀ {kv:List (AV×AV)} {i j:Nat},bZ c a kv i=some (some j)->i<=j/\∃ p,kv[j-i]?=some p/\gI c a p.1=some true
 | [],i,j,b=>by simp [bZ] at b
 | p::kv,i,j,b=>by
  simp only [bZ] at b;split at b
  ·rename_i f;injection b with b; injection b with b; subst b;exact ⟨q5 _,p,by simp,f⟩
  ·obtain ⟨h,g,d,e⟩:=tv b;refine ⟨by omega,g,?_,e⟩
   rw [show j-i=(j-(i+1))+1 by omega,y6]; exact d
  ·cases b
theorem zB {P:Program} {G:Gh} {s s':St} {w:World} {t ar a6:TypeId} {ap:KK} (am:P.underlying t=some (.map ar a6)) (al:fN P ar=some ap) {m k v:AV} {a0 y z:Value}
  (h:muI ap m k v s=some s') (a9:Rep G m a0) (u:Rep G k y) (ao:Rep G v z) (R:Sim G s w):∃ w',(Instr.mapUpdate t a0 y z).run P w=.ok () w'/\Stp G s w G s' w'/\Sim G s' w':=by
 unfold muI at h;split at h
 ·rename_i bc;split at h
  ·rename_i W ver S;cases a9 with
   | map _ bf T=>
    obtain ⟨_,_,e,C,o,J,l,ai⟩:=R.map S T;split at h
    ·rename_i j K;obtain ⟨O,Q,ag⟩:=iO al u w J l K;injection h with h; subst h;have a8:=ag j rfl;have p:e[j]?=some e[j]:=rm a8;obtain ⟨_,ax,U,a'⟩:=tv (tw K).2;simp only [Nat.sub_zero] at U;have bb:=yR (P:=P) (w:=w) a' u (l j _ ax p U).1;obtain ⟨Z,aa⟩:=nz R S T (es':=e.modify j fun b=>{ b with key:=y,val:=z }) (clock':=C) (kv':=W.set j (k,v)) o (by simpa using J) (by
      intro i b Y a c;rw [z6] at a;rw [List.getElem?_set] at c;split at a
      ·rename_i g; subst g;rw [p] at a; simp at a; subst a;rw [if_pos rfl,if_pos (by omega)] at c
       injection c with c; subst c;exact ⟨u,ao,(l j _ ax p U).2.2⟩
      ·rename_i g;rw [if_neg g] at c;exact l i b Y a c) (by
      intro i x b D f d q;have look:∀ (i:Nat) (b:MapEntry),(e.modify j fun b=>{ b with key:=y,val:=z })[i]?=some b->∃ H:MapEntry,e[i]?=some H/\H.born=b.born:=by
       intro i b a;rw [z6] at a;split at a
       ·rename_i g; subst g;rw [p] at a; simp at a; subst a;exact ⟨_,p,rfl⟩
       ·exact ⟨b,a,rfl⟩
      obtain ⟨H,M,N⟩:=look i b f;obtain ⟨a4,a2,a3⟩:=look x D d;exact ai i x H a4 M a2 (by rw [N,a3,q]))
     refine ⟨_,?_,aa,Z⟩;simp [Instr.mapUpdate,run_underlying am,MapKept.run_getObj_map o,O,Q,p,bb,MapKept.run_setObj_map _ o]
    ·rename_i K;obtain ⟨O,Q,ag⟩:=iO al u w J l K;injection h with h; subst h;obtain ⟨Z,aa⟩:=nz R S T (es':=e.push ⟨y,z,C⟩) (clock':=C+1) (kv':=W++[(k,v)]) o (by simp [J]) (by
      intro i b Y a c;rw [Array.getElem?_push] at a;rw [wx] at c;split at a
      ·rename_i g; injection a with a; subst a;rw [if_neg (by omega)] at c
       have:i-W.length=0:=by omega
       rw [this] at c; simp at c; subst c;exact ⟨u,ao,q7 _⟩
      ·rename_i g;have a7:i<e.size:=(u7.1 a).1;rw [if_pos (by omega)] at c
       obtain ⟨M,N,a1⟩:=l i b Y a c;exact ⟨M,N,xi a1⟩) (by
      have ab:∀ (i:Nat) (b:MapEntry),e[i]?=some b->b.born<C:=by
       intro i b a;have a7:i<e.size:=(u7.1 a).1;exact (l i b _ a (q3 (by omega))).2.2
      intro i x b D f d q;rw [Array.getElem?_push] at f d;split at f
      ·rename_i g; injection f with f; subst f;split at d
       ·rename_i a5; omega
       ·have:=ab x D d;simp at q; omega
      ·split at d
       ·rename_i a5; injection d with d; subst d;have:=ab i b f;simp at q; omega
       ·exact ai i x b D f d q)
     refine ⟨_,?_,aa,Z⟩;simp [Instr.mapUpdate,run_underlying am,MapKept.run_getObj_map o,O,Q,MapKept.run_setObj_map _ o]
    ·cases h
  ·cases h
 ·cases h
theorem Cf {P:Program} {G:Gh} {s s':St} {w:World} {t u l:TypeId} (H:P.underlying t=some (.map u l)) {m av:AV} {v:Value} (h:rgI m s=some (av,s')) (D:Rep G m v) (b:Sim G s w):Out P (Instr.range t v) G s w av s':=by
 unfold rgI at h;split at h
 ·rename_i e;split at h
  ·rename_i U ver p;cases D with
   | map _ c q=>
    obtain ⟨R,J,k,a,f,N,O,Q⟩:=b.map p q;injection h with h; injection h with y z; subst y; subst z;have g:∀ d,d<w.heap.size->(w.alloc (.mapIter (some c.b) a #[] a)).heap[d]?=w.heap[d]?:=fun d C=>heap_alloc_old w _ C;have T:e≠s.c:=tr (b.hLt p);have K:=Sim.add (b':=.iter e ver []) (l':=⟨w.heap.size,1,0⟩) (c':=s.c+1) (w':=w.alloc (.mapIter (some c.b) a #[] a)) b (q7 _) g (fun _=>q5 _) (by simp)
     ⟨by simp,xi J,c,a,a,#[],(Gh.le_addLoc b.fresh).loc _ _ q,heap_alloc_new w _,fun W S=>⟨k,a,(g _ (cF f)).trans f,rfl,rfl,fun i x o=>by simp,fun i x o=>by simp at o⟩⟩
    have M:=Stp.add (b':=.iter e ver []) (l':=⟨w.heap.size,1,0⟩) (c':=s.c+1) (w':=w.alloc (.mapIter (some c.b) a #[] a)) b (q7 _) g (fun _=>q5 _) (by simp) rfl rfl rfl
    refine ⟨_,_,_,run_range_map w t u l c.b k a H f,M,K,?_⟩;have:=Rep.ptr (G:=G.addLoc s.c ⟨w.heap.size,1,0⟩) s.c 0 0 ⟨w.heap.size,1,0⟩ (ci _ _ _);simpa using this
  ·cases h
 ·cases h
theorem Sim.iter {G:Gh} {s:St} {w:World} (k:Sim G s w) {g m ver:Nat} {kv:List (AV×AV)} {done:List Nat} {l:Loc} (N:s.h g=some (.iter m ver done)) (q:s.h m=some (.map kv ver)) (O:G.loc g=some l) :
  0<l.cap/\ver<s.c/\∃ (c:Loc) (b:Nat) (seen:Array Nat) (es:Array MapEntry),G.loc m=some c/\w.heap[l.b]?=some (.mapIter (some c.b) b seen b)/\w.heap[c.b]?=some (.map es b)/\es.size=kv.length /\
   (∀ (i:Nat) (e:MapEntry) (p:AV×AV),es[i]?=some e->kv[i]?=some p->Rep G p.1 e.key/\Rep G p.2 e.val/\e.born<b) /\
   (∀ (i j:Nat) (e d:MapEntry),es[i]?=some e->es[j]?=some d->e.born=d.born->i=j) /\
   (∀ (i:Nat) (e:MapEntry),es[i]?=some e->(e.born∈seen↔i∈done))/\∀ (i:Nat) (e:MapEntry),done.getLast?=some i->es[i]?=some e->seen.back?=some e.born:=by
 obtain ⟨R,o,y,z,c,S,last,seen,f,C,D⟩:=k.blk g _ N;rw [O] at o; injection o with e; subst e;obtain ⟨es,b,h,H,J,K,M⟩:=D kv q;subst H; subst J;obtain ⟨_,_,Q,P,a,u,v,x⟩:=k.map q f;rw [h] at a; injection a with a; injection a with a t; subst a; subst t;exact ⟨y,z,c,b,seen,es,f,C,h,u,v,x,K,M⟩
theorem kK {P:Program} {w:World} {r:Nat} {a:Option Nat} {b c:Nat} {d:Array Nat} (e:w.heap[r]?=some (.mapIter a b d c)):(getObj r).run P w=.ok (.mapIter a b d c) w:=by
 simp [getObj,Sem.run,e]
theorem qe {P:Program} {w:World} {r:Nat} {a:Option Nat} {b c:Nat} {e:Array Nat} (o:Obj) (d:w.heap[r]?=some (.mapIter a b e c)):(setObj r o).run P w=.ok () { w with heap:=w.heap.setIfInBounds r o }:=by
 simp [setObj,Sem.run,d]
theorem uu {P:Program} (w:World) (o:TypeId) (r d a:Nat) (seen:Array Nat) (es:Array MapEntry) (m:w.heap[r]?=some (.mapIter (some d) a seen a)) (v:w.heap[d]?=some (.map es a)) (l:∀ x∈es.toList,x.born<a) :
  ((leftOf es seen).size=0/\(Instr.next (.pointer (some ⟨r,0,none⟩)) false o).run P w=.ok (.tuple #[.bool false]) w) \/
  ∃ e∈(leftOf es seen).toList,∃ b:World,(b=w\/b=w.drew)/\(Instr.next (.pointer (some ⟨r,0,none⟩)) false o).run P w=.ok (.tuple #[.bool true,e.key,e.val]) { b with heap:=b.heap.setIfInBounds r (.mapIter (some d) a (seen.push e.born) a) }:=by
 have t:=kK (P:=P) m;have u:=MapKept.run_getObj_map (P:=P) v;simp only [Instr.next,Sem.run_bind,t,u,Result.andThen_ok,next_test_false seen es a a l (q5 _),u1,if_false]
 unfold leftOf;have f:∀ x∈(Array.filter (fun e=>!seen.contains e.born) es).toList,x.born<a:=fun x c=>l x (by simp at c ⊢; exact c.1)
 generalize Array.filter (fun e=>!seen.contains e.born) es=L at f ⊢;have p:L.filter (fun x=>decide (x.born<a))=L:=Array.filter_eq_self.2 (fun x c=>by simpa using f x (by simpa using c))
 have q:L.filter (fun x=>decide (x.born>=a))=#[]:=by
  rw [Array.filter_eq_empty_iff];intro x c;have:=f x (by simpa using c)
  simp;omega
 simp only [p,q,Array.append_empty];by_cases g:L.size=0
 ·left;have:L=#[]:=sp g;subst this;refine ⟨rfl,?_⟩;simp [choose,Sem.run,Question.forced]
 ·right;have C:L.isEmpty=false:=by simp [Array.isEmpty,g]
  simp only [C,u1,if_false,Array.empty_append,Array.size_map];have y:∃ (j:Nat) (b:World),j<L.size/\(b=w\/b=w.drew)/\(choose (Question.mapNext L.size)).run P w=.ok j b:=by
   by_cases k:L.size<=1
   ·exact ⟨0,w,by omega,.inl rfl,by simp [choose,Sem.run,Question.forced,k]⟩
   ·exact ⟨_,w.drew,EA _ (by omega),.inr rfl,by
     simp only [choose,Sem.run,Question.forced,decide_eq_true_eq,k,if_false,Question.cut];rfl⟩
  obtain ⟨j,b,z,h,G⟩:=y;have D:b.heap[r]?=some (.mapIter (some d) a seen a):=by rcases h with rfl | rfl <;> exact m
  refine ⟨L[j],by simp,b,h,?_⟩
  simp only [G,Result.andThen_ok,Array.getElem?_map,rm z,EH,Sem.run_bind,qe _ D,Sem.run_pure]
theorem tup3 {G:Gh} {a b c:AV} {x y z:Value} (d:Rep G a x) (e:Rep G b y) (f:Rep G c z):Rep G (.tup [a,b,c]) (.tuple #[x,y,z]):=(RepL.cons d (RepL.cons e (RepL.cons f (RepL.nil G)))).toTup
theorem Cd {P:Program} {G:Gh} {s:St} {w:World} {K:AV->St->Prop} {a2:AV} {a5:Value} (a4:TypeId) (h:nxW a2 s K) (b2:Rep G a2 a5) (u:Sim G s w) :
  ∃ v w' av s',(Instr.next a5 false a4).run P w=.ok v w'/\Stp G s w G s' w'/\Sim G s' w'/\Rep G av v/\K av s':=by
 unfold nxW at h;split at h
 ·rename_i g;split at h
  ·rename_i Q ver done t;split at h
   ·rename_i O ai Y;obtain ⟨b7,b1,b5⟩:=h;subst b7;cases b2 with
    | ptr _ _ _ k N=>
     obtain ⟨S,a6,o,b,seen,c,a7,H,q,cb,am,a8,J,cc⟩:=u.iter t Y N;have bb:∀ R∈c.toList,R.born<b:=by
      intro R C;obtain ⟨i,M,C⟩:=Cl C;have z:i<c.size:=by simpa using M
      have T:c[i]?=some R:=by rw [<-C,rm z]; simp
      exact (am i R _ T (q3 (by omega))).2.2
     simp only [y2,wa];rcases uu (P:=P) w a4 k.b o.b b seen c H q bb with ⟨b9,ag⟩ | ⟨l,T,d,b8,ag⟩
     ·refine ⟨_,w,.tup [.bool false],s,ag,Stp.refl G s w,u,(RepL.cons (.sc _ rfl) (RepL.nil G)).toTup,b1 ?_⟩;intro i M;have z:i<c.size:=by omega
      have a9:c[i]∉leftOf c seen:=by
       have:leftOf c seen=#[]:=sp b9;rw [this]; simp
      refine (J i c[i] (rm z)).1 ?_;refine sx fun bt=>a9 ?_;simp [leftOf,bt]
     ·obtain ⟨bl,b3⟩:=mem_left T;obtain ⟨i,M,C⟩:=Cl bl;have z:i<c.size:=by simpa using M
      have y:c[i]?=some l:=by rw [<-C,rm z]; simp
      have bx:l.born∉seen:=by simpa using b3
      have bo:i∉done:=fun bc=>bx ((J i l y).2 bc);have ax:O[i]?=some O[i]:=q3 (by omega)
      obtain ⟨b',ca,_⟩:=am i l _ y ax;have x:Sim G s d/\d.heap=w.heap/\d.os=w.os/\d.tape=w.tape/\d.output=w.output:=by
       rcases b8 with rfl | rfl
       ·exact ⟨u,rfl,rfl,rfl,rfl⟩
       ·exact ⟨u.drew,rfl,rfl,rfl,rfl⟩
      obtain ⟨x,m,bN,b6,b0⟩:=x;have bj:k.b<d.heap.size:=by rw [m]; exact cF H
      have W:=iZ N;have a':o.b≠k.b:=by
       intro p;rw [p] at q;rw [H] at q; cases q
      have cl:Q≠g:=by
       rintro rfl;rw [t] at Y; cases Y
      have aa:∀ e,e<d.heap.size->e≠k.b->(d.heap.setIfInBounds k.b (.mapIter (some o.b) b (seen.push l.born) b))[e]?=d.heap[e]?:=fun e _ Z=>by
       rw [u4,if_neg (s4 Z)]
      have b4:(d.heap.setIfInBounds k.b (Obj.mapIter (some o.b) b (seen.push l.born) b))[k.b]?=some (.mapIter (some o.b) b (seen.push l.born) b):=by
       rw [u4,if_pos rfl,if_pos bj]
      have a1:=Sim.put (g:=g) (b':=.iter Q ai (done++[i])) (l':=k) (c':=s.c) (w':={ d with heap:=d.heap.setIfInBounds k.b (.mapIter (some o.b) b (seen.push l.born) b) }) x (q5 _) (u.hLt t) (by rw [W]; exact .refl G)
       (fun ap=>x.freeOther t (by simp) N ap) (fun e bk Z=>aa e bk (Z S)) (fun cp v ap bm=>by
        have:=x.mem _ _ _ bm;simp [World.cell?,m,H] at this) (by simp)
       ⟨S,a6,o,b,b,seen.push l.born,by rw [W]; exact a7,b4,fun cn ch=>⟨c,b,(aa _ (by rw [m]; exact cF q) a').trans (by rw [m]; exact q),rfl,rfl,fun j p a=>by
        constructor
        ·intro f;rcases EM.1 f with f | f
         ·simp [(J j p a).1 f]
         ·have:=a8 j i p l a y f;subst this; simp
        ·intro f;rcases rd.1 f with f | f
         ·exact EM.2 (.inl ((J j p a).2 f))
         ·have:j=i:=by simpa using f
          subst this;rw [y] at a; injection a with a; subst a;exact EM.2 (.inr rfl),fun j p bf a=>by
        have:j=i:=by simpa using bf.symm
        subst this;rw [y] at a; injection a with a; subst a;simp⟩⟩
      rw [W] at a1;refine ⟨_,_,.tup [.bool true,O[i].1,O[i].2],{ h:=upd s.h g (some (.iter Q ai (done++[i]))),c:=s.c },ag,?_,a1,tup3 (.sc _ rfl) b' ca,b5 i _ ax bo⟩;refine ⟨.refl G,q5 _,bN,b6,b0,by simp [m],fun e ao bW=>?_,?_⟩
      ·by_cases D:e=k.b
       ·exact absurd ⟨g,_,k,t,N,D.symm,S⟩ bW
       ·rw [<-m]; exact aa e (by rw [m]; exact ao) D
      ·rintro e ao ⟨ab,al,a3,bi,a0,a,ar⟩;have U:upd s.h g (some (.iter Q ai (done++[i]))) ab=some al:=bi;unfold upd at U;split at U
       ·rename_i D; subst D; exact ⟨ab,_,a3,t,a0,a,ar⟩
       ·exact ⟨ab,al,a3,U,a0,a,ar⟩
   ·exact h.elim
  ·exact h.elim
 ·exact h.elim
theorem Cc {P:Program} {G:Gh} {s:St} {w:World} {l av:AV} {m:Value} (h:ntI l s=some av) (O:Rep G l m) (e:Sim G s w):Out P (Instr.entry m) G s w av s:=by
 unfold ntI at h;split at h
 ·rename_i W;split at h
  ·rename_i am ver done H;split at h
   ·rename_i ag ao i M C;split at h
    ·rename_i Q;subst Q;obtain ⟨R,k,rfl⟩:=gC h;cases O with
     | ptr _ _ _ ai K=>
      obtain ⟨Y,Z,al,U,seen,a,aa,p,q,t,u,v,ab,x⟩:=e.iter H M K;have g:i<a.size:=by rw [t]; exact (q4.1 k).1
      have c:a[i]?=some a[i]:=rm g;obtain ⟨S,T,_⟩:=u i _ R c k;have z:=x i _ C c;have D:a.find? (fun d=>d.born==a[i].born)=some a[i]:=by
       cases b:a.find? (fun d=>d.born==a[i].born) with
       | none=>
        rw [Array.find?_eq_none] at b;have:=b a[i] (Array.getElem_mem g);simp at this
       | some o=>
        have y:=Array.find?_some b;have N:=Array.mem_of_find?_eq_some b;obtain ⟨j,J,f⟩:=Array.getElem_of_mem N;have:=v j i o a[i] (by rw [<-f]; exact rm J) c (by simpa using y)
        subst this;rw [<-f]
      refine Out.quiet e (v:=.tuple #[a[i].key,a[i].val]) ?_ (tup2 S T);simp only [y2,wa];simp [Instr.entry,kK p,z,MapKept.run_getObj_map q,D]
    ·cases h
   ·cases h
  ·cases h
 ·cases h
end Go.AM
