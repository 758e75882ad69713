/- Part of the claim: see its last text. -/
import Derived.Test.YtjhogglgkjcacaaGreatMa1
import Derived.Laws.Entries
import Derived.Laws.CopyRow
import Derived.ChangeKeysEq
set_option linter.all false
namespace Go.AM
def oY (G:Gh) (s:St) (g b:Nat):Prop:=∀ a d c,a≠g->s.h a=some d->G.loc a=some c->0<c.cap->c.b≠b
theorem Am {G:Gh} {s:St} {i j:Nat} {b l':Loc} {g c':Nat} {b':Body} (o:G.Le (G.addLoc g l')) (h:mV G s i j b) (R:oY G s g l'.b) (y:i≠g) (z:j≠g)
  (S:G.loc i=some b) (Q:0<b.cap) (c:b.b≠l'.b\/(∀ k a,G.loc k=some a->k=g->a.b=b.b->0<a.cap->s.h k=none)) :
  mV (G.addLoc g l') { h:=upd s.h g (some b'),c:=c' } i j b:=by
 obtain ⟨O,k,p,J,u,v,⟨P,q,M,K,a,l,e,f,m⟩,sz'',t,N,H,w,x⟩:=h;have C:k≠g:=by
  intro d;rcases c with c | c
  ·subst d;have D:=o.loc _ _ e;have:(if k=k then some l' else G.loc k)=some a:=D
   rw [if_pos rfl] at this; injection this with d; subst d;exact c f.symm
  ·have:=c k a e d f m;rw [l] at this; cases this
 refine ⟨O,k,p,J,?_,v,⟨P,q,M,K,a,?_,o.loc _ _ e,f,m⟩,sz'',t,N,H,?_,x⟩
 ·show upd s.h g (some b') i=_; unfold upd; rw [if_neg y]; exact u
 ·show upd s.h g (some b') k=_; unfold upd; rw [if_neg C]; exact l
 ·show upd s.h g (some b') j=_; unfold upd; rw [if_neg z]; exact w
theorem Sim.put {G:Gh} {s:St} {w w':World} {g:Nat} {b':Body} {l':Loc} {c':Nat} (l:Sim G s w) (Z:s.c<=c') (a':g<c') (p:G.Le (G.addLoc g l'))
  (J:0<l'.cap->oY G s g l'.b) (ar:∀ b,b<w.heap.size->(0<l'.cap->b≠l'.b)->w'.heap[b]?=w.heap[b]?)
  (bl:∀ o v,0<l'.cap->G.mem l'.b o=some v->w'.cell? ⟨l'.b,o,none⟩=some v) (bx:∀ kv ver,b'=.map kv ver->s.c<=ver)
  (bo:nS (G.addLoc g l') { h:=upd s.h g (some b'),c:=c' } w'.heap l' b') :
  Sim (G.addLoc g l') { h:=upd s.h g (some b'),c:=c' } w':=by
 have Q:∀ c W d,c≠g->s.h c=some W->G.loc c=some d->0<d.cap->w'.heap[d.b]?=w.heap[d.b]?:=fun c W d m e y z=>
  ar _ (l.blkLt e y z) fun x=>J x c W d m e y z
 refine ⟨fun b o v ag=>?_,fun c t m=>?_,fun c b m=>?_,?_⟩
 ·by_cases a:0<l'.cap/\b=l'.b
  ·obtain ⟨a4,a⟩:=a; subst a; exact bl o v a4 ag
  ·rw [d6 (ar b (l.memLt ag) fun x a3=>a ⟨x,a3⟩)]; exact l.mem b o v ag
 ·have:(if c=g then some l' else G.loc c)=some t:=m
  split at this
  ·rename_i a; subst a; exact a'
  ·exact ro (l.dom c t this) Z
 ·have:upd s.h g (some b') c=some b:=m;unfold upd at this;split at this
  ·rename_i a; subst a; injection this with a; subst a;exact ⟨l',by simp [Gh.addLoc],bo⟩
  ·rename_i ai;obtain ⟨t,S,f⟩:=l.blk c b this;refine ⟨t,p.loc _ _ S,?_⟩;cases b with
   | row a1 O b6 a0=>exact ⟨f.1,f.2.1,f.2.2.1.keep p (fun h=>Q c _ t ai this S h),f.2.2.2⟩
   | map kv ver=>exact ⟨MapOk.keep f.1 p (Q c _ t ai this S f.1.1),ro f.2 Z⟩
   | iter ao ver done=>
    obtain ⟨x,bN,am,b1,last,seen,e,y,z⟩:=f;refine ⟨x,ro bN Z,am,b1,last,seen,p.loc _ _ e,(Q c _ t ai this S x).trans y,fun kv bi=>?_⟩;have C:upd s.h g (some b') ao=some (.map kv ver):=bi;unfold upd at C;split at C
    ·injection C with a;have:=bx kv ver a;omega
    ·rename_i bm;obtain ⟨O,a2,P,Y⟩:=z kv C;have R:0<am.cap:=by
      obtain ⟨b5,ax,bt⟩:=l.blk ao _ C;rw [e] at ax; injection ax with a; subst a;exact bt.1.1
     exact ⟨O,a2,(Q ao _ am bm C e R).trans P,Y⟩
 ·intro i j N U T al bc bb bf bj bk ab H aa;have K:upd s.h g (some b') i=some N:=bb;have M:upd s.h g (some b') j=some U:=bf;have q:(if i=g then some l' else G.loc i)=some T:=bj
  have D:(if j=g then some l' else G.loc j)=some al:=bk
  unfold upd at K M;by_cases u:i=g
  ·rw [if_pos u] at q; injection q with a; subst a;have k:j≠g:=by omega
   rw [if_neg k] at M D;exact absurd ab.symm (J H j U al k M D aa)
  ·rw [if_neg u] at K q;by_cases k:j=g
   ·rw [if_pos k] at D; injection D with a; subst a;exact absurd ab (J aa i N T u K q H)
   ·rw [if_neg k] at M D;have ap:=l.ov i j N U T al bc K M q D ab H aa;by_cases R:0<l'.cap
    ·exact Am p ap (J R) u k q H (.inl (J R i N T u K q H))
    ·
     obtain ⟨a1,c,O,a0,e,y,⟨b4,a5,b2,b0,d,z,P,Y,a7⟩,sz'',a6,b3,bW,a8,a9⟩:=ap;have m:c≠g:=by
      intro a; subst a;have:=p.loc _ _ P;have:(if c=c then some l' else G.loc c)=some d:=this
      rw [if_pos rfl] at this; injection this with a; subst a;omega
     refine ⟨a1,c,O,a0,?_,y,⟨b4,a5,b2,b0,d,?_,p.loc _ _ P,Y,a7⟩,sz'',a6,b3,bW,?_,a9⟩
     ·show upd s.h g (some b') i=_; unfold upd; rw [if_neg u]; exact e
     ·show upd s.h g (some b') c=_; unfold upd; rw [if_neg m]; exact z
     ·show upd s.h g (some b') j=_; unfold upd; rw [if_neg k]; exact a8
theorem iZ {G:Gh} {g:Nat} {l:Loc} (h:G.loc g=some l):G.addLoc g l=G:=by
 unfold Gh.addLoc;have:(fun a=>if a=g then some l else G.loc a)=G.loc:=by funext a; split <;> simp_all
 rw [this]
theorem Sim.freeRow {G:Gh} {s:St} {w:World} (m:Sim G s w) {g sz:Nat} {es:List (List AV)} {u:RSt} {l:Loc} (b:s.h g=some (.row sz es u none)) (x:∀ k,u≠.lent k)
  (q:G.loc g=some l) (o:0<l.cap):oY G s g l.b:=by
 intro k d t v e f h p;rcases y1 v with c | c
 ·obtain ⟨_,_,_,_,_,_,_,_,_,_,z,a,_⟩:=m.ov k g d _ t l c e b f q p h o;rw [b] at a; cases a
 ·obtain ⟨_,y,_,_,a,_⟩:=m.ov g k _ d l t c b e q f p.symm o h;rw [b] at a; injection a with a; injection a with _ _ a; exact x _ a
theorem Sim.freeOther {G:Gh} {s:St} {w:World} (m:Sim G s w) {g:Nat} {b:Body} {l:Loc} (c:s.h g=some b) (o:∀ sz es x z,b≠.row sz es x z)
  (t:G.loc g=some l) (p:0<l.cap):oY G s g l.b:=by
 intro u e v y f h k q;rcases y1 y with d | d
 ·obtain ⟨_,_,_,_,_,_,_,sz,es,x,D,a,_⟩:=m.ov u g e _ v l d f c h t q k p;rw [c] at a; injection a with a; exact o _ _ _ _ a
 ·obtain ⟨_,C,_,_,a,_⟩:=m.ov g u _ e l v d c f t h q.symm p k;rw [c] at a; injection a with a; exact o _ _ _ _ a
theorem Sim.sub {G:Gh} {s s':St} {w:World} (o:Sim G s w) (v:s.c<=s'.c) (a:∀ g b,s'.h g=some b->s.h g=some b)
  (ag:∀ i j h l c d,i<j->s'.h i=some h->s'.h j=some l->G.loc i=some c->G.loc j=some d->c.b=d.b->0<c.cap->0<d.cap ->
   ∀ sz k es e,s.h i=some (.row sz es (.lent k) e)->k<=j->∀ b,s.h k=some b->s'.h k=some b):Sim G s' w:=by
 refine ⟨o.mem,fun g x T=>ro (o.dom g x T) v,fun g b ab=>?_,?_⟩
 ·obtain ⟨x,al,t⟩:=o.blk g b (a g b ab);refine ⟨x,al,?_⟩;cases b with
  | row sz es a3 e=>exact t
  | map N ver=>exact ⟨t.1,ro t.2 v⟩
  | iter ar ver done=>
   obtain ⟨U,am,ap,a0,last,seen,f,m,u⟩:=t;exact ⟨U,ro am v,ap,a0,last,seen,f,m,fun N ai=>u N (a ar _ ai)⟩
 ·intro i j h l c d J p q K M H C D;obtain ⟨sz,k,es,e,f,m,⟨a2,S,a1,ax,ao,u,W,Y,Z⟩,sz'',y,P,O,z,aa⟩:=o.ov i j h l c d J (a i _ p) (a j _ q) K M H C D;have Q:h=.row sz es (.lent k) e:=by have:=a i _ p; rw [this] at f; exact ty f
  have R:l=.row sz'' y P (some O):=by have:=a j _ q; rw [this] at z; exact ty z
  subst Q; subst R;exact ⟨sz,k,es,e,p,m,⟨a2,S,a1,ax,ao,ag i j _ _ c d J p q K M H C D sz k es e f m _ u,W,Y,Z⟩,sz'',y,P,O,q,aa⟩
theorem Sim.ret {G:Gh} {s:St} {w:World} {d:Nat} {e:Heap} (m:Sim G s w) (l:∀ k,d<=k->e k=none):Sim G { h:=retH d e s.h,c:=s.c } w:=by
 have f:∀ b a,retH d e s.h b=some a->b<d/\s.h b=some a:=by
  intro b a c;unfold retH at c;split at c
  ·rename_i h; exact ⟨h,c⟩
  ·rename_i h; rw [l b (by omega)] at c; cases c
 refine m.sub (q5 _) (fun b a c=>(f b a c).2) ?_;intro i j q g K M D C p H J z x y O k t N u v a o;have:=(f j g p).1;show retH d e s.h k=some a;unfold retH; rw [if_pos (by omega)]; exact o
theorem Sim.dropOne {G:Gh} {s:St} {w:World} {g:Nat} {b:Body} {l:Loc} (o:Sim G s w) (W:s.h g=some b) (O:G.loc g=some l) (K:0<l.cap->oY G s g l.b) :
  Sim G { s with h:=upd s.h g none } w:=by
 have e:∀ c b,upd s.h g none c=some b->c≠g/\s.h c=some b:=by
  intro c b d;unfold upd at d;split at d
  ·cases d
  ·rename_i h; exact ⟨h,d⟩
 refine o.sub (q5 _) (fun c b d=>(e c b d).2) ?_;intro i j m v t Q M k N q P J p H ag c R aa y T u D;show upd s.h g none c=some u;unfold upd;rw [if_neg]
 ·exact D
 ·intro x;subst x;obtain ⟨ai,Y,S,ab,a,_,⟨_,_,_,_,Z,U,f,z,C⟩,_⟩:=o.ov i j m v t Q M (e i _ k).2 (e j _ N).2 q P J p H;rw [y] at a; injection a with a; injection a with _ _ a; injection a with a; subst a;rw [O] at f; injection f with f; subst f;exact K C i m t (e i _ k).1 (e i _ k).2 q p z.symm
theorem Stp.sub {G:Gh} {s s':St} {w:World} (hc:s.c<=s'.c) (hh:∀ g b,s'.h g=some b->s.h g=some b):Stp G s w G s' w where
 le:=.refl G
 c:=hc
 os:=rfl
 tape:=rfl
 output:=rfl
 size:=q5 _
 keep _ _ _:=rfl
 own b hb:=fun ⟨g,body,l,hg,hl,he,hcap⟩=>⟨g,body,l,hh g body hg,hl,he,hcap⟩
def Gh.addMem (G:Gh) (b:Nat) (C:Array Value):Gh:={ G with mem:=fun a c=>if a=b then C[c]? else G.mem a c }
theorem Sim.leMem {G:Gh} {s:St} {w:World} {b:Nat} {C:Array Value} {e:TypeId} {fr:Nat×Nat} (h:Sim G s w) (k:w.heap[b]?=some (.cells C e fr)):G.Le (G.addMem b C):=
 ⟨fun _ _ g=>g,fun a c f d=>by
  show (if a=b then C[c]? else G.mem a c)=some f
  split
  ·rename_i e; subst e;have:=h.mem a c f d
   rwa [lu k] at this
  ·exact d⟩
theorem Sim.addMem {G:Gh} {s:St} {w:World} {b:Nat} {C:Array Value} {e:TypeId} {fr:Nat×Nat} (d:Sim G s w) (p:w.heap[b]?=some (.cells C e fr))
  (K:∀ k sz es g m l,s.h k=some (.row sz es g m)->g≠.frz->G.loc k=some l->0<l.cap->l.b≠b):Sim (G.addMem b C) s w:=by
 have v:=d.leMem p;refine ⟨fun h c y M=>?_,d.dom,fun k o t=>?_,?_⟩
 ·have:(if h=b then C[c]? else G.mem h c)=some y:=M
  split at this
  ·rename_i e; subst e; rw [lu p]; exact this
  ·exact d.mem h c y this
 ·obtain ⟨f,u,a⟩:=d.blk k o t;refine ⟨f,u,?_⟩;cases o with
  | row sz es g m=>
   refine ⟨a.1,a.2.1,a.2.2.1.keep v (fun _=>rfl),fun x q c=>?_⟩;show (if f.b=b then C[c]? else G.mem f.b c)=none
   rw [if_neg (K k sz es g m f t x u q)];exact a.2.2.2 x q c
  | map Q ver=>exact ⟨MapOk.keep a.1 v rfl,a.2⟩
  | iter R ver done=>
   obtain ⟨z,N,O,P,last,seen,D,H,J⟩:=a;exact ⟨z,N,O,P,last,seen,D,H,J⟩
 ·exact d.ov
theorem Stp.addMem {G:Gh} {s:St} {w:World} {b:Nat} {C:Array Value} (hle:G.Le (G.addMem b C)):Stp G s w (G.addMem b C) s w where
 le:=hle
 c:=q5 _
 os:=rfl
 tape:=rfl
 output:=rfl
 size:=q5 _
 keep _ _ _:=rfl
 own b hb:=fun h=>h
theorem Sim.allocMem {G:Gh} {s:St} {w:World} (c:Sim G s w) (C:Array Value) (e:TypeId):Sim (G.addMem w.heap.size C) s (w.alloc (.cells C e))/\Stp G s w (G.addMem w.heap.size C) s (w.alloc (.cells C e)):=by
 have g:∀ a,a<w.heap.size->(w.alloc (.cells C e)).heap[a]?=w.heap[a]?:=fun a b=>heap_alloc_old w _ a b;have d:Sim G s (w.alloc (.cells C e)):=c.grow g;have f:=heap_alloc_new w (.cells C e);have k:=d.addMem f (fun q x p v u t m _ o l=>tr (c.blkLt m o l));refine ⟨k,?_⟩;exact { le:=d.leMem f,c:=q5 _,os:=rfl,tape:=rfl,output:=rfl,size:=by simp,keep:=fun a b _=>g a b,own:=fun a b h=>h }
def Out (P:Program) (x:Sem Value) (G:Gh) (s:St) (w:World) (av:AV) (s':St):Prop:=
 ∃ c b a,x.run P w=.ok c b/\Stp G s w a s' b/\Sim a s' b/\Rep a av c
theorem Out.quiet {P:Program} {x:Sem Value} {G:Gh} {s:St} {w:World} {av:AV} {v:Value} (a:Sim G s w) (h:x.run P w=.ok v w) (b:Rep G av v):Out P x G s w av s:=
 ⟨v,w,G,h,Stp.refl G s w,a,b⟩
def tAg (P:Program) (t:TypeId):Option (Option Nat):=match P.underlying t with
 | some (.struct _) | some (.array _ _)=>(P.info? t).map fun i=>some i.size
 | some _=>some none
 | none=>none
theorem tX {P:Program} {t:TypeId} {n:Nat} (h:tAg P t=some (some n)) (w:World):(isAgg t).run P w=.ok true w/\(sizeOf t).run P w=.ok n w:=by
 unfold tAg at h;have d:∀ a,P.underlying t=some a->(match a with | .struct _ | .array _ _=>true | _=>false)=true->(P.info? t).map (fun i=>some i.size)=some (some n)->(isAgg t).run P w=.ok true w/\(sizeOf t).run P w=.ok n w:=by
  intro a f e b;cases c:P.info? t with
  | none=>simp [c] at b
  | some i=>
   simp [c] at b;refine ⟨?_,by simp [sizeOf,typeInfo,c,b]⟩
   cases a <;> simp at e <;> simp [isAgg,run_underlying f]
 split at h
 ·exact d _ ‹_› rfl h
 ·exact d _ ‹_› rfl h
 ·simp at h
 ·simp at h
theorem tW {P:Program} {t:TypeId} (h:tAg P t=some none) (w:World):(isAgg t).run P w=.ok false w:=by
 unfold tAg at h;split at h
 ·simp at h
 ·simp at h
 ·rename_i a b c d;cases a <;> first | (exact absurd rfl (b _)) | (exact absurd rfl (c _ _)) | simp [isAgg,run_underlying d]
 ·simp at h
def sL (w:World) (b o:Nat) (vs:List Value):Prop:=∀ (j:Nat) (a:Value),vs[j]?=some a->w.cell? ⟨b,o+j,none⟩=some a
theorem fC (b o j:Nat):(⟨b,o,none⟩:Addr).add j=⟨b,o+j,none⟩:=by unfold Addr.add; split <;> simp_all
theorem gJ {P:Program} {w:World} {t:TypeId} {b o:Nat} {cs:List AV} {G:Gh} {vs:List Value} (g:sL w b o vs) (d:RepL G cs vs) {c:Option Nat} (e:tAg P t=some c) {k:Nat} {av:AV}
  (h:du c cs k=some av):∃ v,(loadVar t ⟨b,o+k,none⟩).run P w=.ok v w/\Rep G av v:=by
 cases c with
 | some n=>
  simp only [du] at h;split at h
  ·rename_i u;injection h with h; subst h;obtain ⟨l,m⟩:=tX e w;refine ⟨.agg ((vs.drop k).take n).toArray,?_,(d.drop k |>.take n).toAgg⟩
   have p:((vs.drop k).take n).length=n:=by simp [<-d.1]; omega
   have f:=run_loadCells_list (P:=P) w ⟨b,o+k,none⟩ ((vs.drop k).take n) (fun j v a=>by
    rw [fC,xo];rw [s0] at a;split at a
    ·rw [s8] at a; exact g _ _ a
    ·cases a)
   rw [p] at f;simp [loadVar,l,m,f]
  ·cases h
 | none=>
  simp only [du] at h;obtain ⟨v,a,q⟩:=d.get h;refine ⟨v,?_,q⟩;simp [loadVar,tW e w,g _ _ a]
theorem Sim.elem {G:Gh} {s:St} {w:World} (x:Sim G s w) {g e:Nat} {cs:List AV} (h:s.elem g e=some cs) :
  ∃ l,G.loc g=some l/\∃ vs,sL w l.b (e*l.sz) vs/\RepL G cs vs/\0<l.cap/\cs.length=l.sz:=by
 unfold St.elem at h;split at h
 ·rename_i Q q P O y;obtain ⟨l,z,N,M,m,_⟩:=x.blk g _ y;have K:e<q.length:=(q4.1 h).1;have k:0<l.cap:=by have:=m.1; omega
  obtain ⟨o,R,t,J,u⟩:=m.2 k;obtain ⟨v,d⟩:=u e cs h;refine ⟨l,z,(List.range cs.length).map (fun j=>o.getD (e*l.sz+j) default),?_,⟨by simp,?_⟩,k,v⟩
  ·intro j H a;have b:j<cs.length:=by have:=(q4.1 a).1; simpa using this
   obtain ⟨_,D,c,_⟩:=d j _ (q3 b);simp [rb,u9 b] at a;rw [lu t,c,<-a,c]; rfl
  ·intro j p H f a;have b:j<cs.length:=(q4.1 f).1;obtain ⟨_,D,c,C⟩:=d j p f;simp [rb,u9 b,c] at a;subst a; exact C
 ·cases h
theorem Sim.zp {G:Gh} {s:St} {w:World} (k:Sim G s w) {cs:List AV} {o:Nat} {v:Value} (h:Rep G (.zp cs o) v) :
  ∃ b a vs,v=.pointer (some ⟨b,a+o,none⟩)/\sL w b a vs/\RepL G cs vs:=by
 cases h with
 | zp _ _ b a g l h=>
  refine ⟨b,a,(List.range cs.length).map g,rfl,fun j v c=>?_,by simp,fun j f v e c=>?_⟩
  ·have d:j<cs.length:=by have:=(q4.1 c).1; simpa using this
   simp [rb,u9 d] at c;subst c;exact k.mem _ _ _ (l j _ (q3 d))
  ·have d:j<cs.length:=(q4.1 e).1;simp [rb,u9 d] at c;subst c; exact h j f e
theorem BV {P:Program} {G:Gh} {s:St} {w:World} {t:TypeId} {l:Option Nat} (m:tAg P t=some l) {a av:AV} {x:Value} (h:ldI l a s=some av) (o:Rep G a x) (b:Sim G s w) :
  Out P (Instr.loadAt t x) G s w av s:=by
 unfold ldI at h;split at h
 ·rename_i u q y;cases d:s.elem u q with
  | none=>simp [d] at h
  | some p=>
   simp [d] at h;obtain ⟨H,v,C,e,g,_⟩:=b.elem d;cases o with
   | ptr _ _ _ J c=>
    rw [v] at c; injection c with c; subst c;obtain ⟨z,k,f⟩:=gJ (P:=P) e g m h;exact .quiet b (by simp [Instr.loadAt,Instr.sureAddr,k]) f
 ·rename_i p y;obtain ⟨D,a,C,rfl,e,g⟩:=b.zp o;obtain ⟨z,k,f⟩:=gJ (P:=P) e g m h;exact .quiet b (by simp [Instr.loadAt,Instr.sureAddr,k]) f
 ·cases h
def tSz (P:Program) (t:TypeId):Option Nat:=(P.info? t).map (·.size)
theorem uQ {P:Program} {t:TypeId} {n:Nat} (h:tSz P t=some n) (w:World):(sizeOf t).run P w=.ok n w:=by
 unfold tSz at h;cases a:P.info? t with
 | none=>simp [a] at h
 | some i=>simp [a] at h; simp [sizeOf,typeInfo,a,h]
def zr (P:Program) (b:TypeId) (f:Nat):Option Nat:=match P.underlying b with
 | some (.struct fields)=>match fields[f]? with
  | some a=>match tSz P a.type with
   | some (_+1)=>some a.offset
   | _=>none
  | none=>none
 | _=>none
theorem BM {P:Program} {G:Gh} {s:St} {w:World} {t:TypeId} {f off:Nat} (b:zr P t f=some off) {a av:AV} {x:Value} (h:faI off a=some av) (k:Rep G a x) (g:Sim G s w) :
  Out P (Instr.fieldAt t x f) G s w av s:=by
 unfold zr at b;split at b
 ·rename_i fields C;split at b
  ·rename_i e u;split at b
   ·rename_i n z;injection b with b; subst b;have l:∀ (d c:Nat),(Instr.fieldAt t (.pointer (some ⟨d,c,none⟩)) f).run P w=.ok (.pointer (some ⟨d,c+e.offset,none⟩)) w:=by
     intro d c;simp [Instr.fieldAt,run_underlying C,u,Instr.sureAddr,fieldPlace,uQ z,fC]
    unfold faI at h;split at h
    ·rename_i q o c;injection h with h; subst h;cases k with
     | ptr _ _ _ H v=>exact .quiet g (l _ _) (by rw [xo]; exact .ptr q o (c+e.offset) H v)
    ·rename_i m c;injection h with h; subst h;cases k with
     | zp _ _ d a p y D=>exact .quiet g (l _ _) (by rw [xo]; exact .zp m (c+e.offset) d a p y D)
    ·cases h
   ·cases b
  ·cases b
 ·cases b
def tFd (P:Program) (c:TypeId) (f:Nat):Option (Option Nat×Nat):=match P.underlying c with
 | some (.struct fields)=>match fields[f]? with
  | some a=>(tAg P a.type).map fun b=>(b,a.offset)
  | none=>none
 | _=>none
theorem uv {P:Program} {G:Gh} {w:World} {t:TypeId} {a:Option Nat} (b:tAg P t=some a) {cs:List AV} {vs:Array Value} (c:RepL G cs vs.toList) {off:Nat} {av:AV}
  (h:du a cs off=some av):∃ v,(part t vs off).run P w=.ok v w/\Rep G av v:=by
 cases a with
 | some n=>
  simp only [du] at h;split at h
  ·injection h with h; subst h;obtain ⟨e,f⟩:=tX b w;refine ⟨.agg (vs.extract off (off+n)),by simp [part,e,f],?_⟩
   have:=(c.drop off |>.take n).toAgg
   have d:((vs.toList.drop off).take n).toArray=vs.extract off (off+n):=by
    apply Array.ext';simp [Array.toList_extract,List.extract_eq_take_drop]
   rwa [d] at this
  ·cases h
 | none=>
  simp only [du] at h;obtain ⟨v,k,g⟩:=c.get h;exact ⟨v,by simp [part,tW b w,(by simpa using k:vs[off]?=some v)],g⟩
theorem BN {P:Program} {G:Gh} {s:St} {w:World} {t:TypeId} {f:Nat} {d:Option Nat} {off:Nat} (b:tFd P t f=some (d,off)) {a av:AV} {x:Value} (h:fdI d off a=some av) (o:Rep G a x) (l:Sim G s w) :
  Out P (Instr.field t x f) G s w av s:=by
 unfold tFd at b;split at b
 ·rename_i fields u;split at b
  ·rename_i k m;cases c:tAg P k.type with
   | none=>simp [c] at b
   | some ag'=>
    simp [c] at b;obtain ⟨e,g⟩:=b;subst e; subst g;unfold fdI at h;split at h
    ·obtain ⟨z,rfl,q⟩:=o.ofAgg;obtain ⟨y,v,p⟩:=uv (P:=P) (w:=w) c q h;exact .quiet l (by simp [Instr.field,run_underlying u,m,asAgg,v]) p
    ·cases h
  ·cases b
 ·cases b
def eI (P:Program) (t:TypeId):Option (TypeId×TypeInfo):=match P.underlying t with
 | some (.slice a)=>(P.info? a).map fun i=>(a,i)
 | _=>none
theorem dT {P:Program} {t e:TypeId} {i:TypeInfo} (h:eI P t=some (e,i)):P.underlying t=some (.slice e)/\P.info? e=some i:=by
 unfold eI at h;split at h
 ·rename_i b c;cases a:P.info? b with
  | none=>simp [a] at h
  | some d=>simp [a] at h; obtain ⟨rfl,rfl⟩:=h; exact ⟨c,a⟩
 ·cases h
theorem jN {G:Gh} {a:AV} {x:Value} {n:Int} (h:asI a=some n) (b:Rep G a x):∃ k,x=.int k n:=by
 unfold asI at h;split at h
 ·injection h with h; subst h;cases b with
  | sc _ _=>exact ⟨_,rfl⟩
 ·cases h
theorem BR {P:Program} {G:Gh} {s:St} {w:World} {t e:TypeId} {i:TypeInfo} (W:eI P t=some (e,i)) {a d av:AV} {x D:Value} (h:iaI i.size a d=some av)
  (z:Rep G a x) (T:Rep G d D) (u:Sim G s w):Out P (Instr.indexAt t x D) G s w av s:=by
 obtain ⟨C,O⟩:=dT W;unfold iaI at h;cases m:asI d with
 | none=>simp [m] at h
 | some n=>
  obtain ⟨ax,rfl⟩:=jN m T;simp only [m] at h;split at h
  ·rename_i ai a0 off len;split at h
   ·rename_i v;obtain ⟨ap,q,l⟩:=v;injection h with h; subst h;cases z with
    | row _ _ _ c H N al f=>
     have R:off<c.cap:=by omega
     have g:=f R;subst g;refine .quiet u (v:=.pointer (some ⟨c.b,(off+n.toNat)*c.sz+0,none⟩)) ?_ (.ptr _ _ 0 c N);have y:n<(len:Int):=l;simp [Instr.indexAt,asIntOf,run_underlying C,sizeOf,typeInfo,fC,tn, *]
   ·cases h
  ·rename_i p ag;split at h
   ·rename_i q;split at h
    ·rename_i K b;split at h
     ·rename_i ao;injection h with h; subst h;have l:n.toNat<p.length:=(q4.1 b).1;cases z with
      | sl _ _ H ab o Z aa M v am f Y Q S=>
       have g:=f (by intro e; subst e; simp at l)
       subst g;have ar:=Y _ _ b;have U:aa=i.size:=by omega
       subst U;refine .quiet u (v:=.pointer (some ⟨o,Z+n.toNat*i.size+0,none⟩)) ?_ (.zp K 0 o _ (M n.toNat) (fun j J k=>Q _ _ _ _ b k) (fun j J k=>S _ _ _ _ b k));have y:n<(p.length:Int):=by omega
       simp [Instr.indexAt,asIntOf,run_underlying C,q,y,sizeOf,typeInfo,O,fC]
     ·cases h
    ·cases h
   ·cases h
  ·cases h
theorem BS {P:Program} {G:Gh} {s:St} {w:World} {t:TypeId} (o:P.underlying t=some .string) {a c av:AV} {x d:Value} (h:ixI a c=some av)
  (l:Rep G a x) (m:Rep G c d) (g:Sim G s w):Out P (Instr.index t x d) G s w av s:=by
 unfold ixI at h;split at h
 ·rename_i p n k;obtain ⟨q,rfl⟩:=jN k m;cases l with
  | sc _ _=>
   split at h
   ·rename_i f;cases b:p[n.toNat]? with
    | none=>simp [b] at h
    | some e=>
     simp [b] at h; subst h;exact .quiet g (v:=.int .u8 e.toNat) (by simp [Instr.index,asIntOf,run_underlying o,f,b]) (.sc _ rfl)
   ·cases h
 ·cases h
theorem B4 {P:Program} {G:Gh} {w:World} {a:AV} {x:Value} (c:Rep G a x) (h:(∃ g e o,a=.ptr g e o)\/(∃ cs o,a=.zp cs o)\/(∃ f l m,a=.fn (.func f) l m)) {o:Oper} {y:Operand} {ρ:Operand->Value} (b:o.op=.nilCheck y)
  (d:ρ y=x):(execOp ρ o).run P w=.ok (.value x) w:=by
 rcases h with ⟨g,e,k,rfl⟩ | ⟨cs,k,rfl⟩ | ⟨f,l,m,rfl⟩ <;> cases c <;> simp [execOp,b,d]
theorem BL {P:Program} {G:Gh} {s:St} {w:World} {a av:AV} {x:Value} {i:Nat} (h:exI a i=some av) (c:Rep G a x) (b:Sim G s w):Out P (Instr.extract x i) G s w av s:=by
 unfold exI at h;split at h
 ·obtain ⟨k,rfl,e⟩:=c.ofTup;obtain ⟨g,f,d⟩:=e.get h;exact .quiet b (by simp [Instr.extract,(by simpa using f:k[i]?=some g)]) d
 ·cases h
end Go.AM
