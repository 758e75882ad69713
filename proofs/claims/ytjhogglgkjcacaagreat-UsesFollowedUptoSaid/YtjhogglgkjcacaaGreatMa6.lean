/- Part of the claim: see its last text. -/
import Derived.Test.YtjhogglgkjcacaaGreatMa5
set_option linter.all false
namespace Go.AM
theorem td {G:Gh} {sz:Nat} (P:0<sz):∀ (f:List (Nat×AV)) (b:List (Nat×Value)) (es es':List (List AV)) (cells:Array Value),az sz es f=some es'->f.length=b.length ->
  (∀ (k:Nat) p a,f[k]?=some p->b[k]?=some a->p.1=a.1/\Rep G p.2 a.2)->Flat G sz es cells.toList ->
  ∃ g,Instr.fill (fun i=>some (i*sz,sz)) cells b=some g/\Flat G sz es' g.toList/\es'.length=es.length
 | [],b,es,es',cells,d,h,m,l=>by
  cases b with
  | nil=>simp [az] at d; subst d; exact ⟨cells,rfl,l,rfl⟩
  | cons a b=>simp at h
 | (i,Q)::f,b,es,es',cells,d,h,m,l=>by
  cases b with
  | nil=>simp at h
  | cons a b=>
   simp only [az] at d;split at d
   ·rename_i H;obtain ⟨q,J⟩:=H;obtain ⟨t,O⟩:=m 0 _ _ rfl rfl;obtain ⟨S,D⟩:=co q;have v:=O.cellsOf D;have u:a.2.cells.size=sz:=by have:=v.1; simp at this; omega
    have o:=l.1;simp only [tx] at o;have R:i*sz+sz<=cells.size:=by
     rw [o];have:=r2 sz (show i+1<=es.length by omega)
     rwa [tn,D5] at this
    have w:=ue a.2.cells.toList cells (i*sz) 0 (by simp; omega)
    simp only [wa,tx] at w;have N:Flat G sz (es.set i Q.cells) (a.2.cells.zipIdx.foldl (fun e (c:Value×Nat)=>e.setIfInBounds (i*sz+c.2) c.1) cells).toList:=by
     have x:(a.2.cells.zipIdx.foldl (fun e (c:Value×Nat)=>e.setIfInBounds (i*sz+c.2) c.1) cells)=((a.2.cells.toList.zipIdx 0).foldl (fun e (c:Value×Nat)=>e.setIfInBounds (i*sz+c.2) c.1) cells):=by
      rw [<-Array.foldl_toList]; simp
     rw [x,w,u];exact l.setElem J q v
    obtain ⟨g,y,z,C⟩:=td P f b _ _ _ d (by simpa using h) (fun k p a K M=>m (k+1) p a (by simpa using K) (by simpa using M)) N
    refine ⟨g,?_,z,by rw [C]; simp⟩
    obtain ⟨T,U⟩:=a;simp only at t;subst t;simp only [Instr.fill];rw [if_neg (by simp at u ⊢; omega)]
    exact y
   ·cases d
theorem tg {G:Gh} {sz:Nat} {es:List (List AV)} {C:Array Value} {b:Nat} (g:Flat G sz es C.toList):∀ (i:Nat) (x:List AV) (j:Nat) (c:AV),es[i]?=some x->x[j]?=some c->C[i*sz+j]?=some (C.getD (i*sz+j) default)/\Rep G c (C.getD (i*sz+j) default):=by
 intro i x j c k h;obtain ⟨_,d,e,f⟩:=(g.2 i x k).2 j c h;have a:C[i*sz+j]?=some d:=by simpa using e
 have:C.getD (i*sz+j) default=d:=by simp [r5,a]
 rw [this];exact ⟨a,f⟩
theorem vV {G:Gh} {s:St} {w:World} (k:Sim G s w) {sz:Nat} {es:List (List AV)} {C:Array Value} (e:TypeId) (g:Flat G sz es C.toList) (f:es.length<=68719476736) :
  Rep (G.addMem w.heap.size C) (.sl es true) (.slice (some ⟨w.heap.size,0,none⟩) es.length es.length):=by
 have m:=heap_alloc_new w (.cells C e);have l:G.Le (G.addMem w.heap.size C):=(k.grow (w':=w.alloc (.cells C e)) fun b f=>heap_alloc_old w _ b f).leMem m;refine .sl es true _ es.length w.heap.size 0 sz (fun i j=>C.getD (i*sz+j) default) (q5 _) (fun _=>rfl) (fun _=>rfl) (fun i c a=>(g.2 i c a).1) ?_ ?_ f
 ·intro i c j d a h;show (if w.heap.size=w.heap.size then C[0+i*sz+j]? else G.mem w.heap.size _)=_
  rw [if_pos rfl,s7];exact (tg (b:=0) g i c j d a h).1
 ·intro i c j d a h;exact ((tg (b:=0) g i c j d a h).2).mono l
theorem BD {P:Program} {G:Gh} {s s':St} {w:World} {t e:TypeId} {i:TypeInfo} {zs:List AV} {n:Nat} (ao:eI P t=some (e,i)) (ap:gh P e=some (zs,i)) (a2:n*i.size<=2 ^ 24)
  {y:List (Nat×AV)} {d:Array (Nat×Value)} {md:Md} {av:AV} (h:bsI i.size zs n y md s=some (av,s')) (W:y.length=d.size) (ab:∀ (k:Nat) p q,y[k]?=some p->d[k]?=some q->p.1=q.1/\Rep G p.2 q.2)
  (v:Sim G s w):Out P (Instr.buildSlice t n d) G s w av s':=by
 obtain ⟨N,o⟩:=dT ao;obtain ⟨_,a,ar,rfl⟩:=eQ ap;unfold bsI at h;split at h
 case isFalse=>cases h
 case isTrue S=>
 obtain ⟨K,J,a3⟩:=S;obtain ⟨al,a4⟩:=iX (G:=G) J;split at h
 case h_2=>cases h
 case h_1 es T=>
 let b:Array Value:=(Array.range (n*i.size)).map (a.cells[· % a.cells.size]!);have Q:Flat G i.size (List.replicate n (ofValue a).cells) b.toList:=by
  have:=Flat.replicate J al n;have g:b.toList=(List.replicate n a.cells.toList).flatten:=by
   apply List.ext_getElem?;intro k;by_cases x:k<n*i.size
   ·obtain ⟨u,O⟩:∃ u,(List.replicate n a.cells.toList).flatten[k]?=some u:=by
     have Y:(List.replicate n a.cells.toList).flatten.length=n*i.size:=by have:=this.1; simpa using this
     exact ⟨_,q3 (by rw [Y]; exact x)⟩
    obtain ⟨_,c⟩:=iv (by simp; omega) _ _ _ O
    simp only [tx] at c;have a1:k % a.cells.size<a.cells.size:=EA _ (by omega)
    rw [O];simp only [b,w6];have l:a.cells[k % a.cells.size]?=some u:=by simpa using c
    have m:a.cells[k % a.cells.size]! = u:=by rw [getElem!_def,l]
    simp [x,m]
   ·rw [w9 (by simp [b]; omega),w9 (by
     have:=this.1;rw [this]; simp; omega)]
  rw [g]; exact this
 obtain ⟨f,C,c,l⟩:=td K y d.toList _ es b T (by simpa using W) (fun k p q x ag=>ab k p q x (by simpa using ag)) Q
 simp only [List.length_replicate] at l;have M:(Instr.buildSlice t n d).run P w=.ok (.slice (some ⟨w.heap.size,0,none⟩) n n) (w.alloc (.cells f e)):=by
  have Z:¬(16777216<n*i.size):=by omega
  by_cases H:n*i.size=0
  ·have aa:n=0:=by
    rcases Nat.mul_eq_zero.1 H with h | h
    ·exact h
    ·omega
   subst aa;have R:b=#[]:=by simp [b,Array.range]
   rw [R] at C;have ai:Array.range 0=#[]:=by simp [Array.range]
   simp [Instr.buildSlice,run_underlying N,run_sizeOf w o,Program.cellsOf,o,Go.newRow];rw [ai];simp only [List.map_toArray,EE];rw [C]; simp
  ·simp [Instr.buildSlice,run_underlying N,run_sizeOf w o,Program.cellsOf,o,Z,H,zeroValue,run_typeInfo w o,ar,Go.newRow];rw [show Instr.fill (fun ax=>some (ax*i.size,i.size)) (Array.map (fun a0=>a.cells[a0 % a.cells.size]!) (Array.range (n*i.size))) d.toList=some f from C]
   simp
 split at h
 ·injection h with h; injection h with g z; subst g; subst z;have am:n*i.size<=f.size:=by have:=c.1; simp at this; rw [this,l]; exact q5 _
  obtain ⟨m,D⟩:=gZ (cap:=n) (es:=es) (C:=f) (e:=e) v K am (by omega) c (fun j u U=>by simpa using U)
  exact ⟨_,_,_,M,D,m,fZ v (q5 _) (by omega)⟩
 ·injection h with h; injection h with g z; subst g; subst z;obtain ⟨m,D⟩:=v.allocMem f e;have:=vV v e c (by omega)
  rw [l] at this;exact ⟨_,_,_,M,D,m,this⟩
theorem BG {P:Program} {G:Gh} {s s':St} {w:World} {t e bx:TypeId} {O:Array TypeId} {i:TypeInfo} (C:O[0]?=some t) (bi:eI P t=some (e,i)) {Q x av:AV} {R ap:Value} (h:cpI i.size Q x s=some (av,s'))
  (a6:Rep G Q R) (bk:Rep G x ap) (q:Sim G s w):Out P (Builtin.copy_ O bx #[R,ap]) G s w av s':=by
 obtain ⟨K,g⟩:=dT bi;unfold cpI at h;split at h
 case h_2=>cases h
 case h_1 xs l b' off len bc=>
 split at h
 case h_2=>cases h
 case h_1 sz'' b J=>
 split at h
 case isFalse=>cases h
 case isTrue a5=>
 obtain ⟨b5,ax,S,a3,bf,b2⟩:=a5;injection h with h; injection h with bo bt; subst bo; subst bt;obtain ⟨am,ao,N,rfl,b6,ab,bl⟩:=fo q bc bk a3 (by
  rintro l ca o d rfl;simpa [fp] using bf)
 cases a6 with
 | row _ _ _ d a ag b3 a2=>
  obtain ⟨b9,u,U,b0,D,b1⟩:=q.blk l _ J;rw [ag] at u; injection u with a0; subst a0;have y:(xs.take len).length=min xs.length len:=by simp [Nat.min_comm]
  have k:(Builtin.firstCells i.size (min xs.length len) (.slice am xs.length ao)).run P w=.ok (N.take (min xs.length len*i.size)).toArray w:=by
   have a8:=ab.take (min xs.length len);have u:(xs.take (min xs.length len)).length=min xs.length len:=by simp
   have:=gR (P:=P) (w:=w) (len:=xs.length) (cap:=ao) (a:=am) a8 (fun a9=>by
    obtain ⟨ar,o,m,p⟩:=bl (by intro e; subst e; simp at a9)
    refine ⟨ar,o,m,fun j v c=>p j v ?_⟩;rw [s0] at c;split at c
    ·exact c
    ·cases c)
   rwa [u] at this
  by_cases z:min xs.length len=0
  ·
   have bm:xs.take len=[]:=s6.1 (by rw [y]; exact z)
   rw [bm];rw [z] at k;simp only [y2,List.take_zero] at k;have bb:b.take off++([]:List (List AV))++b.drop (off+([]:List (List AV)).length)=b:=by simp
   have bj:({ h:=upd s.h l (some (.row i.size (b.take off++([]:List (List AV))++b.drop (off+([]:List (List AV)).length)) .live none)),c:=s.c }:St)=s:=by
    rw [bb];have:upd s.h l (some (.row i.size b .live none))=s.h:=by
     funext b8;unfold upd;split
     ·rename_i e; subst e; rw [J,S]
     ·rfl
    rw [this]
   rw [bj];refine .quiet q (v:=goInt 0) ?_ (.sc _ rfl);cases a with
   | none=>simp [Builtin.copy_,C,run_underlying K,Builtin.lenOf,z,run_sizeOf w g,Program.cellsOf,g,k]
   | some a=>simp [Builtin.copy_,C,run_underlying K,Builtin.lenOf,z,run_sizeOf w g,Program.cellsOf,g,k,storeCells]
  ·have b4:0<len:=by omega
   have a':off<d.cap:=by omega
   have a4:=a2 a';subst a4;have W:0<d.cap:=by omega
   obtain ⟨f,bN,T,Y,aa⟩:=D.flat W;have H:Flat G d.sz (xs.take len) (N.take (min xs.length len*i.size)):=by
    have:=ab.take (min xs.length len);have a1:xs.take (min xs.length len)=xs.take len:=by
     rw [Nat.min_comm,<-List.take_take,q8 (q5 xs.length)]
    rw [a1] at this;rw [ax] at this ⊢;exact this
   generalize b7:N.take (min xs.length len*i.size)=ys at *;have M:=H.1;rw [y] at M;have a7:b.length*d.sz<=f.size:=ts (r2 _ D.1) Y;have ai:(off+min xs.length len)*d.sz<=b.length*d.sz:=r2 _ (by omega)
   rw [tn] at ai;have al:=run_storeCells_at (P:=P) d.b (off*d.sz) bN ys 0 f w T (by omega) (H.mem_cell (by omega))
   simp only [wa] at al;have Z:=((aa.take off).append H).append (aa.drop (off+(xs.take len).length));obtain ⟨m,p⟩:=kr q J ag W T (es':=b.take off++xs.take len++b.drop (off+(xs.take len).length)) (C':=(f.toList.take (off*d.sz)++ys++f.toList.drop (off*d.sz+ys.length)).toArray) (by simp; omega) Y
    (by have:=D.1; simp; omega) (by rw [U] at Z; exact Z) (fun j v c=>by
     have bW:(f.toList.take (b.length*sz'')).take (off*sz'')=f.toList.take (off*sz''):=by
      rw [y4,xf (r2 _ (by omega))]
     rw [U] at M a7 ai ⊢;refine getElem?_mid (vs:=f.toList.take (b.length*sz'')) (o:=off*sz'') (n:=ys.length) ?_ rfl (by simp; omega) (by simp; omega) ?_
     ·intro j v c;rw [s0] at c;split at c
      ·simpa using c
      ·cases c
     ·rw [y] at c;rw [M,<-Nat.add_mul]; exact c)
   rw [<-S] at m p;refine ⟨goInt (min xs.length len:Nat),_,G,?_,p,m,?_⟩
   ·simp [Builtin.copy_,C,run_underlying K,Builtin.lenOf,run_sizeOf w g,Program.cellsOf,g,k,al]
   ·rw [y]; exact .sc _ rfl
def zt (P:Program) (t:TypeId):Option Nat:=match P.underlying t with
 | some .string=>some 0
 | some (.slice _)=>some 1
 | some (.map _ _)=>some 2
 | _=>none
theorem AU {P:Program} {G:Gh} {s:St} {w:World} {t J:TypeId} {g:Array TypeId} {k:Nat} (e:g[0]?=some t) (b:zt P t=some k)
  {a av:AV} {x:Value} (h:eL k a s=some av) (f:Rep G a x) (d:Sim G s w):Out P (Builtin.len_ g J #[x]) G s w av s:=by
 unfold zt at b;split at b
 ·rename_i c;injection b with b; subst b;unfold eL at h;split at h <;> first | (rename_i o; cases o; done) | skip
  ·injection h with h; subst h;obtain ⟨rfl,_⟩:=bH f;exact .quiet d (v:=goInt _) (by simp [Builtin.len_,e,run_underlying c]) (.sc _ rfl)
  all_goals simp_all
 ·rename_i u c;injection b with b; subst b;unfold eL at h;split at h
  case h_2=>
   rename_i l K _;injection h with h; subst h;cases f
   exact .quiet d (v:=goInt l.length) (by simp [Builtin.len_,e,run_underlying c]) (.sc _ rfl)
  case h_3=>
   rename_i m S R q _;injection h with h; subst h;cases f
   exact .quiet d (v:=goInt q) (by simp [Builtin.len_,e,run_underlying c]) (.sc _ rfl)
  all_goals simp_all
 ·rename_i O u c;injection b with b; subst b;unfold eL at h;split at h
  case h_4=>
   rename_i m _;split at h
   ·rename_i H ver C;injection h with h; subst h;cases f with
    | map _ q D=>
     obtain ⟨Q,p,⟨o,l,M,y,z,N⟩,_⟩:=d.blk m _ C;rw [D] at p; injection p with v; subst v;refine .quiet d (v:=goInt H.length) ?_ (.sc _ rfl);simp [Builtin.len_,e,run_underlying c,getObj,Sem.run,y,z]
   ·cases h
  case h_5=>
   injection h with h; subst h;obtain ⟨rfl,_⟩:=bH f;exact .quiet d (v:=goInt 0) (by simp [Builtin.len_,e,run_underlying c]) (.sc _ rfl)
  all_goals simp_all
 ·cases b
theorem uJ {P:Program} {G:Gh} {w:World} {f:Int->Int->Int} {g:Value->Value->Sem Value} (m:∀ k x y,(g (.int k x) (.int k y)).run P w=.ok (.int k (f x y)) w/\∀ h,(g (.int k x) (.int h y)).run P w=.ok (.int k (f x y)) w) :
  ∀ (l:List AV) (vs:List Value) (k:IntKind) (a:Int) (av:AV),RepL G l vs->l.foldlM (fun x v=>match x,v with
   | .sc (.int k a),.sc (.int _ b)=>some (.sc (.int k (f a b)))
   | _,_=>none) (AV.sc (.int k a))=some av->∃ n,av=.sc (.int k n)/\(vs.foldlM g (.int k a)).run P w=.ok (.int k n) w
 | [],vs,k,a,av,d,c=>by
  have:vs=[]:=s6.1 d.1.symm;subst this;simp at c; subst c;exact ⟨a,rfl,by simp⟩
 | b::l,[],k,a,av,d,c=>by have:=d.1; simp at this
 | b::l,v::vs,k,a,av,d,c=>by
  simp only [List.foldlM_cons] at c;have u:=d.2 0 b v rfl rfl;split at c
  ·rename_i K J h n e;injection e with e; injection e with e p; subst e; subst p;obtain ⟨rfl,_⟩:=bH u;obtain ⟨D,q,t⟩:=uJ m l vs k _ av ⟨by simpa using d.1,fun j o H z C=>d.2 (j+1) o H (by simpa using z) (by simpa using C)⟩ (by simpa using c)
   refine ⟨D,q,?_⟩;simp [List.foldlM_cons,(m k a n).2 h,t]
  ·simp at c
theorem th {P:Program} {G:Gh} {w:World} {f:Int->Int->Int} {g:Value->Value->Sem Value} (m:∀ k x y,(g (.int k x) (.int k y)).run P w=.ok (.int k (f x y)) w/\∀ p,(g (.int k x) (.int p y)).run P w=.ok (.int k (f x y)) w)
  {l:List AV} {vs:List Value} {av:AV} (a:RepL G l vs) (h:jd f l=some av):∃ x rest r,vs=x::rest/\(rest.foldlM g x).run P w=.ok r w/\Rep G av r:=by
 unfold jd at h;split at h
 ·rename_i k b l;cases vs with
  | nil=>have:=a.1; simp at this
  | cons t vs=>
   obtain ⟨rfl,_⟩:=bH (a.2 0 _ t rfl rfl);obtain ⟨n,rfl,d⟩:=uJ m l vs k b av ⟨by simpa using a.1,fun j c q e o=>a.2 (j+1) c q (by simpa using e) (by simpa using o)⟩ h
   exact ⟨_,_,_,rfl,d,.sc _ rfl⟩
 ·cases h
theorem B3 {P:Program} {G:Gh} {w:World} {l:List AV} {vs:Array Value} {av:AV} {c:Array TypeId} {k:TypeId} (g:RepL G l vs.toList) (h:jd (fun a b=>if a<b then b else a) l=some av) :
  ∃ r,(Builtin.max_ c k vs).run P w=.ok r w/\Rep G av r:=by
 obtain ⟨m,q,r,d,e,f⟩:=th (P:=P) (w:=w) (g:=Builtin.max2) (by intro o m t; constructor <;> (try intro p) <;> simp [Builtin.max2]) g h
 exact ⟨r,by simp [Builtin.max_,d,e],f⟩
theorem BZ {P:Program} {G:Gh} {w:World} {l:List AV} {vs:Array Value} {av:AV} {c:Array TypeId} {k:TypeId} (g:RepL G l vs.toList) (h:jd (fun a b=>if b<a then b else a) l=some av) :
  ∃ r,(Builtin.min_ c k vs).run P w=.ok r w/\Rep G av r:=by
 obtain ⟨m,q,r,d,e,f⟩:=th (P:=P) (w:=w) (g:=Builtin.min2) (by intro o m t; constructor <;> (try intro p) <;> simp [Builtin.min2]) g h
 exact ⟨r,by simp [Builtin.min_,d,e],f⟩
end Go.AM
