/- Part of the claim: see its last text. -/
import Derived.Test.YtjhogglgkjcacaaGreatMa4
set_option linter.all false
namespace Go.AM
theorem ue (vs:List Value):∀ (cells:Array Value) (off k:Nat),off+k+vs.length<=cells.size ->
  ((vs.zipIdx k).foldl (fun cs (c:Value×Nat)=>cs.setIfInBounds (off+c.2) c.1) cells).toList=cells.toList.take (off+k)++vs++cells.toList.drop (off+k+vs.length):=by
 induction vs with
 | nil=>intro cells off k a; simp
 | cons d vs b=>
  intro cells off k a;simp only [List.zipIdx_cons,vr];simp only [s5] at a;rw [b _ off (k+1) (by simp; omega)]
  have e:off+k<cells.size:=by omega
  have:=list_seg_step cells.toList (off+k) d vs (by simp; omega)
  simpa [Array.toList_setIfInBounds,xo] using this
theorem uI {G:Gh} (o:Nat->Option (Nat×Nat)):∀ (f:List (Nat×Nat×AV)) (b:List (Nat×Value)) (cs cs':List AV) (cells:Array Value),
  aH cs f=some cs'->f.length=b.length->(∀ (k:Nat) p a,f[k]?=some p->b[k]?=some a->o a.1=some (p.1,p.2.1)/\Rep G p.2.2 a.2)->RepL G cs cells.toList ->
  ∃ g,Instr.fill o cells b=some g/\RepL G cs' g.toList
 | [],b,cs,cs',cells,d,h,m,l=>by
  cases b with
  | nil=>simp [aH] at d; subst d; exact ⟨cells,rfl,l⟩
  | cons a b=>simp at h
 | (e,n,M)::f,b,cs,cs',cells,d,h,m,l=>by
  cases b with
  | nil=>simp at h
  | cons a b=>
   simp only [aH] at d;split at d
   ·rename_i y;obtain ⟨P,x,O⟩:=y;obtain ⟨C,J⟩:=m 0 _ _ rfl rfl;have q:=J.cellsOf x;have K:a.2.cells.size=n:=by have:=q.1; simp at this; omega
    have N:cs.length=cells.size:=by have:=l.1; simpa using this
    have t:=ue a.2.cells.toList cells e 0 (by simp; omega)
    simp only [wa] at t;have H:RepL G (dO cs e M.cells) (a.2.cells.zipIdx.foldl (fun cs (c:Value×Nat)=>cs.setIfInBounds (e+c.2) c.1) cells).toList:=by
     have u:(a.2.cells.zipIdx.foldl (fun cs (c:Value×Nat)=>cs.setIfInBounds (e+c.2) c.1) cells)=((a.2.cells.toList.zipIdx 0).foldl (fun cs (c:Value×Nat)=>cs.setIfInBounds (e+c.2) c.1) cells):=by
      rw [<-Array.foldl_toList]; simp
     rw [u,t];exact oJ l q
    obtain ⟨g,v,w⟩:=uI o f b _ _ _ d (by simpa using h) (fun k p a z D=>m (k+1) p a (by simpa using z) (by simpa using D)) H
    refine ⟨g,?_,w⟩;obtain ⟨Q,R⟩:=a;simp only [Instr.fill,C];rw [if_neg (by simp at K ⊢; omega)]
    exact v
   ·cases d
def qL (P:Program) (t:TypeId):Option (List (Nat×Nat)):=match P.underlying t with
 | some (.struct fields)=>fields.toList.mapM fun a=>(P.info? a.type).map fun i=>(a.offset,i.size)
 | _=>none
theorem Bt {P:Program} {G:Gh} {s:St} {w:World} {t:TypeId} {zs:List AV} {i:TypeInfo} {pl:List (Nat×Nat)} (M:gh P t=some (zs,i)) (O:zs.all AV.cell=true) (c:qL P t=some pl) {d:List (Nat×Nat×AV)} {e:Array (Nat×Value)} {cs:List AV}
  (h:aH zs d=some cs) (x:d.length=e.size) (C:∀ (k:Nat) p b,d[k]?=some p->e[k]?=some b->pl[b.1]?=some (p.1,p.2.1)/\Rep G p.2.2 b.2) (q:Sim G s w):Out P (Instr.build t e) G s w (.agg cs) s:=by
 obtain ⟨u,f,N,rfl⟩:=eQ M;have H:=(gD G f).cellsOf O;unfold qL at c;split at c
 ·rename_i fields K;have J:=run_places (P:=P) w fields.toList pl c;obtain ⟨g,m,o⟩:=uI (fun k=>pl[k]?) d e.toList _ cs f.cells h (by simpa using x) (fun k p b v D=>C k p b v (by simpa using D)) H
  refine .quiet q (v:=.agg g) ?_ ?_
  ·have y:(fields.mapM fun (a:Field)=>Prod.mk a.offset <$> sizeOf a.type).run P w=.ok pl.toArray w:=by
    rw [EK];simp [J]
   simp only [Instr.build,zeroValue,Sem.run_bind,run_typeInfo w u,Result.andThen_ok,N,Sem.run_pure,run_underlying K];have z:(fields.mapM fun (a:Field)=>do pure (a.offset,<-sizeOf a.type)).run P w=.ok pl.toArray w:=by
    have l:(fun a:Field=>(do pure (a.offset,<-sizeOf a.type):Sem (Nat×Nat)))=fun (a:Field)=>Prod.mk a.offset <$> sizeOf a.type:=by
     funext a; simp
    rw [l]; exact y
   rw [z];simp [m]
  ·have:=o.toAgg;simpa using this
 ·cases c
theorem fo {G:Gh} {s:St} {w:World} (C:Sim G s w) {x:AV} {v:Value} {xs:List (List AV)} {sz:Nat} (h:s.show_ x=some xs) (P:Rep G x v) (ap:xs.all (aF sz)=true) (ax:∀ g z o l,x=.row g z o l->z=sz) :
  ∃ (a:Option Addr) (cap:Nat) (vs:List Value),v=.slice a xs.length cap/\xs.length<=cap/\Flat G sz xs vs/\(xs≠[]->∃ b o,a=some ⟨b,o,none⟩/\sL w b o vs):=by
 unfold St.show_ at h;split at h
 ·rename_i g z off len;split at h
  ·rename_i Q d a8 a7 ai;split at h
   ·rename_i a4;injection h with h; subst h;have u:=ax _ _ _ _ rfl;subst u;cases P with
    | row _ _ _ l a am D m=>
     obtain ⟨a6,K,a1,a2,aa,a3⟩:=C.blk g _ ai;rw [am] at K; injection K with S; subst S;have M:((d.drop off).take len).length=len:=by simp; omega
     by_cases T:len=0
     ·subst T;refine ⟨a,l.cap-off,[],by simp,by simp,by simpa using Flat.nil G _,fun k=>absurd (by simp) k⟩
     ·have ab:0<l.cap:=by omega
      obtain ⟨R,a9,Z,a5,H⟩:=aa.flat ab;refine ⟨a,l.cap-off,((R.toList.take (d.length*l.sz)).drop (off*l.sz)).take (len*l.sz),by rw [M],by rw [M]; omega,(H.drop off).take len,fun _=>⟨l.b,off*l.sz,m (by omega),?_⟩⟩
      intro j v c;rw [lu Z];rw [s0] at c;split at c
      ·rw [s8,s0] at c;split at c
       ·simpa using c
       ·cases c
      ·cases c
   ·cases h
  ·cases h
 ·rename_i d a0;injection h with h; subst h;cases P with
  | sl _ _ a cap b o Q y D H m u ao ar=>
   have p:∀ (i:Nat) (x:List AV),d[i]?=some x->aF sz x=true:=fun i x e=>rx.1 ap x (r8 e);have al:d≠[]->Q=sz:=by
    intro k;obtain ⟨x,e⟩:∃ x,d[0]?=some x:=⟨d[0]'(r6.2 k),q3 _⟩;rw [<-u 0 x e]; exact (co (p 0 x e)).1
   have ag:∀ (i:Nat) (x:List AV),d[i]?=some x->∀ (j:Nat) (a:AV),x[j]?=some a->i*sz+j<d.length*sz/\(i*sz+j) / sz=i/\(i*sz+j) % sz=j:=by
    intro i x e j a m;have J:i<d.length:=(q4.1 e).1;have c:j<sz:=by rw [<-(co (p i x e)).1]; exact (q4.1 m).1
    have:=r2 sz (show i+1<=d.length by omega)
    rw [tn] at this;refine ⟨by omega,?_,?_⟩
    ·rw [ED,Nat.mul_add_div (by omega),Nat.div_eq_of_lt c,wa]
    ·rw [ED,Nat.mul_add_mod,Nat.mod_eq_of_lt c]
   refine ⟨a,cap,(List.range (d.length*sz)).map (fun f=>y (f / sz) (f % sz)),rfl,D,⟨by simp,fun i x e=>⟨(co (p i x e)).1,fun j q c=>?_⟩⟩,fun k=>⟨b,o,m k,?_⟩⟩
   ·obtain ⟨U,W,Y⟩:=ag i x e j q c;refine ⟨rx.1 (co (p i x e)).2 q (r8 c),y i j,?_,ar i x j q e c⟩;simp [rb,u9 U,W,Y]
   ·intro f v t;have N:f<d.length*sz:=by have:=(q4.1 t).1; simpa using this
    simp [rb,u9 N] at t;subst t;have O:0<sz:=by
     rcases Nat.eq_zero_or_pos sz with h | h
     ·subst h; omega
     ·exact h
    have J:f / sz<d.length:=by rw [Nat.div_lt_iff_lt_mul O]; exact N
    have e:=q3 J;have c:f % sz<(d[f / sz]).length:=by rw [(co (p _ _ e)).1]; exact EA _ O
    have:=C.mem _ _ _ (ao _ _ _ _ e (q3 c));rw [al k] at this;rw [show o+f / sz*sz+f % sz=o+f by rw [xo,ED,Nat.div_add_mod]] at this
    exact this
 ·cases h
theorem gR {P:Program} {G:Gh} {w:World} {xs:List (List AV)} {sz:Nat} {a:Option Addr} {len cap:Nat} {vs:List Value} (c:Flat G sz xs vs) (e:xs≠[]->∃ b o,a=some ⟨b,o,none⟩/\sL w b o vs) :
  (Builtin.firstCells sz xs.length (.slice a len cap)).run P w=.ok vs.toArray w:=by
 by_cases d:xs=[]
 ·subst d;have:vs=[]:=by have:=c.1; simpa using this
  subst this;cases a with
  | none=>simp [Builtin.firstCells]
  | some a=>simp [Builtin.firstCells,loadCells,loadCellsFrom]
 ·obtain ⟨b,o,rfl,g⟩:=e d;exact run_firstCells_some w sz xs.length _ len cap vs c.1 (fun j h f=>by rw [fC]; exact g j h f)
theorem mR {zc:Array Value} {n k:Nat} (a:0<zc.size) (b:k<n*zc.size):(Builtin.zeroCells zc n)[k]?=zc[k % zc.size]?:=by
 unfold Builtin.zeroCells;have c:k % zc.size<zc.size:=EA _ a;simp [b,c]
theorem iv {vs:List Value} (c:0<vs.length):∀ (n k:Nat) (v:Value),(List.replicate n vs).flatten[k]?=some v->k<n*vs.length/\vs[k % vs.length]?=some v
 | 0,k,v,a=>by simp at a
 | n+1,k,v,a=>by
  rw [C1,List.flatten_cons,wx] at a;split at a
  ·rename_i b;rw [Nat.mod_eq_of_lt b];exact ⟨by rw [tn]; omega,a⟩
  ·rename_i b;obtain ⟨e,d⟩:=iv c n (k-vs.length) v a;refine ⟨by rw [tn]; omega,?_⟩
   rw [<-d];congr 1;have:k=(k-vs.length)+vs.length:=by omega
   conv=>lhs; rw [this,Nat.add_mod_right]
theorem B1 {P:Program} {G:Gh} {s s':St} {w:World} {t e:TypeId} {i:TypeInfo} {zs:List AV} (ai:eI P t=some (e,i)) (al:gh P e=some (zs,i)) {l c av:AV} {x y:Value} (h:msI i.size zs i.bytes l c s=some (av,s'))
  (Z:Rep G l x) (S:Rep G c y) (f:Sim G s w):Out P (Instr.makeSlice t x y) G s w av s':=by
 obtain ⟨z,p⟩:=dT ai;obtain ⟨_,d,am,rfl⟩:=eQ al;unfold msI at h;split at h
 ·rename_i b a M N;obtain ⟨ax,rfl⟩:=jN M Z;obtain ⟨a0,rfl⟩:=jN N S;split at h
  ·rename_i T;obtain ⟨ab,v,ap,ar,aa,R⟩:=T;have ao:a*i.bytes<=281474976710656:=A2 (v2 aa (Int.ofNat_le.2 R) (by omega) (by omega)) (by decide)
   injection h with h; injection h with J K; subst J; subst K;obtain ⟨ag,H⟩:=iX (G:=G) v;have C:IntKind.i64.wrap b=b:=by simp [IntKind.wrap,IntKind.bits,IntKind.signed]; omega
   have D:IntKind.i64.wrap a=a:=by simp [IntKind.wrap,IntKind.bits,IntKind.signed]; omega
   obtain ⟨O,Q⟩:=gZ f (cap:=a.toNat) (es:=List.replicate b.toNat (ofValue d).cells) (C:=Builtin.zeroCells d.cells a.toNat) (e:=e) (vs:=(List.replicate b.toNat d.cells.toList).flatten) ab
    (by simp [Builtin.zeroCells,H]) (by simp; omega) (Flat.replicate v ag _) (fun j a1 W=>by
     obtain ⟨Y,q⟩:=iv (by simp; omega) _ _ _ W
     simp only [tx] at Y q;rw [mR (by omega) (by
      have:=r2 d.cells.size (show b.toNat<=a.toNat by omega)
      omega)]
     simpa using q)
   refine ⟨.slice (some ⟨w.heap.size,0,none⟩) b.toNat a.toNat,_,_,?_,Q,O,fZ f (by omega) (by omega)⟩
   have g:¬(281474976710656:Int)<↑i.bytes*a:=by rw [Int.mul_comm]; omega
   have o:¬a<0:=by omega
   have u:¬b<0:=by omega
   have m:¬a<b:=by omega
   by_cases k:a.toNat*i.size=0
   ·have U:a.toNat=0:=by
     rcases Nat.mul_eq_zero.1 k with h | h
     ·exact h
     ·omega
    simp [Instr.makeSlice,run_underlying z,asInt,asIntOf,run_typeInfo w p,C,D,g,o,u,m,sizeOf,U,Go.newRow,Builtin.zeroCells];rw [show Array.range 0=#[] by simp [Array.range]]; simp
   ·simp [Instr.makeSlice,run_underlying z,asInt,asIntOf,run_typeInfo w p,C,D,g,o,u,m,sizeOf,k,zeroValue,am,Go.newRow,Builtin.zeroCells,H]
  ·cases h
 ·cases h
theorem pw {P:Program} {w:World} {t e:TypeId} {i:TypeInfo} {z:Value} (y:P.underlying t=some (.slice e)) (c:P.info? e=some i) (D:i.zero=some z)
  {vs f:List Value} {a:Option Addr} {len cap:Nat} {b:Option Addr} {n g:Nat}
  (v:∀ w',w'.heap=w.heap->(Builtin.firstCells i.size len (.slice a len cap)).run P w'=.ok vs.toArray w') (x:∀ w',w'.heap=w.heap->(Builtin.firstCells i.size n (.slice b n g)).run P w'=.ok f.toArray w')
  (u:cap<len+n) (p:(len+n)*i.bytes<=140737488355328) (J:((len+n:Nat):Int)<=9223372036854775807) (G:TypeId) :
  ∃ (C:Array Value) (d:Nat),(Builtin.append_ #[t,t] G #[.slice a len cap,.slice b n g]).run P w=.ok (.slice (some ⟨w.heap.size,0,none⟩) (len+n) d) (w.drew.alloc (.cells C e)) /\
   len+n<=d/\C=vs.toArray++(f.toArray++Builtin.zeroCells z.cells (d-(len+n))):=by
 have q:(Question.appendCap (len+n) cap e).forced=false:=rfl;have H:Builtin.nextslicecap (len+n) cap*i.bytes<=281474976710656:=growslice_fits u p;refine ⟨vs.toArray++(f.toArray++Builtin.zeroCells z.cells (grownCap w (len+n) cap e-(len+n))),grownCap w (len+n) cap e,?_,?_,rfl⟩
 ·have l:¬(len+n<=cap):=by omega
  have m:¬(9223372036854775807<((len:Int)+(n:Int))):=by omega
  have o:¬(281474976710656<Builtin.nextslicecap (len+n) cap*i.bytes):=by omega
  have h:=v w.drew rfl;have k:=x w.drew rfl;simp [Builtin.append_,run_underlying y,run_sizeOf w c,run_typeInfo w c,Builtin.lenOf,l,m,o,q,grownCap,Go.newRow,zeroValue,run_typeInfo w.drew c,D,Program.cellsOf,c,h,k]
 ·simp only [grownCap,Question.cut]; omega
theorem px {P:Program} {w:World} {t e:TypeId} {i:TypeInfo} (q:P.underlying t=some (.slice e)) (g:P.info? e=some i)
  {a:List Value} {c o:Nat} {C:Array Value} {f:TypeId} {len cap:Nat} {b:Option Addr} {n d:Nat} (k:w.heap[c]?=some (.cells C f (0,0)))
  (p:(Builtin.firstCells i.size n (.slice b n d)).run P w=.ok a.toArray w) (m:∀ v∈a,v.oneCell'=true) (l:len+n<=cap) (x:o+len*i.size+a.length<=C.size) (u:TypeId) :
  (Builtin.append_ #[t,t] u #[.slice (some ⟨c,o,none⟩) len cap,.slice b n d]).run P w=.ok (.slice (some ⟨c,o,none⟩) (len+n) cap)
   (w.setRow c (C.toList.take (o+len*i.size)++a++C.toList.drop (o+len*i.size+a.length)).toArray):=by
 have h:=run_storeCells_at (P:=P) c (o+len*i.size) f a 0 C w k (by omega) m
 simp only [wa] at h;simp [Builtin.append_,run_underlying q,run_sizeOf w g,Builtin.lenOf,l,Program.cellsOf,g,p,fC,h]
theorem gE {P:Program} {w:World} {t e:TypeId} {i:TypeInfo} (h:P.underlying t=some (.slice e)) (c:P.info? e=some i) {a:Option Addr} {len cap:Nat} {b:Option Addr} {d:Nat}
  (g:(Builtin.firstCells i.size 0 (.slice b 0 d)).run P w=.ok #[] w) (f:len<=cap) (k:TypeId) :
  (Builtin.append_ #[t,t] k #[.slice a len cap,.slice b 0 d]).run P w=.ok (.slice a len cap) w:=by
 cases a with
 | none=>simp [Builtin.append_,run_underlying h,run_sizeOf w c,Builtin.lenOf,f,Program.cellsOf,c,g]
 | some a=>simp [Builtin.append_,run_underlying h,run_sizeOf w c,Builtin.lenOf,f,Program.cellsOf,c,g,storeCells]
theorem yP {vs a:List Value} {zc:Array Value} {j:Nat} {v:Value} (h:(vs++a)[j]?=some v):(vs.toArray++(a.toArray++zc))[j]?=some v:=by
 have b:=(q4.1 h).1;rw [<-Array.append_assoc,xq (by simpa using b)]
 simpa using h
theorem Stp.drew {G:Gh} {s:St} {w w':World} {a:Gh} {s':St} (h:Stp G s w.drew a s' w'):Stp G s w a s' w':=
 ⟨h.le,h.c,h.os,h.tape,h.output,h.size,h.keep,h.own⟩
theorem pr {G:Gh} {s:St} {w:World} (k:Sim G s w) {sz a:Nat} {es xs:List (List AV)} {vs h:List Value} {C:Array Value} {e:TypeId} {z:Value} (q:0<sz) (t:z.cells.size=sz)
  (o:es.length+xs.length<=a) (f:Flat G sz es vs) (g:Flat G sz xs h) (d:C=vs.toArray++(h.toArray++Builtin.zeroCells z.cells (a-(es.length+xs.length)))) :
  Sim (G.addLoc s.c ⟨w.heap.size,a,sz⟩) (newRow sz (es++xs) s) (w.drew.alloc (.cells C e))/\Stp G s w (G.addLoc s.c ⟨w.heap.size,a,sz⟩) (newRow sz (es++xs) s) (w.drew.alloc (.cells C e)):=by
 have l:=f.append g;have p:a*sz<=C.size:=by
  rw [d];have b:=f.1;have c:=g.1;simp [Builtin.zeroCells,b,c,t];rw [<-Nat.add_mul,<-Nat.add_mul];exact r2 _ (by omega)
 obtain ⟨b,c⟩:=gZ k.drew (cap:=a) (es:=es++xs) (C:=C) (e:=e) q p (by simpa using o) l (fun j u m=>by rw [d]; exact yP m)
 exact ⟨b,c.drew⟩
theorem qF {n bytes:Nat} (h:n<=68719476736) (a:bytes<=2048):n*bytes<=140737488355328:=ts (Nat.mul_le_mul h a) (by decide)
theorem tA {n bytes:Nat} (a:0<bytes) (h:n*bytes<=140737488355328):(n:Int)<=9223372036854775807:=by
 have:n*1<=n*bytes:=Nat.mul_le_mul_left _ a;omega
def ql (P:Program) (t:TypeId):Option (TypeId×TypeInfo):=match eI P t with
 | some (a,i)=>match gh P a with
  | some (b,_)=>if aF i.size b=true then some (a,i) else none
  | none=>none
 | none=>none
theorem zz {P:Program} {G:Gh} {s s':St} {w:World} {t e:TypeId} {i:TypeInfo} (K:ql P t=some (e,i)) {md:Md} (e9:md≠.fork) {b' x av:AV} {cb c3:Value} (h:apI i.size i.bytes md b' x s=some (av,s'))
  (a5:Rep G b' cb) (ez:Rep G x c3) (m:Sim G s w) (R:TypeId):Out P (Builtin.append_ #[t,t] R #[cb,c3]) G s w av s':=by
 unfold ql at K;split at K
 case h_2=>cases K
 case h_1 cc y ex=>
 split at K
 case h_2=>cases K
 case h_1 fz fb ey=>
 split at K
 case isFalse=>cases K
 case isTrue ef=>
 injection K with K; injection K with d f; subst d; subst f;obtain ⟨aa,O⟩:=dT ex;obtain ⟨bo,c4,c1,rfl⟩:=eQ ey;rw [O] at bo; injection bo with bo; subst bo;obtain ⟨_,c2⟩:=iX (G:=G) ef;unfold apI at h;split at h
 case h_1=>cases h
 case h_2 xs el=>
 split at h
 case isFalse=>cases h
 case isTrue N=>
 obtain ⟨a0,cn,c',en⟩:=N;obtain ⟨e2,e3,p,rfl,e',C,eM⟩:=fo m el ez c' (by
  rintro g c4 o b rfl;simpa [fp] using en)
 have Z:∀ q,q.heap=w.heap->(Builtin.firstCells y.size xs.length (.slice e2 xs.length e3)).run P q=.ok p.toArray q:=by
  intro q bb;refine gR C fun Y=>?_;obtain ⟨k,o,d,f⟩:=eM Y;exact ⟨k,o,d,fun j S l=>by rw [d6 (w:=w) (by rw [bb])]; exact f j S l⟩
 have c0:=C.mem_cell a0;split at h
 ·
  rename_i c e4;split at h
  ·rename_i dv;subst dv;split at h
   ·rename_i J;injection h with h; injection h with d f; subst d; subst f;simp only [q9,y5,y9,List.isEmpty_eq_false_iff] at J;obtain ⟨dp,e6⟩:=J;subst dp;have al:p=[]:=by have:=C.1; simpa using this
    subst al;cases a5 with
    | sl _ _ a cap k o b0 bf ap bk T bN ag bt b2=>
     exact .quiet m (gE aa O (Z w rfl) ap R) (.sl c true a cap k o b0 bf ap bk T bN ag bt b2)
   ·rename_i J;split at h
    ·rename_i b4;obtain ⟨b7,ai,b3⟩:=b4;have a':=qF ai b3;injection h with h; injection h with d f; subst d; subst f;obtain ⟨bc,ca,vs,b6,dl,a6,b5⟩:=fo (x:=.sl c true) m rfl a5 b7 (by simp)
     subst b6;have de:ca=c.length:=by
      cases a5 with
      | sl _ _ a cap k o b0 bf ap bk T bN ag bt=>exact bk rfl
     subst de;by_cases bx:xs=[]
     ·subst bx;have ds:c=[]:=by
       apply sx; intro Y;apply J;simp [Y]
      subst ds;have al:p=[]:=by have:=C.1; simpa using this
      subst al;obtain ⟨d,f⟩:=mj m a0;refine ⟨.slice bc 0 0,w,_,gE aa O (Z w rfl) (q5 _) R,by simpa using f,by simpa using d,?_⟩
      have:=Rep.row (G:=G.addLoc s.c ⟨0,0,y.size⟩) s.c 0 0 ⟨0,0,y.size⟩ bc (ci _ _ _) (q5 _) (fun h=>absurd h (u6 _)) (v7 _);simpa using this
     ·have fa:0<xs.length:=r6.2 bx;have b9:∀ q,q.heap=w.heap->(Builtin.firstCells y.size c.length (.slice bc c.length c.length)).run P q=.ok vs.toArray q:=by
       intro q bb;refine gR a6 fun Y=>?_;obtain ⟨k,o,d,f⟩:=b5 Y;exact ⟨k,o,d,fun j S l=>by rw [d6 (w:=w) (by rw [bb])]; exact f j S l⟩
      obtain ⟨u,eW,Q,a9,H⟩:=pw (P:=P) (w:=w) aa O c1 b9 Z (by omega) a' (tA cn a') R
      obtain ⟨d,f⟩:=pr (e:=cc) m a0 c2 a9 a6 C H;exact ⟨_,_,_,Q,f,d,fZ m a9 ai⟩
    ·cases h
  ·split at h
   ·rename_i J;injection h with h; injection h with d f; subst d; subst f;simp only [y9] at J;subst J;have al:p=[]:=by have:=C.1; simpa using this
    subst al;cases a5 with
    | sl _ _ a cap k o b0 bf ap bk T bN ag bt b2=>
     exact .quiet m (gE aa O (Z w rfl) ap R) (.sl c false a cap k o b0 bf ap (by simp) T bN ag bt b2)
   ·cases h
 ·
  rename_i g fs off len;split at h
  ·rename_i sz'' c fn fd U;split at h
   ·rename_i b4;obtain ⟨v,c5,c6,ai,b3⟩:=b4;have a':=qF ai b3;subst c6;cases a5 with
    | row _ _ _ b a W cs T=>
     obtain ⟨l',cq,a3,e5,M,cl⟩:=m.blk g _ U;rw [W] at cq; injection cq with c7; subst c7;simp only [s7] at cs;split at h
     ·rename_i dW;subst dW;split at h
      ·rename_i eo;obtain ⟨es,et⟩:=eo;subst es; subst et;injection h with h; injection h with d f; subst d; subst f;have cp:0<b.cap->oY G s g b.b:=fun N=>m.freeRow U (by simp) W N
       have bj:=m.dropOne U W cp;have ch:Stp G s w G { s with h:=upd s.h g none } w:=Stp.sub (q5 _) (fun z k ab=>by
        have:upd s.h g none z=some k:=ab;unfold upd at this;split at this
        ·cases this
        ·exact this)
       by_cases bl:c.length+xs.length<=b.cap
       ·
        by_cases D:0<b.cap
        ·obtain ⟨u,b1,H,a4,ar⟩:=M.flat D;have a2:=T D;simp only [y2] at a2;subst a2;have am:p.length=xs.length*b.sz:=by rw [C.1,v]
         have a7:0+c.length*y.size+p.length<=u.size:=by
          rw [am,v,s7,<-Nat.add_mul];exact ts (r2 _ bl) a4
         have Q:=px (P:=P) aa O H (Z w rfl) c0 (len:=c.length) (cap:=b.cap) bl a7 R;rw [s7] at Q a7;have b8:G.Le (G.addLoc s.c b):=Gh.le_addLoc m.fresh;have Y:g≠s.c:=tr (m.hLt U);refine ⟨_,_,G.addLoc s.c b,by simpa using Q,?_,?_,?_⟩
         ·refine ⟨b8,rv _,rfl,rfl,rfl,by simp,fun k da ea=>?_,?_⟩
          ·by_cases ao:k=b.b
           ·exact absurd ⟨g,_,b,U,W,ao.symm,D⟩ ea
           ·exact setRow_other w b.b k _ ao
          ·rintro k da ⟨z,a1,bW,ab,d0,J,di⟩;have a8:upd (upd s.h g none) s.c (some (.row y.size (c++xs) .live none)) z=some a1:=ab;have ax:(if z=s.c then some b else G.loc z)=some bW:=d0
           unfold upd at a8;split at a8
           ·rename_i ao;rw [if_pos ao] at ax; injection ax with ax; subst ax;exact ⟨g,_,b,U,W,J,D⟩
           ·rename_i ao;rw [if_neg ao] at ax;split at a8
            ·cases a8
            ·exact ⟨z,a1,bW,a8,ax,J,di⟩
         ·refine Sim.put (g:=s.c) (b':=.row y.size (c++xs) .live none) (l':=b) (c':=s.c+1) bj (rv _) (q7 _) b8 ?_ (fun k _ d'=>setRow_other w b.b k _ (d' D)) ?_ (by simp) ?_
          ·intro N z a1 bW ab d f c9;have bi:upd s.h g none z=some a1:=d;unfold upd at bi;split at bi
           ·cases bi
           ·rename_i dN; exact cp N z a1 bW dN bi f c9
          ·intro o S N ag;rw [cl (by simp) N o] at ag; cases ag
          ·refine ⟨v.symm,a0,?_,fun _ N z=>cl (by simp) N z⟩
           have bm:=ar.append (by rw [<-v]; exact C:Flat G b.sz xs p)
           refine RowOk.ofFlat (e:=b1) (setRow_heap w b.b u _ b1 _ H) (by simp; omega) (by simpa using bl) (bm.mono b8) ?_
           intro j S l;rw [v];simp only [x8];rw [<-List.append_assoc,sk (by
            have:=(q4.1 l).1;simpa using this)]
           exact l
         ·have:=Rep.row (G:=G.addLoc s.c b) s.c 0 (c.length+xs.length) b (some ⟨b.b,0,none⟩) (ci _ _ _) (by simpa using bl) (by simp) ai
          rw [<-v] at this;simpa using this
        ·have c8:b.cap=0:=by omega
         have dn:c=[]:=s6.1 (by omega)
         have bx:xs=[]:=s6.1 (by omega)
         subst dn; subst bx;have al:p=[]:=by have:=C.1; simpa using this
         subst al;obtain ⟨d,f⟩:=mj bj a0;refine ⟨.slice a 0 0,w,_,?_,ch.trans (by simpa [newRow] using f),by simpa [newRow] using d,?_⟩
         ·have:=gE (P:=P) (w:=w) (a:=a) (len:=0) (cap:=0) aa O (Z w rfl) (q5 _) R;simpa [c8] using this
         ·have:=Rep.row (G:=G.addLoc s.c ⟨0,0,y.size⟩) s.c 0 0 ⟨0,0,y.size⟩ a (ci _ _ _) (q5 _) (fun h=>absurd h (u6 _)) (v7 _);simpa using this
       ·
        have em:s.show_ (.row g b.sz 0 c.length)=some c:=by simp [St.show_,U]
        have b7:c.all (aF b.sz)=true:=by
         rw [rx];intro fx eP;obtain ⟨z,ab⟩:=w7.1 eP;by_cases D:0<b.cap
         ·obtain ⟨u,b1,H,a4,ar⟩:=M.flat D;exact (ar.elem ab).1
         ·have:=M.1;have:z<c.length:=(q4.1 ab).1;omega
        have eg:Rep G (.row g b.sz 0 c.length) (.slice a c.length (b.cap-0)):=.row g 0 c.length b a W (by simpa using cs) T (by omega)
        obtain ⟨bc,ca,vs,b6,dl,a6,b5⟩:=fo m em eg b7 (by rintro g c4 o b ⟨rfl⟩; rfl)
        injection b6 with e0 fm e1;subst e0; subst e1;have b9:∀ q,q.heap=w.heap->(Builtin.firstCells y.size c.length (.slice a c.length (b.cap-0))).run P q=.ok vs.toArray q:=by
         intro q bb;rw [v];refine gR a6 fun Y=>?_;obtain ⟨k,o,d,f⟩:=b5 Y;exact ⟨k,o,d,fun j S l=>by rw [d6 (w:=w) (by rw [bb])]; exact f j S l⟩
        obtain ⟨u,eW,Q,a9,H⟩:=pw (P:=P) (w:=w) aa O c1 b9 Z (by omega) a' (tA cn a') R
        obtain ⟨d,f⟩:=pr (e:=cc) bj a0 c2 a9 (by rw [v]; exact a6) C H
        exact ⟨_,_,_,Q,ch.trans f,d,fZ bj a9 ai⟩
      ·cases h
     ·split at h
      ·rename_i d4;obtain ⟨d1,d2,d3⟩:=d4;subst d2; subst d3;injection h with h; injection h with d f; subst d; subst f;have D:0<b.cap:=by have:=M.1; omega
       obtain ⟨u,b1,H,a4,ar⟩:=M.flat D;have a2:=T D;simp only [y2] at a2;subst a2;have am:p.length=xs.length*b.sz:=by rw [C.1,v]
       have cx:=r2 b.sz d1;rw [tn] at cx;have dk:c.length*b.sz<=u.size:=ts (r2 _ M.1) a4;have a7:0+len*y.size+p.length<=u.size:=by
        rw [am,v]; omega
       have Q:=px (P:=P) aa O H (Z w rfl) c0 (len:=len) (cap:=b.cap) (by have:=M.1; omega) a7 R
       rw [s7] at Q a7;have bm:=((ar.take len).append (by rw [<-v]; exact C:Flat G b.sz xs p)).append (ar.drop (len+xs.length))
       obtain ⟨d,f⟩:=kr m U W D H (es':=c.take len++xs++c.drop (len+xs.length)) (C':=(u.toList.take (len*y.size)++p++u.toList.drop (len*y.size+p.length)).toArray) (by simp; omega) a4
        (by have:=M.1; simp; omega) (by rw [a3] at bm; exact bm) (fun j S l=>by
         rw [v,am,<-Nat.add_mul];rw [tn];have:(u.toList.take (c.length*sz'')).take (len*sz'')=u.toList.take (len*sz''):=by
          rw [y4,xf (r2 _ (by omega))]
         rw [a3] at dk cx am;rw [a3,<-am];refine getElem?_mid (vs:=u.toList.take (c.length*sz'')) (o:=len*sz'') (n:=p.length) ?_ rfl (by simp; omega) (by simp; omega) ?_
         ·intro j S l;rw [s0] at l;split at l
          ·simpa using l
          ·cases l
         ·rw [am,<-Nat.add_mul,<-a3]; exact (by rw [a3] ; exact l))
       rw [<-c5] at d f;refine ⟨_,_,G,by simpa using Q,f,d,?_⟩
       have:=Rep.row (G:=G) g 0 (len+xs.length) b (some ⟨b.b,0,none⟩) W (by have:=M.1; omega) (by simp) ai
       rw [<-v] at this;simpa using this
      ·cases h
   ·cases h
  ·cases h
 ·cases h
end Go.AM
