/- Part of the claim: see its last text. -/
import Derived.Test.YtjhogglgkjcacaaGreatMa3
set_option linter.all false
namespace Go.AM
def Flat (G:Gh) (sz:Nat) (es:List (List AV)) (vs:List Value):Prop:=
 vs.length=es.length*sz/\∀ (i:Nat) (b:List AV),es[i]?=some b->b.length=sz/\∀ (j:Nat) (a:AV),b[j]?=some a->a.cell=true/\∃ c,vs[i*sz+j]?=some c/\Rep G a c
theorem Flat.nil (G:Gh) (sz:Nat):Flat G sz [] []:=⟨by simp,fun i b a=>by simp at a⟩
theorem Flat.mono {G a:Gh} (l:G.Le a) {sz:Nat} {es:List (List AV)} {vs:List Value} (h:Flat G sz es vs):Flat a sz es vs:=
 ⟨h.1,fun i c b=>⟨(h.2 i c b).1,fun j d k=>by
  obtain ⟨e,m,f,g⟩:=(h.2 i c b).2 j d k;exact ⟨e,m,f,g.mono l⟩⟩⟩
theorem Flat.append {G:Gh} {sz:Nat} {es m:List (List AV)} {vs o:List Value} (h:Flat G sz es vs) (k:Flat G sz m o):Flat G sz (es++m) (vs++o):=by
 refine ⟨by simp [h.1,k.1,tn],fun i c a=>?_⟩
 rw [wx] at a;split at a
 ·rename_i q;refine ⟨(h.2 i c a).1,fun j d g=>?_⟩;obtain ⟨e,l,b,f⟩:=(h.2 i c a).2 j d g;have:=(q4.1 b).1;exact ⟨e,l,by rw [sk this]; exact b,f⟩
 ·rename_i q;refine ⟨(k.2 _ c a).1,fun j d g=>?_⟩;obtain ⟨e,l,b,f⟩:=(k.2 _ c a).2 j d g;refine ⟨e,l,?_,f⟩;have p:i*sz=es.length*sz+(i-es.length)*sz:=by rw [<-Nat.add_mul]; congr 1; omega
  rw [r1 (by rw [h.1]; omega),h.1,p]
  rw [show es.length*sz+(i-es.length)*sz+j-es.length*sz=(i-es.length)*sz+j by omega]
  exact b
theorem Flat.one {G:Gh} {sz:Nat} {cs:List AV} {vs:List Value} (a:aF sz cs=true) (h:RepL G cs vs):Flat G sz [cs] vs:=by
 simp only [aF,q9,beq_iff_eq] at a;refine ⟨by simp [<-h.1,a.1],fun i k b=>?_⟩
 cases i with
 | zero=>
  simp at b; subst b;refine ⟨a.1,fun j d c=>⟨rx.1 a.2 d (r8 c),?_⟩⟩;obtain ⟨g,f,e⟩:=h.get c;exact ⟨g,by simpa using f,e⟩
 | succ i=>simp at b
theorem Flat.replicate {G:Gh} {sz:Nat} {cs:List AV} {vs:List Value} (a:aF sz cs=true) (h:RepL G cs vs):∀ n,Flat G sz (List.replicate n cs) (List.replicate n vs).flatten
 | 0=>Flat.nil G sz
 | n+1=>by
  rw [C1,C1,List.flatten_cons];exact Flat.append (es:=[cs]) (Flat.one a h) (Flat.replicate a h n)
theorem Flat.take {G:Gh} {sz:Nat} {es:List (List AV)} {vs:List Value} (h:Flat G sz es vs) (n:Nat):Flat G sz (es.take n) (vs.take (n*sz)):=by
 refine ⟨?_,fun i d a=>?_⟩
 ·rw [tm,tm,h.1,Nat.min_def,Nat.min_def];split <;> split
  ·rfl
  ·rename_i c b;have:es.length<=n:=by omega
   have:=r2 sz this;omega
  ·rename_i c b;have:=r2 sz b;omega
  ·rfl
 ·rw [s0] at a;split at a
  ·rename_i l;refine ⟨(h.2 i d a).1,fun j f e=>?_⟩;obtain ⟨c,k,b,g⟩:=(h.2 i d a).2 j f e;refine ⟨c,k,?_,g⟩;have m:j<sz:=by rw [<-(h.2 i d a).1]; exact (q4.1 e).1
   have:i*sz+j<n*sz:=by
    have:=r2 sz (show i+1<=n by omega)
    rw [tn] at this; omega
   rw [tt this]; exact b
  ·cases a
theorem Flat.drop {G:Gh} {sz:Nat} {es:List (List AV)} {vs:List Value} (h:Flat G sz es vs) (n:Nat):Flat G sz (es.drop n) (vs.drop (n*sz)):=by
 refine ⟨by rw [zd,zd,h.1,Nat.sub_mul],fun i b a=>?_⟩
 rw [s8] at a;refine ⟨(h.2 _ b a).1,fun j c g=>?_⟩;obtain ⟨d,k,e,f⟩:=(h.2 _ b a).2 j c g;refine ⟨d,k,?_,f⟩;rw [s8,<-e,tn,xo]
theorem Flat.mem_cell {G:Gh} {sz:Nat} {es:List (List AV)} {vs:List Value} (h:Flat G sz es vs) (e:0<sz):∀ v∈vs,v.oneCell'=true:=by
 intro v p;obtain ⟨b,c⟩:=w7.1 p;have d:=(q4.1 c).1;rw [h.1] at d;have m:b / sz<es.length:=by rw [Nat.div_lt_iff_lt_mul e]; exact d
 obtain ⟨f,g⟩:=h.2 _ _ (q3 m);have o:b % sz<(es[b / sz]).length:=by rw [f]; exact EA _ e
 obtain ⟨k,q,a,l⟩:=g _ _ (q3 o);rw [ED,Nat.div_add_mod,c] at a;injection a with a; subst a;exact l.oneCell k
theorem RowOk.ofFlat {G:Gh} {b:Array Obj} {l:Loc} {es:List (List AV)} {C:Array Value} {e:TypeId} {vs:List Value} (p:b[l.b]?=some (.cells C e (0,0))) (t:l.cap*l.sz<=C.size) (q:es.length<=l.cap)
  (a:Flat G l.sz es vs) (m:∀ (j:Nat) (v:Value),vs[j]?=some v->C[j]?=some v):RowOk G b l es:=
 ⟨q,fun _=>⟨C,e,p,t,fun i d c=>⟨(a.2 i d c).1,fun j f o=>by
  obtain ⟨g,v,h,k⟩:=(a.2 i d c).2 j f o;exact ⟨g,v,m _ _ h,k⟩⟩⟩⟩
theorem RowOk.flat {G:Gh} {g:Array Obj} {l:Loc} {es:List (List AV)} (h:RowOk G g l es) (t:0<l.cap) :
  ∃ C e,g[l.b]?=some (.cells C e (0,0))/\l.cap*l.sz<=C.size/\Flat G l.sz es (C.toList.take (es.length*l.sz)):=by
 obtain ⟨C,e,m,d,b⟩:=h.2 t;have x:es.length*l.sz<=C.size:=ts (r2 _ h.1) d;refine ⟨C,e,m,d,by simp; omega,fun i c a=>⟨(b i c a).1,fun j k f=>?_⟩⟩
 obtain ⟨o,u,p,q⟩:=(b i c a).2 j k f;refine ⟨o,u,?_,q⟩;have v:i<es.length:=(q4.1 a).1;have w:j<l.sz:=by rw [<-(b i c a).1]; exact (q4.1 f).1
 have:i*l.sz+j<es.length*l.sz:=by
  have:=r2 l.sz (show i+1<=es.length by omega)
  rw [tn] at this; omega
 rw [tt this];simpa using p
theorem gZ {G:Gh} {s:St} {w:World} (b:Sim G s w) {sz cap:Nat} {es:List (List AV)} {C:Array Value} {e:TypeId} {vs:List Value} (p:0<sz) (h:cap*sz<=C.size) (l:es.length<=cap)
  (k:Flat G sz es vs) (f:∀ (j:Nat) (v:Value),vs[j]?=some v->C[j]?=some v) :
  Sim (G.addLoc s.c ⟨w.heap.size,cap,sz⟩) (newRow sz es s) (w.alloc (.cells C e))/\Stp G s w (G.addLoc s.c ⟨w.heap.size,cap,sz⟩) (newRow sz es s) (w.alloc (.cells C e)):=by
 have c:∀ a,a<w.heap.size->(w.alloc (.cells C e)).heap[a]?=w.heap[a]?:=fun a g=>heap_alloc_old w _ a g;have m:G.Le (G.addLoc s.c ⟨w.heap.size,cap,sz⟩):=Gh.le_addLoc b.fresh;refine ⟨b.add (q7 _) c (fun _=>q5 _) (by simp) ?_,Stp.add b (q7 _) c (fun _=>q5 _) (by simp) rfl rfl rfl⟩
 refine ⟨rfl,p,RowOk.ofFlat (l:=⟨w.heap.size,cap,sz⟩) (heap_alloc_new w _) h l (k.mono m) f,fun _ q d=>?_⟩;show G.mem w.heap.size d=none;cases o:G.mem w.heap.size d with
 | none=>rfl
 | some v=>exact absurd (b.memLt o) (u6 _)
theorem mj {G:Gh} {s:St} {w:World} (b:Sim G s w) {sz:Nat} (c:0<sz) :
  Sim (G.addLoc s.c ⟨0,0,sz⟩) (newRow sz [] s) w/\Stp G s w (G.addLoc s.c ⟨0,0,sz⟩) (newRow sz [] s) w:=by
 refine ⟨b.add (q7 _) (fun _ _=>rfl) (fun a=>absurd a (u6 _)) (by simp) ?_,Stp.add b (q7 _) (fun _ _=>rfl) (fun a=>absurd a (u6 _)) (q5 _) rfl rfl rfl⟩
 exact ⟨rfl,c,⟨q5 _,fun a=>absurd a (u6 _)⟩,fun _ a=>absurd a (u6 _)⟩
theorem ci (G:Gh) (g:Nat) (l:Loc):(G.addLoc g l).loc g=some l:=by simp [Gh.addLoc]
theorem fZ {G:Gh} {s:St} {w:World} (c:Sim G s w) {sz cap len:Nat} (b:len<=cap) (a:len<=68719476736):Rep (G.addLoc s.c ⟨w.heap.size,cap,sz⟩) (.row s.c sz 0 len) (.slice (some ⟨w.heap.size,0,none⟩) len cap):=by
 have:=Rep.row (G:=G.addLoc s.c ⟨w.heap.size,cap,sz⟩) s.c 0 len ⟨w.heap.size,cap,sz⟩ (some ⟨w.heap.size,0,none⟩) (ci _ _ _) (by simpa using b) (by simp) a
 simpa using this
theorem AL {P:Program} {G:Gh} {s s':St} {w:World} {e:TypeId} {sz:Nat} {a av:AV} {x:Value} (h:lZ a sz s=some (av,s')) (l:Rep G a x) (g:Sim G s w):Out P (Instr.box e x) G s w av s':=by
 unfold lZ at h;split at h
 ·rename_i c;injection h with h; injection h with d b; subst d; subst b;have k:a.cells.all AV.cell=true:=by have:=c.2; simp only [aF,q9] at this; exact this.2
  have f:=l.cellsOf k;have o:x.cells.size=sz:=by
   have:=f.1;have b:=c.2;simp only [aF,q9,beq_iff_eq] at b;simp at this; omega
  obtain ⟨d,b⟩:=gZ g (cap:=1) (es:=[a.cells]) (C:=x.cells) (e:=e) c.1 (by omega) (by simp) (Flat.one c.2 f) (fun j p m=>by simpa using m)
  refine ⟨.pointer (some ⟨w.heap.size,0,none⟩),_,_,by simp [Instr.box,newVar,Go.newRow],b,d,?_⟩
  have:=Rep.ptr (G:=G.addLoc s.c ⟨w.heap.size,1,sz⟩) s.c 0 0 ⟨w.heap.size,1,sz⟩ (ci _ _ _);simpa using this
 ·cases h
def gh (P:Program) (e:TypeId):Option (List AV×TypeInfo):=match P.info? e with
 | some i=>match i.zero with
  | some a=>some ((ofValue a).cells,i)
  | none=>none
 | none=>none
theorem eQ {P:Program} {e:TypeId} {zs:List AV} {i:TypeInfo} (h:gh P e=some (zs,i)):P.info? e=some i/\∃ z,i.zero=some z/\zs=(ofValue z).cells:=by
 unfold gh at h;split at h
 ·split at h
  ·injection h with h; injection h with a b; subst a; subst b;exact ⟨by assumption,_,by assumption,rfl⟩
  ·cases h
 ·cases h
theorem co {sz:Nat} {cs:List AV} (h:aF sz cs=true):cs.length=sz/\cs.all AV.cell=true:=by
 simpa [aF] using h
theorem iX {G:Gh} {z:Value} {sz:Nat} (h:aF sz (ofValue z).cells=true):RepL G (ofValue z).cells z.cells.toList/\z.cells.size=sz:=by
 have:=(gD G z).cellsOf (co h).2;refine ⟨this,?_⟩;have a:=this.1;have b:=(co h).1;simp at a; omega
theorem yA {P:Program} {G:Gh} {s s':St} {w:World} {e:TypeId} {zs:List AV} {i:TypeInfo} (o:gh P e=some (zs,i)) {av:AV} (h:lZ (.agg zs) zs.length s=some (av,s')) (g:Sim G s w) :
  Out P (Instr.alloc e true (.tuple #[])) G s w av s':=by
 obtain ⟨k,a,p,rfl⟩:=eQ o;unfold lZ at h;split at h
 ·rename_i d;injection h with h; injection h with b c; subst b; subst c;have f:aF (ofValue a).cells.length (ofValue a).cells=true:=d.2;obtain ⟨l,q⟩:=iX (G:=G) f;obtain ⟨b,c⟩:=gZ g (cap:=1) (es:=[(ofValue a).cells]) (C:=a.cells) (e:=e) d.1 (by omega) (by simp) (Flat.one f l) (fun j t m=>by simpa using m)
  refine ⟨.pointer (some ⟨w.heap.size,0,none⟩),_,_,by simp [Instr.alloc,zeroValue,typeInfo,k,p,newVar,Go.newRow],c,b,?_⟩
  have:=Rep.ptr (G:=G.addLoc s.c ⟨w.heap.size,1,(ofValue a).cells.length⟩) s.c 0 0 ⟨w.heap.size,1,(ofValue a).cells.length⟩ (ci _ _ _);simpa using this
 ·cases h
theorem Flat.setElem {G:Gh} {sz:Nat} {es:List (List AV)} {vs a:List Value} {e:Nat} {cs:List AV} (h:Flat G sz es vs) (k:e<es.length) (b:aF sz cs=true) (c:RepL G cs a) :
  Flat G sz (es.set e cs) (vs.take (e*sz)++a++vs.drop (e*sz+sz)):=by
 obtain ⟨l,m⟩:=co b;have o:a.length=sz:=by rw [<-c.1]; exact l
 have d:Flat G sz (es.take e) (vs.take (e*sz)):=h.take e;have f:Flat G sz [cs] a:=Flat.one b c;have g:Flat G sz (es.drop (e+1)) (vs.drop ((e+1)*sz)):=h.drop (e+1);have:=(d.append f).append g;rw [tn,D5] at this
 rwa [List.set_eq_take_append_cons_drop,if_pos k,show es.take e++cs::es.drop (e+1)=es.take e++[cs]++es.drop (e+1) by simp]
theorem ur {cs vs:List AV} {o:Nat} (h:o+vs.length<=cs.length):(dO cs o vs).length=cs.length:=by
 simp [dO]; omega
theorem uq {cs vs:List AV} {o:Nat} (h:cs.all AV.cell=true) (h':vs.all AV.cell=true):(dO cs o vs).all AV.cell=true:=by
 rw [rx] at *;intro b a;simp only [dO,rd] at a;rcases a with (a | a) | a
 ·exact h b (A5 a)
 ·exact h' b a
 ·exact h b (List.mem_of_mem_drop a)
theorem oJ {G:Gh} {cs vs:List AV} {a b:List Value} {o:Nat} (h:RepL G cs a) (h':RepL G vs b):RepL G (dO cs o vs) (a.take o++b++a.drop (o+b.length)):=by
 have:=((h.take o).append h').append (h.drop (o+vs.length));rw [h'.1] at this;unfold dO;rw [h'.1];exact this
theorem Flat.elem {G:Gh} {sz:Nat} {es:List (List AV)} {vs:List Value} {e:Nat} {cs:List AV} (h:Flat G sz es vs) (f:es[e]?=some cs):aF sz cs=true/\RepL G cs ((vs.drop (e*sz)).take sz):=by
 obtain ⟨g,d⟩:=h.2 e cs f;have p:e<es.length:=(q4.1 f).1;have o:e*sz+sz<=vs.length:=by
  rw [h.1];have:=r2 sz (show e+1<=es.length by omega)
  rwa [tn,D5] at this
 refine ⟨?_,by simp; omega,fun j b t c a=>?_⟩
 ·simp only [aF,q9,beq_iff_eq];refine ⟨g,rx.2 fun b c=>?_⟩;obtain ⟨j,k⟩:=w7.1 c;exact (d j b k).1
 ·obtain ⟨_,q,m,l⟩:=d j b c;rw [s0] at a;split at a
  ·rw [s8,m] at a; injection a with a; subst a; exact l
  ·cases a
theorem kr {G:Gh} {s:St} {w:World} (h:Sim G s w) {g sz:Nat} {es es':List (List AV)} {l:Loc} (c:s.h g=some (.row sz es .live none)) (k:G.loc g=some l) (u:0<l.cap)
  {C C':Array Value} {e:TypeId} (N:w.heap[l.b]?=some (.cells C e (0,0))) (ag:C'.size=C.size) (ab:l.cap*l.sz<=C.size) (S:es'.length<=l.cap) {vs:List Value} (Q:Flat G sz es' vs) (Y:∀ (j:Nat) (v:Value),vs[j]?=some v->C'[j]?=some v) :
  Sim G { s with h:=upd s.h g (some (.row sz es' .live none)) } (w.setRow l.b C')/\Stp G s w G { s with h:=upd s.h g (some (.row sz es' .live none)) } (w.setRow l.b C'):=by
 have m:=iZ k;obtain ⟨l',z,q,P,aa,t⟩:=h.blk g _ c;rw [k] at z; injection z with M; subst M;have W:∀ a,a<w.heap.size->(0<l.cap->a≠l.b)->(w.setRow l.b C').heap[a]?=w.heap[a]?:=fun a _ T=>setRow_other w l.b a C' (T u);have J:=Sim.put (g:=g) (b':=.row sz es' .live none) (l':=l) (c':=s.c) (w':=w.setRow l.b C') h (q5 _) (h.hLt c) (by rw [m]; exact .refl G)
  (fun b=>h.freeRow c (by simp) k b) W (fun Z v b H=>by rw [t (by simp) b Z] at H; cases H) (by simp)
  ⟨q,P,RowOk.ofFlat (C:=C') (e:=e) (vs:=vs) (setRow_heap w l.b C C' e _ N) (by omega) S (by rw [m,q]; exact Q) Y,fun _ b d=>by rw [m]; exact t (by simp) b d⟩
 rw [m] at J;refine ⟨J,.refl G,q5 _,rfl,rfl,rfl,by simp,fun a O U=>?_,?_⟩
 ·by_cases f:a=l.b
  ·exact absurd ⟨g,_,l,c,k,f.symm,u⟩ U
  ·exact setRow_other w l.b a C' f
 ·rintro a O ⟨d,p,K,R,D,y,x⟩;have o:upd s.h g (some (.row sz es' .live none)) d=some p:=R;unfold upd at o;split at o
  ·rename_i f; subst f; exact ⟨d,_,K,c,D,y,x⟩
  ·exact ⟨d,p,K,o,D,y,x⟩
theorem getElem?_mid {vs c:List Value} {o n k:Nat} {C:Array Value} (d:∀ (j:Nat) (v:Value),vs[j]?=some v->C[j]?=some v) (l:c.length=n) (g:o+n<=vs.length) (m:vs.length<=C.size) {v:Value}
  (h:(vs.take o++c++vs.drop (o+n))[k]?=some v):(C.toList.take o++c++C.toList.drop (o+n)).toArray[k]?=some v:=by
 simp only [x8];have f:(vs.take o).length=o:=by simp; omega
 have e:(C.toList.take o).length=o:=by simp; omega
 rw [u0,wx] at h ⊢;rw [f] at h; rw [e];split
 ·rename_i a;rw [if_pos a,tt a] at h;rw [tt a];simpa using d _ _ h
 ·rename_i a;rw [if_neg a] at h;rw [wx] at h ⊢;split
  ·rename_i b; rw [if_pos b] at h; exact h
  ·rename_i b;rw [if_neg b,s8] at h;rw [s8];simpa using d _ _ h
theorem Cm {P:Program} {G:Gh} {s s':St} {w:World} {t:TypeId} {n:Nat} (a9:tSz P t=some n) {a v:AV} {x y:Value} (h:stI n a v s=some s') (a6:Rep G a x) (bb:Rep G v y) (M:Sim G s w) :
  ∃ w' H,(Instr.storeAt t x y).run P w=.ok () w'/\Stp G s w H s' w'/\Sim H s' w':=by
 unfold stI at h;split at h
 ·rename_i ag c o;split at h
  ·rename_i b e T;split at h
   ·rename_i J O;split at h
    ·rename_i ao;injection h with h; subst h;obtain ⟨a2,C,bm⟩:=ao;cases a6 with
     | ptr _ _ _ g W=>
      obtain ⟨bt,Y,l,bk,m,bl⟩:=M.blk ag _ T;rw [W] at Y; injection Y with q; subst q;have a0:c<e.length:=(q4.1 O).1;have N:0<g.cap:=by have:=m.1; omega
      obtain ⟨d,bi,K,aa,S⟩:=m.flat N;have p:=bb.cellsOf C;have D:y.cells.toList.length=n:=by rw [<-p.1]; exact a2
      have bc:y.cells.size=n:=by simpa using D
      obtain ⟨a4,a7⟩:=S.elem O;obtain ⟨ar,ap⟩:=co a4;have al:∀ (j:Nat) (v:Value),(d.toList.take (e.length*g.sz))[j]?=some v->d[j]?=some v:=by
       intro j v f;rw [s0] at f;split at f
       ·simpa using f
       ·cases f
      have Q:(c+1)*g.sz<=e.length*g.sz:=r2 _ (by omega)
      have ax:e.length*g.sz<=d.size:=ts (r2 _ m.1) aa;rw [tn,D5] at Q;have a3:aF g.sz (dO J o v.cells)=true:=by
       simp only [aF,q9,beq_iff_eq];exact ⟨by rw [ur (by omega)]; exact ar,uq ap C⟩
      have a8:=oJ (o:=o) a7 p;have R:=S.setElem a0 a3 a8;have a5:∀ k∈y.cells.toList,k.oneCell'=true:=by
       intro k a';obtain ⟨j,f⟩:=w7.1 a';have U:j<v.cells.length:=by rw [p.1]; exact (q4.1 f).1
       exact (p.2 j _ k (q3 U) f).oneCell (rx.1 C _ (u3 U))
      have Z:=run_storeCells_at (P:=P) g.b (c*g.sz+o) bi y.cells.toList 0 d w K (by rw [D]; omega) a5
      simp only [wa] at Z;rw [l] at R;have a1:∀ (j:Nat) (k:Value),((d.toList.take (e.length*b)).take (c*b)++(((d.toList.take (e.length*b)).drop (c*b)).take b).take o++y.cells.toList++((((d.toList.take (e.length*b)).drop (c*b)).take b).drop (o+y.cells.toList.length)++(d.toList.take (e.length*b)).drop (c*b+b)))[j]?=some k ->
        (d.toList.take (c*g.sz+o)++y.cells.toList++d.toList.drop (c*g.sz+o+y.cells.toList.length)).toArray[j]?=some k:=by
       intro j k f;rw [l] at ax Q;have bf:(d.toList.take (e.length*b)).take (c*b)++(((d.toList.take (e.length*b)).drop (c*b)).take b).take o++y.cells.toList++((((d.toList.take (e.length*b)).drop (c*b)).take b).drop (o+y.cells.toList.length)++(d.toList.take (e.length*b)).drop (c*b+b))
         = (d.toList.take (e.length*b)).take (c*b+o)++y.cells.toList++(d.toList.take (e.length*b)).drop (c*b+o+y.cells.toList.length):=by
        generalize am:d.toList.take (e.length*b)=V;have bj:c*b+b<=V.length:=by rw [<-am]; simp; omega
        have bo:o+y.cells.toList.length<=b:=by omega
        have q:V.take (c*b)++((V.drop (c*b)).take b).take o=V.take (c*b+o):=by
         rw [y4,xf (by omega),<-List.take_add]
        have ab:((V.drop (c*b)).take b).drop (o+y.cells.toList.length)++V.drop (c*b+b)=V.drop (c*b+o+y.cells.toList.length):=by
         have u:V.drop (c*b+b)=(V.drop (c*b)).drop b:=by rw [B2]
         have z:V.drop (c*b+o+y.cells.toList.length)=(V.drop (c*b)).drop (o+y.cells.toList.length):=by rw [B2,xo]
         rw [u,z];have ai:((V.drop (c*b)).take b++(V.drop (c*b)).drop b).drop (o+y.cells.toList.length)=((V.drop (c*b)).take b).drop (o+y.cells.toList.length)++(V.drop (c*b)).drop b:=by
          rw [List.drop_append_of_le_length (by rw [tm,zd]; omega)]
         rw [<-ai,xa]
        rw [q,ab]
       rw [bf] at f;rw [l];exact getElem?_mid (fun j v h=>al j v (by rw [l]; exact h)) rfl (by simp only [tm,tx]; simp only [tx] at D; omega) (by simp only [tm,tx]; omega) f
      obtain ⟨u,z⟩:=kr M T W N K (C':=(d.toList.take (c*g.sz+o)++y.cells.toList++d.toList.drop (c*g.sz+o+y.cells.toList.length)).toArray) (by simp; omega) aa
       (es':=e.set c (dO J o v.cells)) (by simpa using m.1) R (fun j k f=>a1 j k (by simpa [u0] using f))
      refine ⟨_,G,?_,z,u⟩;simp only [Instr.storeAt,Instr.sureAddr,storeVar,Sem.run_bind,Sem.run_pure,Result.andThen_ok,uQ a9,bc,ne_eq,not_true_eq_false,if_false];exact Z
    ·cases h
   ·cases h
  ·cases h
 ·cases h
end Go.AM
