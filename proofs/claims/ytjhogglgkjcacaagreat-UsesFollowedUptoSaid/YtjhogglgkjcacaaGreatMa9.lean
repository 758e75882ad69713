/- Part of the claim: see its last text. -/
import Derived.Test.YtjhogglgkjcacaaGreatMa8
import Derived.Test.YtjhogglgkjcacaaGreatMa6
import Derived.Laws.BytesString
set_option linter.all false
namespace Go.AM
theorem vm {P:Program} {G:Gh} {s:St} {w:World} (h:Sim G s w) {g off:Nat} {es ys:List (List AV)} {l:Loc} (p:s.h g=some (.row l.sz es .live none)) (q:G.loc g=some l) (k:0<l.cap) {c:List Value} (e:Flat G l.sz ys c)
  (z:off+ys.length<=es.length) :
  ∃ w',(storeCells ⟨l.b,off*l.sz,none⟩ c).run P w=.ok () w'/\Sim G { s with h:=upd s.h g (some (.row l.sz (es.take off++ys++es.drop (off+ys.length)) .live none)) } w' /\
   Stp G s w G { s with h:=upd s.h g (some (.row l.sz (es.take off++ys++es.drop (off+ys.length)) .live none)) } w':=by
 obtain ⟨S,t,N,O,d,Q⟩:=h.blk g _ p;rw [q] at t; injection t with v; subst v;obtain ⟨a,J,f,m,o⟩:=d.flat k;have H:=e.1;have R:es.length*l.sz<=a.size:=ts (r2 _ d.1) m;have D:(off+ys.length)*l.sz<=es.length*l.sz:=r2 _ z;rw [tn] at D;have u:=run_storeCells_at (P:=P) l.b (off*l.sz) J c 0 a w f (by omega) (e.mem_cell (by omega))
 simp only [wa] at u;have C:=((o.take off).append e).append (o.drop (off+ys.length));obtain ⟨x,y⟩:=kr h p q k f (es':=es.take off++ys++es.drop (off+ys.length)) (C':=(a.toList.take (off*l.sz)++c++a.toList.drop (off*l.sz+c.length)).toArray) (by simp; omega) m
  (by have:=d.1; simp; omega) C (fun j K b=>by
   have M:(a.toList.take (es.length*l.sz)).take (off*l.sz)=a.toList.take (off*l.sz):=by
    rw [y4,xf (r2 _ (by omega))]
   refine getElem?_mid (vs:=a.toList.take (es.length*l.sz)) (o:=off*l.sz) (n:=c.length) ?_ rfl (by simp; omega) (by simp; omega) ?_
   ·intro j K b;rw [s0] at b;split at b
    ·simpa using b
    ·cases b
   ·rw [H,<-Nat.add_mul]; exact b)
 exact ⟨_,u,x,y⟩
theorem qN {zc:Array Value} {n:Nat} (b:0<zc.size):(Builtin.zeroCells zc n).toList=(List.replicate n zc.toList).flatten:=by
 apply List.ext_getElem?;intro a;by_cases e:a<n*zc.size
 ·rw [<-Array.getElem?_toList.symm,mR b e];have f:((List.replicate n zc.toList).flatten).length=n*zc.size:=by simp
  have c:((List.replicate n zc.toList).flatten)[a]?=some ((List.replicate n zc.toList).flatten)[a]:=q3 (by omega)
  obtain ⟨_,d⟩:=iv (by simpa using b) _ _ _ c
  rw [c];simpa using d
 ·rw [w9 (by simp [Builtin.zeroCells]; omega),w9 (by simp; omega)]
theorem BE {P:Program} {G:Gh} {s s':St} {w:World} {t e ao:TypeId} {p:Array TypeId} {i:TypeInfo} {zs:List AV} (k:p[0]?=some t) (ab:eI P t=some (e,i)) (ai:gh P e=some (zs,i)) {x:AV} {M:Value} (h:clI i.size zs x s=some s')
  (J:Rep G x M) (b:Sim G s w):Out P (Builtin.clear_ p ao #[M]) G s w (.tup []) s':=by
 obtain ⟨m,W⟩:=dT ab;obtain ⟨_,d,al,rfl⟩:=eQ ai;have am:(zeroValue e).run P w=.ok d w:=by simp [zeroValue,typeInfo,W,al]
 have o:Rep G (.tup []) (.tuple #[]):=(RepL.nil G).toTup;unfold clI at h;split at h
 ·rename_i g bk off len;split at h
  ·rename_i sz'' a c;split at h
   ·rename_i z;obtain ⟨a9,q,N,H,U⟩:=z;injection h with h; subst h;subst N;cases J with
    | row _ _ _ K f C a7 y=>
     obtain ⟨Z,bb⟩:=iX (G:=G) H;obtain ⟨bf,D,a1,a2,a3,a4⟩:=b.blk g _ c;rw [C] at D; injection D with O; subst O;by_cases Q:len=0
     ·subst Q;have aa:a.take off++List.replicate 0 (ofValue d).cells++a.drop (off+0)=a:=by simp
      have ag:({ h:=upd s.h g (some (.row i.size (a.take off++List.replicate 0 (ofValue d).cells++a.drop (off+0)) .live none)),c:=s.c }:St)=s:=by
       rw [aa];have:upd s.h g (some (.row i.size a .live none))=s.h:=by
        funext bc;unfold upd;split
        ·rename_i e; subst e; rw [c]
        ·rfl
       rw [this]
      rw [ag];refine .quiet b (v:=.tuple #[]) ?_ o;cases f <;> simp [Builtin.clear_,k,run_underlying m]
     ·have Y:off<K.cap:=by omega
      have S:=y Y;subst S;have T:0<K.cap:=by omega
      have l:=Flat.replicate (G:=G) H Z len;rw [<-qN (zc:=d.cells) (by omega)] at l
      rw [q] at c l;obtain ⟨ap,R,u,v⟩:=vm (P:=P) b c C T l (off:=off) (by simpa using U)
      simp only [List.length_replicate] at u v;rw [q];refine ⟨.tuple #[],ap,G,?_,v,u,o⟩;obtain ⟨n,rfl⟩:∃ n,len=n+1:=⟨len-1,by omega⟩
      simp [Builtin.clear_,k,run_underlying m,am,R]
   ·cases h
  ·cases h
 ·injection h with h; subst h;cases J with
  | sl _ _ f ax ar bi bj a0 z a5 y a' a8 a6=>
   refine .quiet b (v:=.tuple #[]) ?_ o;cases f <;> simp [Builtin.clear_,k,run_underlying m]
 ·cases h
theorem BH {P:Program} {G:Gh} {s s':St} {w:World} {t T ab a2:TypeId} {y:Array TypeId} {S:KK} (D:y[0]?=some t) (Q:P.underlying t=some (.map T ab)) (K:fN P T=some S) {m k:AV} {aa Z:Value}
  (h:dlI S m k s=some s') (ap:Rep G m aa) (M:Rep G k Z) (v:Sim G s w):Out P (Builtin.delete_ y a2 #[aa,Z]) G s w (.tup []) s':=by
 have R:Rep G (.tup []) (.tuple #[]):=(RepL.nil G).toTup;unfold dlI at h;split at h
 ·rename_i a3;split at h
  ·rename_i U ver J;cases ap with
   | map _ W N=>
    obtain ⟨_,_,b,q,c,u,g,ag⟩:=v.map J N;split at h
    ·rename_i j x;obtain ⟨o,p,z⟩:=iO K M w u g x;injection h with h; subst h;have O:=z j rfl;have al:b[j]?=some b[j]:=rm O;have H:(b.eraseIdxIfInBounds j).toList=b.toList.eraseIdx j:=by
      simp [Array.eraseIdxIfInBounds,O]
     have look:∀ (i:Nat) (a:MapEntry),(b.eraseIdxIfInBounds j)[i]?=some a->b[if i<j then i else i+1]?=some a:=by
      intro i a e;rw [<-Array.getElem?_toList,H,List.getElem?_eraseIdx] at e;split at e
      ·rename_i d; rw [if_pos d]; simpa using e
      ·rename_i d; rw [if_neg d]; simpa using e
     obtain ⟨a0,a1⟩:=nz v J N (es':=b.eraseIdxIfInBounds j) (clock':=q) (kv':=U.eraseIdx j) c (by
      have:(b.eraseIdxIfInBounds j).toList.length=(U.eraseIdx j).length:=by
       rw [H,List.length_eraseIdx,List.length_eraseIdx]; simp [u]
      rwa [tx] at this) (by
      intro i a Y e l;have f:=look i a e;rw [List.getElem?_eraseIdx] at l;split at l
      ·rename_i d; rw [if_pos d] at f; exact g _ a Y f l
      ·rename_i d; rw [if_neg d] at f; exact g _ a Y f l) (by
      intro i ax a C am ao ai;have:=ag _ _ a C (look i a am) (look ax C ao) ai;split at this <;> split at this <;> omega)
     refine ⟨.tuple #[],_,G,?_,a1,a0,R⟩;simp [Builtin.delete_,D,run_underlying Q,MapKept.run_getObj_map c,o,p,al,MapKept.run_setObj_map _ c]
    ·rename_i x;obtain ⟨o,p,z⟩:=iO K M w u g x;injection h with h; subst h;have ar:({ w with heap:=w.heap.setIfInBounds W.b (.map b q) }:World)=w:=by
      have:w.heap.setIfInBounds W.b (.map b q)=w.heap:=by
       apply Array.ext_getElem?;intro k;rw [u4];split
       ·rename_i a; subst a; rw [if_pos (cF c),c]
       ·rfl
      rw [this]
     refine .quiet v (v:=.tuple #[]) ?_ R;simp [Builtin.delete_,D,run_underlying Q,MapKept.run_getObj_map c,o,p,MapKept.run_setObj_map _ c,ar]
    ·cases h
  ·cases h
 ·cases h
theorem B6 {P:Program} {t:TypeId} {e:TypeId} (d:P.underlying t=some (.slice e)) (b:Nat) (a:Option Addr) (n c:Nat) (w:World):(Op.equalIn (b+1) t (.slice a n c) (.slice none 0 0)).run P w=.ok a.isNone w:=by
 cases a <;> simp [Op.equalIn,run_underlying d]
theorem wE {P:Program} {t k:TypeId} {e:TypeId} (c:P.underlying t=some (.map k e)) (b:Nat) (a:Option Nat) (w:World):(Op.equalIn (b+1) t (.map a) (.map none)).run P w=.ok a.isNone w:=by
 cases a <;> simp [Op.equalIn,run_underlying c]
theorem B7 {P:Program} {t:TypeId} {e:TypeId} (f:P.underlying t=some (.slice e)) {op:BinOp} (d:op=.eql\/op=.neq) (a:Option Addr) (n c:Nat) (w:World) :
  (binOp op t (.slice a n c) (.slice none 0 0)).run P w=.ok (.bool (if op=.eql then a.isNone else !a.isNone)) w:=by
 have b:(Op.equal t (.slice a n c) (.slice none 0 0)).run P w=.ok a.isNone w:=B6 f 9999 a n c w;rcases d with rfl | rfl
 ·simp only [binOp];simp [b]
 ·simp only [binOp];simp [b]
theorem zl {P:Program} {G:Gh} {s:St} {w:World} {t e:TypeId} (J:P.underlying t=some (.slice e)) {op:BinOp} {x:AV} {c:Value} {ox oy:Operand} {K:AV->St->Prop} (h:lK op x s K) (k:Rep G x c) :
  ∃ r av,(do eqGuard op t ox oy c (.slice none 0 0); binOp op t c (.slice none 0 0)).run P w=.ok r w/\Rep G av r/\K av s:=by
 obtain ⟨g,h⟩:=h;have fin:∀ (a:Option Addr) (n d:Nat),c=.slice a n d->K (.bool (if op=.eql then a.isNone else !a.isNone)) s->∃ r av,(do eqGuard op t ox oy c (.slice none 0 0); binOp op t c (.slice none 0 0)).run P w=.ok r w/\Rep G av r/\K av s:=by
  intro a n d m l;subst m;refine ⟨_,_,?_,.sc _ rfl,l⟩;have u:=fU (P:=P) (w:=w) (op:=op) (t:=t) (x:=ox) (y:=oy) (a:=.slice a n d) (b:=.slice none 0 0) (by simp) (by simp)
  simp only [Sem.run_bind,u,Result.andThen_ok,B7 J g]
 have o:∀ (a:Option Addr) (n d:Nat),c=.slice a n d->K (.bool true) s/\K (.bool false) s->∃ r av,(do eqGuard op t ox oy c (.slice none 0 0); binOp op t c (.slice none 0 0)).run P w=.ok r w/\Rep G av r/\K av s:=by
  intro a n d m l;refine fin a n d m ?_;rcases g with rfl | rfl <;> cases a <;> simp [l.1,l.2]
 split at h
 ·cases k with
  | sl _ _ a p b O Q q v y f M H z=>
   refine fin a _ _ rfl ?_;rw [f (by simp)]
   rcases g with rfl | rfl
   ·exact h
   ·exact h
 ·cases k with
  | row _ _ _ N a C D f=>
   refine fin a _ _ rfl ?_;rw [f (by omega)]
   rcases g with rfl | rfl
   ·exact h
   ·exact h
 ·cases k with
  | sl _ _ a p b O Q q v y f M H z=>exact o a _ _ rfl h
 ·cases k with
  | row _ _ _ N a C D f=>exact o a _ _ rfl h
 ·cases k with
  | sc _ _=>
   refine fin none 0 0 rfl ?_;rcases g with rfl | rfl
   ·exact h
   ·exact h
 ·exact h.elim
theorem yY {P:Program} {G:Gh} {s:St} {w:World} {t k e:TypeId} (l:P.underlying t=some (.map k e)) {op:BinOp} {x y av:AV} {c:Value} {ox oy:Operand} (h:gq .mpNil op x y=some av) (m:Rep G x c) (g:Sim G s w) :
  Out P (do eqGuard op t ox oy c (.map none); binOp op t c (.map none)) G s w av s:=by
 simp only [gq] at h;have o:∀ a:Option Nat,c=.map a->j7 op a.isNone=some av->Out P (do eqGuard op t ox oy c (.map none); binOp op t c (.map none)) G s w av s:=by
  intro a p b;subst p;have f:=fU (P:=P) (w:=w) (op:=op) (t:=t) (x:=ox) (y:=oy) (a:=.map a) (b:=.map none) (by simp) (by simp)
  unfold j7 at b;split at b
  ·injection b with b; subst b;refine .quiet g (v:=.bool a.isNone) ?_ (.sc _ rfl);have d:(Op.equal t (.map a) (.map none)).run P w=.ok a.isNone w:=wE l 9999 a w;simp only [Sem.run_bind,f,Result.andThen_ok,binOp];simp [d]
  ·injection b with b; subst b;refine .quiet g (v:=.bool !a.isNone) ?_ (.sc _ rfl);have d:(Op.equal t (.map a) (.map none)).run P w=.ok a.isNone w:=wE l 9999 a w;simp only [Sem.run_bind,f,Result.andThen_ok,binOp];simp [d]
  ·cases b
 unfold wq at h;split at h
 ·obtain ⟨rfl,_⟩:=bH m;exact o none rfl (by simpa using h)
 ·cases m with
  | map _ q u=>exact o (some q.b) rfl (by simpa using h)
 ·cases h
theorem pG {G:Gh}:∀ {es:List (List AV)} {l:List UInt8} {vs:List Value},iN es=some l->Flat G 1 es vs->es.all (aF 1)=true/\∃ d:List Int,vs=d.map (Value.int .u8)/\d.map (fun n=>UInt8.ofNat n.toNat)=l
 | [],l,vs,a,c=>by
  simp [iN] at a; subst a;have:vs=[]:=by have:=c.1; simpa using this
  subst this;exact ⟨rfl,[],rfl,rfl⟩
 | e::es,l,vs,a,c=>by
  simp only [iN] at a;split at a
  ·rename_i u bs b k;injection a with a; subst a;unfold sS at b;split at b
   ·rename_i n;injection b with b; subst b;have g:=c.1;simp at g;cases vs with
    | nil=>simp at g
    | cons v vs=>
     have f:=c.drop 1;simp at f;obtain ⟨p,d,q,t⟩:=pG k f;obtain ⟨_,m⟩:=c.elem (e:=0) rfl;obtain ⟨w,h,o⟩:=m.get (j:=0) rfl;simp at h; subst h;obtain ⟨rfl,_⟩:=bH o;refine ⟨by simp [p,aF,AV.cell],n::d,by simp [q],by simp [t]⟩
   ·cases b
  ·cases a
theorem ol:∀ {es:List (List AV)} {l:List UInt8},iN es=some l->es.all (aF 1)=true
 | [],_,_=>rfl
 | e::es,l,a=>by
  simp only [iN] at a;split at a
  ·rename_i d bs b c;have:=ol c;unfold sS at b;split at b
   ·simp [this,aF,AV.cell]
   ·cases b
  ·cases a
theorem oA:∀ (a:List Int) (r:ByteArray),a.foldl (fun r n=>r.push (UInt8.ofNat n.toNat)) r=⟨r.data++(a.map fun n=>UInt8.ofNat n.toNat).toArray⟩
 | [],r=>by simp
 | n::a,r=>by
  rw [vr,oA a];simp [ByteArray.push]
theorem AK {P:Program} {G:Gh} {s:St} {w:World} {g dst e:TypeId} (C:P.underlying g=some (.slice e)) (z:P.underlying e=some (.int .u8)) (y:P.underlying dst=some .string) {x av:AV} {u:Value} (h:cvI .b2s x s=some av) (H:Rep G x u) (k:Sim G s w) :
  Out P (convert g dst u) G s w av s:=by
 simp only [cvI] at h;split at h
 ·rename_i D;cases f:s.show_ x with
  | none=>simp [f] at h
  | some b=>
   simp [f] at h;obtain ⟨q,m,rfl⟩:=h;obtain ⟨a,cap,O,rfl,N,c,o⟩:=fo k f H (ol m) (by
    rintro M Q J q rfl;simpa [fp] using D)
   obtain ⟨_,t,rfl,d⟩:=pG m c;refine .quiet k (v:=.string ⟨q.toArray⟩) ?_ (.sc _ rfl);rw [run_convert_bytes_string w g dst e a b.length cap C z y];have l:=gR (P:=P) (w:=w) (len:=b.length) (cap:=cap) (a:=a) c o;cases a with
   | none=>
    by_cases p:b=[]
    ·subst p;have:t=[]:=by have:=c.1; simpa using this
     subst this;simp at d; subst d;simp [Conv.bytesToString]
     try rfl
    ·obtain ⟨K,J,v,_⟩:=o p;cases v
   | some a=>
    simp only [Builtin.firstCells,Nat.mul_one] at l;rw [run_bytesToString w a b.length cap t l,oA,d];simp
    try rfl
 ·cases h
end Go.AM
