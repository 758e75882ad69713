/- Part of the claim: see its last text. -/
import Derived.Test.YtjhogglgkjcacaaGreatMc1
import Derived.Test.YtjhogglgkjcacaaGreatMa20
import Derived.Below
set_option linter.all false
set_option maxRecDepth 20000
set_option maxHeartbeats 4000000
namespace Go.Proofs.YtjhogglgkjcacaaGreat
open Go.AM Go.Wb
theorem qU {e:Type} (p:e->Bool):∀ (l:List e) (i:Int),0<=i->(bq p l i = -1/\l.filter (fun x=>!p x)=l)\/∃ (k:Nat) (d:k<l.length),bq p l i=i+k/\(l.take k).filter (fun x=>!p x)=l.take k/\p l[k]=true
 | [],i,_=>.inl ⟨rfl,rfl⟩
 | x::l,i,g=>by
  unfold bq;by_cases a:p x=true
  ·exact .inr ⟨0,by simp,by simp [a],by simp,by simpa using a⟩
  ·simp only [a];rcases qU p l (i+1) (by omega) with ⟨b,c⟩ | ⟨k,d,b,c,f⟩
   ·exact .inl ⟨by simpa using b,by simp [a,c]⟩
   ·refine .inr ⟨k+1,by simp; exact d,?_,?_,by simpa using f⟩
    ·simp; rw [b]; omega
    ·simp [a,c]
def zx (f:Nat) (p:Wb.Step->Bool):Prop:=∀ a:Wb.Step,aG Pg f [a.av] (.bool (p a))
theorem ig (x:Wb.Step):aF 15 x.cells=true:=by
 obtain ⟨_,_,_,_,_,_,_,_,⟨_,_,_,_,_,_⟩⟩:=x; rfl
theorem eF (x:Wb.Step):x.cells.length=15:=by
 obtain ⟨_,_,_,_,_,_,_,_,⟨_,_,_,_,_,_⟩⟩:=x; rfl
theorem ko (l:List Wb.Step) (f:Nat) (p:Wb.Step->Bool) (u:zx f p) (h:Heap) (g c:Nat) (t:h g=some (.row 15 (l.map Step.cells) .live none)) (D:l.length<=68719476736) :
  ACalls Pg 307 [.row g 15 0 l.length,.fn (.func f) [] []] ⟨h,c⟩ fun av s'=>av=.int (bq p l 0)/\s'.h=h:=by
 refine Fn307.calls .frz ?_;unfold Fn307.ac;simp;refine bM 8 Fn307.W0 l (fun i r H=>bq p l 0=bq p r i) (by rfl) (by rfl) ?_ ?_ ?_
 ·simp
 ·intro w m d q b;simp [d,b,bq]
 ·intro i x xs w m e k G d q b;have v:=q0 (x:=(i:Int)+1)
  have C:(l.map Step.cells)[i]?=some x.cells:=by simp [e,k]
  have o:x.cells.take 15=x.cells:=q8 (by rw [eF]; omega)
  have a:=u x;rw [Step.av] at a;simp [d,e,t,k,eF,o];refine ACalls.pure a fun y z=>?_;by_cases a:p x=true
  ·simp [a,b,bq]
  ·simp [a,d,v,b,bq]; omega
theorem oz {p:Wb.Step->Bool} {l:List Wb.Step} {j:Nat} (b:j<l.length):(l.take (j+1)).filter p=(l.take j).filter p++if p l[j]=true then [l[j]] else []:=by
 rw [r7,q3 b,ti];cases a:p l[j] <;> simp [a]
theorem jF (l:List Wb.Step) (f:Nat) (p:Wb.Step->Bool) (al:zx f p) (h:Heap) (g b:Nat) (J:h g=some (.row 15 (l.map Step.cells) .live none)) (bm:g<b) (bx:l.length<=1000000) :
  ACalls Pg 240 [.row g 15 0 l.length,.fn (.func f) [] []] ⟨h,b⟩ fun av s'=>∃ G,av=.row g 15 0 (l.filter fun x=>!p x).length/\s'.h g=some (.row 15 G .live none)/\G.take (l.filter fun x=>!p x).length=(l.filter fun x=>!p x).map Step.cells/\(l.filter fun x=>!p x).length<=G.length/\∀ k,k<b->k≠g->s'.h k=h k:=by
 refine Fn240.calls .keep ?_;unfold Fn240.ac;simp;refine ACalls.at (ko l f p al h g b J (by omega)) fun bi a1=>?_
 simp;rcases qU p l 0 (x7 0) with ⟨t,H⟩ | ⟨i,a6,t,H,ax⟩
 ·simp [t];rw [H];exact ⟨rfl,l.map Step.cells,J,by rw [<-List.length_map (f:=Step.cells),r0],by simp⟩
 ·rw [Int.zero_add] at t;have a7:¬(i:Int) = -1:=by omega
  have bc:=q0 (x:=(i:Int)+1)
  simp [t,a7,bc];obtain ⟨D,w⟩:∃ D:Nat->Slots->St->Prop,D=fun n ar s'=>∃ (a:List Wb.Step) (i j:Nat),i<j/\j+n=l.length/\ar 5=.int i/\ar 6=.int j/\a.length=l.length/\a.take i=(l.take j).filter (fun x=>!p x)/\a.drop j=l.drop j/\s'.h g=some (.row 15 (a.map Step.cells) .live none)/\(∀ k,k<b->k≠g->s'.h k=h k)/\b<=s'.c:=⟨_,rfl⟩;refine cJ Fn240.W0 (by rfl) D (l.length-(i+1)) ?_ ?_
  ·rw [w];refine ⟨l,i,i+1,by omega,by omega,by simp,by simp,rfl,?_,rfl,J,fun _ _ _=>rfl,a1⟩
   rw [oz a6,H,ax]; simp
  ·intro n bN s' Y;rw [w] at Y;obtain ⟨a,i,j,bo,bt,v,m,ai,O,M,o,y,a2⟩:=Y;obtain ⟨u,d⟩:=s';simp at v m;simp only at o y a2;by_cases z:j<l.length
   case neg=>
    have a9:¬(j:Int)<l.length:=by omega
    have ag:i<=l.length:=by omega
    have a':=srI_row_from (sz:=15) (g:=g) (off:=0) ag;have bb:=srI_row_to (sz:=15) (g:=g) (off:=0) ag;have a3:=clI_row (sz:=15) (zs:=[.int 0,.str ⟨#[]⟩,.nil,.nil,.nil,.nil,.str ⟨#[]⟩,.nil,.int 0,.int 0,.int 0,.nil,.str ⟨#[]⟩,.nil,.nil]) (off:=i) (len:=l.length-i) (s:=⟨u,d⟩) o (by decide) (by decide) (by simp; omega)
    have e:(l.filter fun x=>!p x)=a.take i:=by rw [O,q8 (by omega)]
    have a4:(l.filter fun x=>!p x).length=i:=by rw [e,tm]; omega
    simp [v,m,z,a',bb,a3,a4];refine ⟨?_,?_,fun k q c=>by rw [ad c]; exact y k q c⟩
    ·rw [e];rw [List.take_append_of_le_length (by simp; omega),y4,Nat.min_self,y7]
    ·omega
   have a9:(j:Int)<l.length:=by omega
   have K:j<a.length:=by omega
   have N:a[j]=l[j]:=by
    have:=congrArg (·[0]?) M;simp only [s8,wa] at this;rw [q3 K,q3 z] at this;exact ty this
   have P:=al l[j];have Z:¬g=d:=by omega
   have bl:¬d=g:=by omega
   have am:=q0 (x:=(j:Int)+1)
   have bf:=q0 (x:=(i:Int)+1)
   have e:=oz (p:=fun x=>!p x) z;obtain ⟨X,a0⟩:∃ X,X=l[j]:=⟨_,rfl⟩;rw [<-a0] at N P e;have bj:=Step.av;have a5:(a.map Step.cells)[j]?=some X.cells:=by simp [K,N]
   obtain ⟨kind,name,low,aa,S,body,array,subs,⟨ap,ao,W,T,U,Q⟩⟩:=X;rw [Step.cells_mk] at a5;rw [Step.av_mk] at P;simp [m,z,o,N,K,Step.cells_mk];refine ACalls.pure P fun R bk=>?_;by_cases C:p (.mk kind name low aa S body array subs (.mk ap ao W T U Q))=true
   ·simp [C,m,am];refine ⟨n-1,by omega,?_⟩
    rw [w];refine ⟨a,i,j+1,by omega,by omega,by simp [v],by simp,ai,?_,?_,?_,fun k q c=>?_,by show b<=R; omega⟩
    ·rw [e,O]; simp [C]
    ·have:=congrArg (·.drop 1) M;simpa [B2] using this
    ·show upd u d _ g=_;rw [ad Z]; exact o
    ·show upd u d _ k=_;rw [qv]; exact y k q c
   ·have a8:i<l.length:=by omega
    have ab:i<a.length:=by omega
    simp [C,v,m,am,bf,a8,o,Z,ab,eF];refine ⟨n-1,by omega,?_⟩
    rw [w];refine ⟨a.set i (.mk kind name low aa S body array subs (.mk ap ao W T U Q)),i+1,j+1,by omega,by omega,by simp,by simp,by simp [ai],?_,?_,?_,fun k q c=>?_,by show b<=R; omega⟩
    ·rw [e,<-O,r7,List.take_set_of_le (q5 _),List.getElem?_set_self ab];simp [C]
    ·rw [List.drop_set_of_lt (by omega)]
     have:=congrArg (·.drop 1) M;simpa [B2] using this
    ·show upd _ g _ g=_;rw [ae,List.map_set,Step.cells_mk,u2 (by rw [eF]; omega)]
    ·show upd (upd u d _) g _ k=_;rw [ad c,qv]; exact y k q c
theorem _root_.Go.AM.slnW_row {g sz off len:Nat} {s:St} {F:Bx (AV->St->Prop)} (h:len=0->F.v (.bool true) s) (h':F.v (.bool false) s):@vo .eql (.row g sz off len) s F:=by
 show (BinOp.eql=.eql\/BinOp.eql=.neq)/\_;refine ⟨.inl rfl,?_⟩;cases len with
 | zero=>exact ⟨h rfl,h'⟩
 | succ n=>exact h'
def gT (h:Heap) (x:AV) (l:List Wb.Step):Prop:=(l=[]/\∃ b,x=.sl [] b)\/∃ a d c,x=.row a 15 0 l.length/\h a=some (.row 15 (l.map Step.cells) d c)
theorem mB (l:List Wb.Step) (y:l.length<=1000000) (x:AV) (b:Heap) (a:Nat) (q:gT b x l) :
  ACalls Pg 241 [x] ⟨b,a⟩ fun av s'=>Fr a b s'.h s'.c/\((av=.sl [] true/\l=[])\/∃ g,a<=g/\g<s'.c/\av=.row g 15 0 l.length/\s'.h g=some (.row 15 (l.map Step.cells) .live none)):=by
 have k:(l.map Step.cells).all (aF 15)=true:=rx.2 fun v m=>by obtain ⟨t,_,rfl⟩:=rf.1 m; exact ig t
 have e:∀ s:St,s.h=b->s.show_ x=some (l.map Step.cells)/\fp x 15=true->apI 15 272 .plain (.sl [] true) x s=some (.row s.c 15 0 l.length,AM.newRow 15 (l.map Step.cells) s):=by
  intro s C ⟨f,h⟩;have z:0+(l.map Step.cells).length<=68719476736:=by simp; omega
  simp only [apI,f,h,k];simp;omega
 refine Fn241.calls .keep ?_;unfold Fn241.ac;rcases q with ⟨rfl,u,rfl⟩ | ⟨w,G,D,rfl,o⟩
 ·have c:=e ⟨b,a⟩ rfl ⟨rfl,rfl⟩;simp;refine lL (fun d=>?_) ?_
  ·simp;exact Fr.refl _ _
  ·simp [bsI,az];simp at c;simp [c];exact ⟨(Fr.refl b a).upd (q5 _) (rv _),a,q5 _,q7 _,rfl,ae⟩
 ·have p:(l.map Step.cells).take l.length=l.map Step.cells:=by rw [<-List.length_map (f:=Step.cells),r0]
  have c:=e ⟨b,a⟩ rfl ⟨by simp [St.show_,o,p],rfl⟩
  simp;refine slnW_row (fun d=>?_) ?_
  ·have:l=[]:=s6.1 d;simp [this];exact Fr.refl _ _
  ·simp [bsI,az,c];exact ⟨(Fr.refl b a).upd (q5 _) (rv _),a,q5 _,q7 _,rfl,ae⟩
theorem jt (f:Nat) (b:Bool) (s:St):ACalls Pg 240 [.sl [] b,.fn (.func f) [] []] s fun av s'=>av=.sl [] b/\s'.h=s.h:=by
 have e:ACalls Pg 307 [.sl [] false,.fn (.func f) [] []] s fun av s'=>av=.int (-1)/\s'.h=s.h:=by
  refine Fn307.calls .frz ?_;unfold Fn307.ac;simp;refine bM 8 Fn307.W0 ([]:List Wb.Step) (fun i r p=>True) (by rfl) (by rfl) ?_ ?_ ?_
  ·simp
  ·intro g a c m l;simp at c;simp [c]
  ·intro i q xs g a d; simp at d
 obtain ⟨k,h⟩:=s;refine Fn240.calls .keep ?_;unfold Fn240.ac;simp;refine ACalls.at e fun a o=>?_;simp
theorem ya (s:Wb.Step):aG Pg 242 [s.av] (.bool (!isLoop s)):=by
 intro h;obtain ⟨kind,name,low,f,b,body,array,subs,⟨g,n,e,c,d,a⟩⟩:=s;rw [Step.av_mk];refine Fn242.calls .frz ?_;unfold Fn242.ac;simp [isLoop,Step.kind];rfl
theorem xD (l:List Wb.Step) (o:l.length<=1000000) (x:AV) (a:Heap) (f:Nat) (p:gT a x l) :
  ACalls Pg 170 [x] ⟨a,f⟩ fun av s'=>av=row ((l.filter isLoop).map Step.cells)/\s'.h=a:=by
 refine Fn170.calls .frz ?_;unfold Fn170.ac;have M:norm x=x\/(l=[]/\norm x=.sl [] false):=by
  rcases p with ⟨rfl,P,rfl⟩ | ⟨Q,T,S,rfl,_⟩
  ·exact .inr ⟨rfl,rfl⟩
  ·exact .inl rfl
 have N:gT a (norm x) l:=by
  rcases M with C | ⟨b,c⟩
  ·rw [C]; exact p
  ·rw [c]; exact .inl ⟨b,false,rfl⟩
 have G:∀ {e:List Wb.Step},(e.filter fun x=>!(!isLoop x))=e.filter isLoop:=fun {e}=>by simp
 simp;refine (mB l o _ a f N).mono ?_;rintro av ⟨b,g⟩ D ⟨d,h⟩;simp only at D d h;rcases h with ⟨rfl,rfl⟩ | ⟨z,R,J,rfl,H⟩
 ·simp;refine (jt 242 false ⟨b,g⟩).mono ?_;rintro av ⟨c,y⟩ k ⟨rfl,m⟩;simp only at m;subst m;simp;exact d.retH
 ·simp;refine (jF l 242 (fun x=>!isLoop x) ya b z g H J o).mono ?_;rintro av ⟨c,y⟩ k ⟨O,rfl,t,u,v,w⟩;simp only at k t w;rw [G] at u v ⊢;simp [t,v,u];exact aA fun q K=>by rw [qv,w q (by omega) (by omega)]; exact d.h q K
mutual
def dm:Wb.Expr->List Wb.Expr
 | .mk op n form array subs args=>if op=3 then [.mk op n form array subs args] else bA args
def bA:List Wb.Expr->List Wb.Expr
 | []=>[]
 | e::es=>dm e++bA es
end
mutual
theorem jC:∀ e:Wb.Expr,(dm e).length=cM e
 | .mk op n form array subs args=>by
  simp only [dm,cM];split
  ·rfl
  ·exact kW args
theorem kW:∀ l:List Wb.Expr,(bA l).length=bX l
 | []=>rfl
 | e::es=>by simp [bA,bX,jC e,kW es]
end
theorem kV:∀ (a b:List Wb.Expr),bA (a++b)=bA a++bA b
 | [],b=>by simp [bA]
 | c::a,b=>by simp [bA,kV a b]
theorem rH (x:Wb.Expr):aF 7 x.cells=true:=by
 obtain ⟨_,_,_,_,_,_⟩:=x; rfl
theorem xE:∀ (g:Nat) (x:Wb.Expr),SizeOf.sizeOf x<=g->cM x<=4096->aG Pg 172 [x.av] (row ((dm x).map Expr.cells)):=by
 intro g
 induction g with
 | zero=>intro x y; obtain ⟨_,_,_,_,_,_⟩:=x; simp at y
 | succ g ar=>
  rintro x y ab ⟨J,c⟩;refine ACalls.small fun P=>?_;obtain ⟨T,n,Y,array,subs,a⟩:=x;rw [Expr.av_mk] at P ⊢;have a3:a.length<=68719476736:=by simp at P; omega
  refine Fn172.calls .frz ?_;unfold Fn172.ac;by_cases o:T=3
  ·subst o;simp [bsI,az,dm,Expr.cells_mk]
  simp [o];have ag:dm (.mk T n Y array subs a)=bA a:=by simp [dm,o]
  rw [ag];have a5:bX a<=4096:=by simpa [cM,o] using ab
  obtain ⟨u,p⟩:∃ u:Nat->List Wb.Expr->Slots->St->Prop,u=fun i r ax e=>∃ go,ax 3=.row go 7 0 (bA (a.take i)).length/\c<go/\go<e.c/\e.h go=some (.row 7 ((bA (a.take i)).map Expr.cells) .live none)/\∀ b,b<c->e.h b=J b:=⟨_,rfl⟩;refine aZ 14 Fn172.W0 a u (by rfl) (by rfl) ?_ ?_ ?_
  ·rw [p];refine ⟨by simp,c+1,by simp [bA],by omega,by show c+1<c+1+1; omega,by simp [bA],fun b q=>?_⟩
   show upd (upd J c _) (c+1) _ b=_;rw [qv,qv]
  ·intro a1 e t k;rw [p,r0] at k;obtain ⟨go,h,ap,z,l,m⟩:=k;obtain ⟨H,G⟩:=e;simp at h l;simp only at z m;have al:List.take (bA a).length ((bA a).map Expr.cells)=(bA a).map Expr.cells:=by rw [<-List.length_map (f:=Expr.cells),r0]
   simp [t,h,l,al];exact aA fun b q=>by rw [qv]; exact m b q
  ·intro i x xs a1 e N R O t k;rw [p] at k;obtain ⟨go,h,ap,z,l,m⟩:=k;obtain ⟨H,G⟩:=e;simp at h;simp only at z l m;have am:=q0 (x:=(i:Int)+1)
   have aa:x∈a:=aU O;have ai:SizeOf.sizeOf x<=g:=by
    have:=w8 aa;simp at y; omega
   have a4:bX a=bX (a.take i)+(cM x+bX xs):=by
    conv=>lhs; rw [O]
    rw [kT]; rfl
   have a7:(bA (a.take i)).length=bX (a.take i):=kW _;have Q:a.take (i+1)=a.take i++[x]:=by rw [r7,q3 N,R]; rfl
   have M:=ar x ai (by omega)
   have a6:=jC x;obtain ⟨U,S,v,D,W,C⟩:=x;rw [Expr.av_mk] at M;simp [t,N,R,Expr.cells_mk];refine ACalls.pure M fun d a2=>?_;obtain ⟨f,w⟩:∃ f,f=upd H G (some (.row 7 [[.int U,.int S,.int v.const,row (v.terms.map Term.cells),.str D,row (W.map Form.cells),row (C.map Expr.cells)]] .live none)):=⟨_,rfl⟩;rw [<-w];have Z:f go=some (.row 7 ((bA (a.take i)).map Expr.cells) .live none):=by rw [w,qv]; exact l
   have K:=iM (sz:=7) (bytes:=112) (md:=.plain) (es:=(bA (a.take i)).map Expr.cells) (xs:=(dm (.mk U S v D W C)).map Expr.cells) (b:=false) (len:=(bA (a.take i)).length) (s:=⟨f,d⟩) (by simp) Z (by simp) (by decide) (by decide) (by decide) (fun a8 ao=>by obtain ⟨a0,_,rfl⟩:=rf.1 ao; exact rH a0) (by simp only [so]; omega)
   simp only [row] at K ⊢;simp [h,K,am,t];rw [p];refine ⟨d,?_,by omega,by show d<d+1; omega,?_,fun b q=>?_⟩
   ·rw [Q,kV]; simp [bA]
   ·rw [Q,kV];show upd (upd f go _) d _ d=_;rw [ae]; simp [bA]
   ·show upd (upd f go _) d _ b=_;rw [qv,qv,w,qv]; exact m b q
mutual
def gL (around:List Wb.Step):Wb.Step->List (Wb.Step×List Wb.Step)
 | .mk kind name low high conds body array subs expr=>(.mk kind name low high conds body array subs expr,around)::bS (around++[.mk kind name low high conds body array subs expr]) body
def bS (around:List Wb.Step):List Wb.Step->List (Wb.Step×List Wb.Step)
 | []=>[]
 | s::ss=>gL around s++bS around ss
end
theorem nQ (around:List Wb.Step):∀ a b:List Wb.Step,bS around (a++b)=bS around a++bS around b
 | [],b=>by simp [bS]
 | c::a,b=>by simp [bS,nQ around a b]
def pA (h:Heap) (k:Nat):Prop:=∀ d a c b,h k≠some (.row d a c (some b))
structure Sees (fn:Nat) (a b:List AV) (I:List (Wb.Step×List Wb.Step)->(Nat->Prop)->Heap->Prop) (M:Nat) (ok:Wb.Step->Prop):Prop where
 frame:∀ {v F h h'},I v F h->(∀ k,F k->h' k=h k)->I v F h'
 par:∀ {v F h},I v F h->∀ k,F k->pA h k
 call:∀ v F X (around:List Wb.Step) x h c,v.length<M->ok X->I v F h->(∀ k,F k->k<c)->gT h x around->around.length<=1000 ->
  ACalls Pg fn (a++[Wb.Step.av X,x]++b) ⟨h,c⟩ fun av s'=>∃ F',I (v++[(X,around)]) F' s'.h/\(∀ k,F' k->F k\/(c<=k/\k<s'.c))/\(∀ k,k<c->¬F k->s'.h k=h k)/\∀ k,c<=k->pA s'.h k
def ArAt (h:Heap) (F:Nat->Prop) (b:Nat) (x:AV) (l:List Wb.Step):Prop:=(l=[]/\x=.sl [] true)\/∃ a c,x=.row a 15 0 l.length/\h a=some (.row 15 (l.map Step.cells) .live c)/\¬F a/\a<b
def ArSt (m h:Heap) (F:Nat->Prop) (l c:Nat) (x:AV):Prop:=∀ f e d b k,au x f->m f=some (.row e d b k)->∃ g,h f=some (.row e d g k) /\
 (g=.live\/∃ a,g=.lent a/\l<=a/\a<c/\¬F a/\(h a=none\/∃ e d b o,h a=some (.row e d b (some o))/\(b=.live\/∃ j,b=.lent j/\j<c/\¬F j/\h j=none)))
theorem rG:∀ (around:List Wb.Step) (x:Wb.Step),(gL around x).length=count x
 | around,.mk kind name low high conds body array subs expr=>by
  have:=fun ar=>walkL_len' ar body;simp [gL,count,this]; omega
where
 walkL_len':∀ (around:List Wb.Step) (l:List Wb.Step),(bS around l).length=aw l
  | around,[]=>rfl
  | around,s::ss=>by simp [bS,aw,rG around s,walkL_len' around ss]
theorem wR (around:List Wb.Step) (l:List Wb.Step):(bS around l).length=aw l:=rG.walkL_len' around l
@[simp] theorem _root_.Go.AM.finW_fork_re {P:Program} {a:Option Nat} {b:Nat×Option (Nat×Bool)×I} {re:List (Nat×Option (Nat×Bool)×I)} {r:List AO} {K:Slots->St->Prop} {sl:Slots} {v:AV} {s:St} :
  aT P a .fork (b::re) r K sl v s=(fG b sl s/\aT P a .fork re r K sl v s):=by simp [aT,dt,and_assoc]
theorem oT {fn:Nat} {a b:List AV} {I:List (Wb.Step×List Wb.Step)->(Nat->Prop)->Heap->Prop} {cq:Nat} {ok:Wb.Step->Prop} (S:Sees fn a b I cq ok):∀ (al:Nat) (l:List Wb.Step),aw l<=al->∀ (v:List (Wb.Step×List Wb.Step)) (F:Nat->Prop) (around:List Wb.Step) (x:AV) (t:Heap) (g:Nat),
  v.length+aw l<=cq->(∀ y∈bS around l,ok y.1)->I v F t->(∀ k,F k->k<g)->ArAt t F g x around->around.length+al<=1000 ->
  ACalls Pg 168 [row (l.map Step.cells),x,.fn (.func fn) a b] ⟨t,g⟩ fun av s'=>∃ K,I (v++bS around l) K s'.h/\(∀ k,K k->F k\/(g<=k/\k<s'.c))/\(∀ k,k<g->¬F k->¬au x k->s'.h k=t k)/\(∀ k,g<=k->pA s'.h k) /\
   (∀ c sz es q m,au x c->t c=some (.row sz es q m)->∃ u,s'.h c=some (.row sz es u m)/\(u=.live\/∃ k,u=.lent k/\g<=k/\k<s'.c/\¬K k/\s'.h k=none)):=by
 intro al
 induction al using Nat.strongRecOn with
 | _ al e6=>
  intro l f9 v F around x t g f2 de d3 d2 a4 f3;refine ACalls.small fun e4=>?_;have ga:l.length<=68719476736:=by simp at e4; omega
  refine ACalls.dropF g (R:=fun av s'=>∃ K,I (v++bS around l) K s'.h/\(∀ k,K k->F k\/(g<=k/\k<s'.c))/\(∀ k,k<g->¬F k->¬au x k->s'.h k=t k)/\ArSt t s'.h K g s'.c x) ?_ ?_
  ·refine Fn168.calls .keep ?_;unfold Fn168.ac;simp;obtain ⟨a6,bb⟩:∃ a6:Nat->List Wb.Step->Slots->St->Prop,a6=fun i r gg s'=>∃ C,I (v++bS around (l.take i)) C s'.h/\(∀ k,C k->F k\/(g<=k/\k<s'.c))/\ArSt t s'.h C g s'.c x/\g<=s'.c/\(∀ k,k<g->¬F k->¬au x k->s'.h k=t k):=⟨_,rfl⟩;refine aZ 10 Fn168.W0 l a6 (by rfl) (by rfl) ?_ ?_ ?_
   ·rw [bb];refine ⟨by simp,F,by simpa [bS] using d3,fun k e=>.inl e,?_,q5 _,fun _ _ _ _=>rfl⟩
    intro c sz es q m G o;rcases a4 with ⟨_,rfl⟩ | ⟨cx,cl,rfl,h,_⟩
    ·exact absurd G aL
    ·have:=aq.1 G; subst this;rw [h] at o; injection o with o; injection o with a7 a8 bW ao;subst bW;exact ⟨.live,by show t c=_; rw [h,a7,a8,ao],.inl rfl⟩
   ·intro f1 s' a3 ax;rw [bb,r0] at ax;obtain ⟨C,R,O,Q,bm,bo⟩:=ax;simp [a3];exact ⟨C,R,O,bo,Q⟩
   ·intro i X xs f1 s' c6 ds c' a3 ax;rw [bb] at ax;obtain ⟨C,R,O,Q,bm,bo⟩:=ax;obtain ⟨d,w⟩:=s';simp only at R O Q bm bo;have dk:=q0 (x:=(i:Int)+1)
    have c2:=fg c';have dn:=wR around (l.take i);have f8:1<=count X:=by obtain ⟨_,_,_,_,_,_,_,_,_⟩:=X; simp [count]
    have di:l.take (i+1)=l.take i++[X]:=by rw [r7,q3 c6,ds]; rfl
    have a':∀ k,C k->k<w:=fun k e=>by
     rcases O k e with d | d
     ·have:=d2 k d; omega
     ·omega
    have b1:gT d (norm x) around/\(∀ k,au x k->k<g/\¬C k):=by
     rcases a4 with ⟨rfl,rfl⟩ | ⟨c,m,rfl,h,D,Y⟩
     ·exact ⟨.inl ⟨rfl,false,rfl⟩,fun k e=>absurd e aL⟩
     ·obtain ⟨u,H,_⟩:=Q c _ _ _ _ (aq.2 rfl) h;refine ⟨.inr ⟨c,u,m,rfl,H⟩,fun k e=>?_⟩;have:=aq.1 e; subst this;refine ⟨Y,fun p=>?_⟩;rcases O _ p with d | d
      ·exact D d
      ·omega
    obtain ⟨ar,bj⟩:∃ ar,ar=upd d w (some (.row 15 [X.cells] .live none)):=⟨_,rfl⟩;have ab:∀ k,k<w->ar k=d k:=fun k e=>by rw [bj,qv]
    have e5:gT ar (norm x) around:=by
     rcases a4 with ⟨rfl,rfl⟩ | ⟨c,m,rfl,h,D,Y⟩
     ·exact .inl ⟨rfl,false,rfl⟩
     ·obtain ⟨u,H,_⟩:=Q c _ _ _ _ (aq.2 rfl) h;exact .inr ⟨c,u,m,rfl,(ab c (by omega)).trans H⟩
    have b8:bS around l=bS around (l.take i)++(gL around X++bS around xs):=by
     conv=>lhs; rw [c']
     rw [nQ]; rfl
    have eM:ok X:=by
     refine de (X,around) ?_;rw [b8];obtain ⟨_,_,_,_,_,_,_,_,_⟩:=X;simp [gL]
    have b3:=S.call (v++bS around (l.take i)) C X around (norm x) ar (w+1) (by simp [dn]; omega) eM (S.frame R fun k e=>ab k (a' k e)) (fun k e=>by have:=a' k e; omega) e5 (by omega)
    have f4:∀ y∈X.cells,AV.cell y=true:=fun y b'=>by
     have:=ig X;simp only [aF,q9,rx] at this;exact this.2 y b'
    obtain ⟨kind,name,low,b5,bN,body,array,subs,⟨ch,cc,ap,b0,a9,bx⟩⟩:=X;have f5:aw body<aw l:=by simp [count] at c2; omega
    rw [Step.av_mk] at b3;simp only [u0,List.singleton_append,t1,u5] at b3;simp [a3,c6,ds,Step.cells_mk];rw [Step.cells_mk] at bj;rw [<-bj];refine b3.mono ?_;rintro av ⟨h,f⟩ d' ⟨M,ca,T,ag,e9⟩;simp only at d' ca T ag e9;have ez:¬C w:=fun e=>by have:=a' w e; omega
    have b2:h w=some (.row 15 [[.int kind,.str name,row (low.map Bound.cells),row (b5.map Bound.cells),row (bN.map Form.cells),row (body.map Step.cells),.str array,row (subs.map Form.cells),.int ch,.int cc,.int ap.const,row (ap.terms.map Term.cells),.str b0,row (a9.map Form.cells),row (bx.map Expr.cells)]] .live none):=(ag w (by omega) ez).trans (by rw [bj,ae])
    have Z:∀ k,M k->k<f:=fun k e=>by
     rcases T k e with d | d
     ·have:=a' k d; omega
     ·omega
    obtain ⟨X,bc⟩:∃ X:Wb.Step,X=.mk kind name low b5 bN body array subs (.mk ch cc ap b0 a9 bx):=⟨_,rfl⟩;have a0:X.cells=[.int kind,.str name,row (low.map Bound.cells),row (b5.map Bound.cells),row (bN.map Form.cells),row (body.map Step.cells),.str array,row (subs.map Form.cells),.int ch,.int cc,.int ap.const,row (ap.terms.map Term.cells),.str b0,row (a9.map Form.cells),row (bx.map Expr.cells)]:=by rw [bc,Step.cells_mk]
    rw [<-bc] at ca di c2 b8;have f7:count X=1+aw body:=by rw [bc]; rfl
    have dl:gL around X=(X,around)::bS (around++[X]) body:=by rw [bc]; rfl
    rw [<-a0] at b2;have bf:=ig X;have c1:¬w=f:=by omega
    have da:∀ (D:Heap) (a5:AV),ArAt D M (f+1) a5 (around++[X])->(∀ k,au a5 k->k=f)->(∀ k,M k->D k=h k)->(∀ k,k<g->¬au x k->D k=h k) ->
      (∀ c sz es q m,au x c->t c=some (.row sz es q m)->D c=some (.row sz es (.lent f) m))->(∀ sz es q m,D f=some (.row sz es q m)->(∃ c,au x c)->∃ ai,m=some ai) ->
      ACalls Pg 168 [row (body.map Step.cells),a5,.fn (.func fn) a b] ⟨D,f+1⟩ fun av s'=>f+1<=s'.c/\∀ d0,a6 (i+1) xs d0 s':=by
     intro D a5 dp b9 eg ey eo e2;have eP:∀ y∈bS (around++[X]) body,ok y.1:=fun y b'=>de y (by
      rw [b8,dl]; simp [b'])
     have e3:=e6 (aw body) (by omega) body (q5 _) (v++(bS around (l.take i)++[(X,around)])) M (around++[X]) a5 D (f+1) (by simp [dn]; omega) eP (S.frame ca eg) (fun k e=>by have:=Z k e; omega) dp (by simp; omega)
     refine e3.mono ?_;rintro av ⟨Y,am⟩ bi ⟨d1,dN,cn,cp,fx,dW⟩;refine ⟨bi,fun d0=>?_⟩;simp only at bi dN cn cp fx dW;rw [bb];refine ⟨d1,?_,fun k e=>?_,?_,by show g<=am; omega,fun k e bk bl=>?_⟩
     ·rw [di,nQ];simpa [bS,dl] using dN
     ·rcases cn k e with d | d
      ·rcases T k d with d | d
       ·rcases O k d with d | d
        ·exact .inl d
        ·exact .inr (by show g<=k/\k<am; omega)
       ·exact .inr (by show g<=k/\k<am; omega)
      ·exact .inr (by show g<=k/\k<am; omega)
     ·intro c sz es q m G o;have c5:=(b1.2 c G).1;have em:=(b1.2 c G).2;have en:¬M c:=fun p=>by
       rcases T c p with d | d
       ·exact em d
       ·omega
      have el:Y c=some (.row sz es (.lent f) m):=(cp c (by omega) en fun N=>by have:=b9 c N; omega).trans (eo c sz es q m G o)
      refine ⟨.lent f,el,.inr ⟨f,rfl,by omega,by show f<am; omega,fun p=>?_,?_⟩⟩
      ·rcases cn f p with d | d
       ·have:=Z f d; omega
       ·omega
      ·right;rcases dp with ⟨_,rfl⟩ | ⟨cs,gf,rfl,H,_⟩
       ·rename_i z; simp at z
       ·have:=b9 cs (aq.2 rfl);subst this;obtain ⟨ai,rfl⟩:=e2 _ _ _ _ H ⟨c,G⟩;obtain ⟨u,fz,f0⟩:=dW cs _ _ _ _ (aq.2 rfl) H;refine ⟨_,_,u,ai,fz,f0.imp id ?_⟩;rintro ⟨j,z,fa,cb,bt,U⟩;exact ⟨j,z,cb,bt,U⟩
     ·have c9:¬C k:=fun p=>by
       rcases O k p with d | d
       ·exact bk d
       ·omega
      have b7:¬M k:=fun p=>by
       rcases T k p with d | d
       ·exact c9 d
       ·omega
      show Y k=t k;rw [cp k (by omega) b7 (fun N=>by have:=b9 k N; omega),ey k e bl,ag k (by omega) c9,ab k (by omega)]
      exact bo k e bk bl
    rcases a4 with ⟨rfl,rfl⟩ | ⟨c,m,rfl,dv,gb,gc⟩
    ·have a1:=ep (sz:=15) (zs:=[.int 0,.str ⟨#[]⟩,.nil,.nil,.nil,.nil,.str ⟨#[]⟩,.nil,.int 0,.int 0,.int 0,.nil,.str ⟨#[]⟩,.nil,.nil]) (by rfl) (by decide) bf ⟨h,f⟩
     have P:=dr (sz:=15) (bytes:=272) (md:=.fork) (es:=[]) (xs:=[X.cells]) (b:=true) (s:=⟨h,f⟩) (by decide) (by decide) (by decide) (by simp) (fun z ef=>by rw [sa.1 ef]; exact bf) (by simp) (.inr rfl)
     simp at P;have a2:=da (upd h f (some (.row 15 [X.cells] .live none))) (.row f 15 0 1) (.inr ⟨f,none,rfl,by simp,fun p=>by have:=Z f p; omega,by omega⟩) (fun k e=>aq.1 e) (fun k e=>ad (by have:=Z k e; omega)) (fun k e _=>ad (by omega)) (fun c _ _ _ _ N=>absurd N aL) (fun _ _ _ _ _ ⟨c,N⟩=>absurd N aL)
     rw [a0] at a1 P a2;simp [b2,a0,a1,P,c1];refine a2.mono ?_;rintro av s' d4 ⟨bi,b4⟩;simp [a3,dk];exact b4 _
    ·obtain ⟨u,H,J⟩:=Q c _ _ _ _ (aq.2 rfl) dv;have c4:=(b1.2 c (aq.2 rfl)).2;have et:¬M c:=fun p=>by
      rcases T c p with d | d
      ·exact c4 d
      ·omega
     have c3:h c=some (.row 15 (around.map Step.cells) u m):=(ag c (by omega) c4).trans ((ab c (by omega)).trans H)
     have a1:=ep (sz:=15) (zs:=[.int 0,.str ⟨#[]⟩,.nil,.nil,.nil,.nil,.str ⟨#[]⟩,.nil,.int 0,.int 0,.int 0,.nil,.str ⟨#[]⟩,.nil,.nil]) (by rfl) (by decide) bf ⟨h,f⟩
     have P:∃ W:Heap,apI 15 272 .fork (.row c 15 0 around.length) (.sl [X.cells] true) ⟨h,f⟩=some (.row f 15 0 (around.length+1),⟨upd (upd W c (some (.row 15 (around.map Step.cells) (.lent f) m))) f (some (.row 15 (around.map Step.cells++[X.cells]) .live (some c))),f+1⟩)/\(∀ k,M k->W k=h k)/\(∀ k,k<g->W k=h k)/\W w=h w:=by
      have c0:[X.cells].all (aF 15)=true:=by simp only [yn,bf,List.all_nil]; rfl
      have f':around.length+[X.cells].length<=68719476736:=by simp; omega
      rcases J with rfl | ⟨k,rfl,fa,cb,bt,U⟩
      ·refine ⟨h,?_,fun _ _=>rfl,fun _ _=>rfl,rfl⟩;simp only [apI,St.show_,c0,fp,c3,rR];simp;omega
      ·have b7:¬M k:=fun p=>by
        rcases T k p with d | d
        ·exact bt d
        ·omega
       have b6:h k=d k:=(ag k (by omega) bt).trans (ab k cb)
       have ex:Heap.gone h k=true:=by
        unfold Heap.gone;rw [b6];rcases U with U | ⟨sz,es,q,ai,U,fb⟩
        ·rw [U]
        ·rw [U];rcases fb with rfl | ⟨j,rfl,fd,fm,fs⟩
         ·rfl
         ·have:h j=none:=(ag j (by omega) fm).trans ((ab j fd).trans fs)
          simp [this]
       refine ⟨upd h k none,?_,fun e' c7=>ad fun z=>b7 (z▸c7),fun e' c7=>ad (by omega),ad (by omega)⟩
       simp only [apI,St.show_,c0,fp,c3,rR,ex];simp;omega
     obtain ⟨W,P,eW,e0,e1⟩:=P;have a2:=da (upd (upd W c (some (.row 15 (around.map Step.cells) (.lent f) m))) f (some (.row 15 (around.map Step.cells++[X.cells]) .live (some c)))) (.row f 15 0 (around.length+1)) (.inr ⟨f,some c,by simp,by rw [ae]; simp,fun p=>by have:=Z f p; omega,by omega⟩) (fun k e=>aq.1 e) (fun k e=>by rw [ad (by have:=Z k e; omega),ad (show k≠c from fun z=>et (z▸e))]; exact eW k e) (fun k e bl=>by rw [qv,ad (show k≠c from fun z=>bl (aq.2 z))]; exact e0 k e)
      (fun cx sz es q cl N o=>by
       have:=aq.1 N; subst this;rw [dv] at o; injection o with o; injection o with a7 a8 bW ao;rw [qv,ae,a7,a8,ao]) (fun sz es q cl o _=>by rw [ae] at o; injection o with o; injection o with a7 a8 bW ao; exact ⟨c,ao.symm⟩)
     have ea:¬w=c:=by omega
     rw [a0] at a1 P a2;simp [b2,a0,a1,P,c1,ea,e1];refine a2.mono ?_;rintro av s' d4 ⟨bi,b4⟩;simp [a3,dk];exact b4 _
  ·rintro av s' f6 ⟨K,R,O,Q,bm⟩;refine ⟨K,S.frame R fun k e=>jA (S.par R k e),O,fun k e a b=>(fM e).trans (Q k e a b),fun k e sz es q ai o=>?_,?_⟩
   ·obtain ⟨H,J⟩:=eC o;rcases J with J | J
    ·omega
    ·exact J _ _ _ _ rfl
   ·intro c sz es q m G o;obtain ⟨u,H,J⟩:=bm c sz es q m G o;have c5:c<g:=by
     rcases a4 with ⟨_,rfl⟩ | ⟨cx,cl,rfl,_,_,Y⟩
     ·exact absurd G aL
     ·have:=aq.1 G; omega
    refine ⟨u,(fM c5).trans H,?_⟩;rcases J with J | ⟨k,z,c8,b6,bk,aa⟩
    ·exact .inl J
    ·refine .inr ⟨k,z,c8,b6,bk,?_⟩;rcases aa with aa | ⟨gk,a9,gi,ge,aa,_⟩
     ·show AM.dropF g s'.h k=none;rw [jA (fun sz es q ai d=>by rw [aa] at d; cases d)]; exact aa
     ·exact uX c8 aa
def dq (y:Wb.Step×List Wb.Step):Bool:=decide (Step.kind y.1=3)
theorem la:∀ (around:List Wb.Step) (x:Wb.Step),dU around x=((gL around x).filter dq).map fun y=>(y.1,y.2.filter isLoop)
 | around,.mk kind name low high conds body array subs expr=>by
  have ih:=stmts_walkL' (around++[.mk kind name low high conds body array subs expr]) body;simp only [dU,gL,EG,dq,Step.kind];split
  ·rename_i h;subst h;simp [ih]
  ·rename_i h;simp [h,ih]
where
 stmts_walkL':∀ (around:List Wb.Step) (l:List Wb.Step),bn around l=((bS around l).filter dq).map fun y=>(y.1,y.2.filter isLoop)
  | around,[]=>rfl
  | around,s::ss=>by simp only [bn,bS,ti,sh,la around s,stmts_walkL' around ss]
theorem jg (around:List Wb.Step) (l:List Wb.Step):bn around l=((bS around l).filter dq).map fun y=>(y.1,y.2.filter isLoop):=la.stmts_walkL' around l
theorem yv (X:Wb.Step) (x:AV) (z:x.val=true) (a:Nat) (n:Int) (w:0<=n) (y:n<=1000000) (c:Heap) (b:Nat) (f:c a=some (.row 1 [[.int n]] .live none)) (h:a<b) :
  ACalls Pg 357 [X.av,x,.ptr a 0 0] ⟨c,b⟩ fun av s'=>s'.h a=some (.row 1 [[.int (if Step.kind X=3 then n+1 else n)]] .live none)/\∀ k,k≠a->s'.h k=c k:=by
 obtain ⟨kind,name,low,u,o,body,array,subs,⟨D,C,t,p,q,m⟩⟩:=X;rw [Step.av_mk];refine Fn357.calls .frz ?_;unfold Fn357.ac;have d:¬a=b:=by omega
 have g:=q0 (x:=n+1)
 by_cases e:kind=3
 ·simp [e,f,d,g,Step.kind];refine ⟨by rw [retH_at h,ae],retH_out fun k v l=>by rw [ad l,qv]⟩
 ·simp [e,f,d,g,Step.kind]
theorem sG (l:List Wb.Step) (Z:aw l<=900):aG Pg 326 [row (l.map Step.cells)] (.int (iC l)):=by
 rintro ⟨J,b⟩;refine Fn326.calls .frz ?_;unfold Fn326.ac;simp;have K:Sees 357 [] [.ptr b 0 0] (fun g F f=>(∀ a,F a↔a=b)/\f b=some (.row 1 [[.int ((g.filter dq).length:Nat)]] .live none)) 1000 (fun _=>True):=by
  refine ⟨fun {g F f W} c N=>⟨c.1,(N b ((c.1 b).2 rfl)).trans c.2⟩,fun {g F f} c a d C q z x e=>?_,fun g F X around D f G aa _ c u R Y=>?_⟩
  ·have:=(c.1 a).1 d;subst this;rw [c.2] at e; cases e
  ·have v:(g.filter dq).length<=g.length:=vn _ _;have S:D.val=true:=by
    rcases R with ⟨_,U,rfl⟩ | ⟨_,_,_,rfl,_⟩ <;> rfl
   refine ACalls.clean fun M=>?_;refine (yv X D S b _ (by omega) (by omega) f G c.2 (u b ((c.1 b).2 rfl))).mono ?_
   rintro av ⟨h,H⟩ k ⟨y,o⟩;simp only at y o k;refine ⟨F,⟨c.1,?_⟩,fun a d=>.inl d,fun a d O=>o a fun e=>O ((c.1 a).2 e),fun a d C q z x e=>?_⟩
   ·show h b=_;rw [y,ti];by_cases t:Step.kind X=3
    ·simp [t,dq]
    ·simp [t,dq]
   ·have:=u b ((c.1 b).2 rfl);have p:h a=some (.row C q z (some x)):=e;have P:f a=none:=M a d;rw [o a (by omega),P] at p
    cases p
 have Q:=oT K (aw l) l (q5 _) [] (fun a=>a=b) [] (.sl [] true) (upd J b (some (.row 1 [[.int 0]] .live none))) (b+1) (by simp; omega) (fun _ _=>trivial) ⟨fun a=>Iff.rfl,ae⟩ (fun a d=>by omega) (.inl ⟨rfl,rfl⟩) (by simp; omega)
 refine Q.mono ?_;rintro av ⟨h,H⟩ k ⟨T,⟨ab,m⟩,ag,w,ai,al⟩;simp only at k m w;have v:((bS [] l).filter dq).length=iC l:=by
  rw [<-mD [] l,jg]; simp
 rw [u5,v] at m;simp [m];exact aA fun a d=>by rw [w a (by omega) (by omega) aL,qv]
def il (y:Wb.Step×List Wb.Step):List AV:=y.1.cells++[row ((y.2.filter isLoop).map Step.cells),row ((dm (Step.expr y.1)).map Expr.cells)]
theorem nO (y:Wb.Step×List Wb.Step):aF 17 (il y)=true:=by
 obtain ⟨⟨_,_,_,_,_,_,_,_,⟨_,_,_,_,_,_⟩⟩,_⟩:=y; rfl
def pb (d b:Nat) (v:List (Wb.Step×List Wb.Step)) (F:Nat->Prop) (h:Heap):Prop:=
 h d=some (.row 1 [[.ptr b 0 0]] .live none)/\∃ c,h b=some (.row 6 [[c,.sl [] true,.sl [] true,.int 0,.sl [] true,.sl [] true]] .live none)/\RowAt h 17 c ((v.filter dq).map il)/\∀ a,F a↔a=d\/a=b\/au c a
theorem yf (y:Wb.Step×List Wb.Step) (g:Step.kind y.1=3->cM (Step.expr y.1)<=4096) (bf:y.2.length<=1000) (x:AV) (e f:Nat) (a9:e≠f) (v:List (Wb.Step×List Wb.Step)) (b3:v.length<=1000000) (F:Nat->Prop) (m:Heap) (d:Nat) (a5:pb e f v F m) (W:∀ k,F k->k<d) (bb:gT m x y.2) :
  ACalls Pg 284 [y.1.av,x,.ptr e 0 0] ⟨m,d⟩ fun av s'=>∃ ag,pb e f (v++[y]) ag s'.h/\(∀ k,ag k->F k\/(d<=k/\k<s'.c))/\∀ k,k<d->¬F k->s'.h k=m k:=by
 obtain ⟨⟨kind,name,low,N,J,body,array,subs,⟨w,u,l,q,t,p⟩⟩,z⟩:=y;obtain ⟨O,G,P,Q,h⟩:=a5;have a8:=W e ((h e).2 (.inl rfl));have a':=W f ((h f).2 (.inr (.inl rfl)));have ab:=fun k a=>W k ((h k).2 (.inr (.inr a)));refine ACalls.clean fun Z=>?_;have Z:∀ k,d<=k->m k=none:=fun k a=>Z k a;rw [Step.av_mk];refine Fn284.calls .keep ?_;unfold Fn284.ac;have al:¬e=d:=by omega
 have am:¬f=d:=by omega
 by_cases U:kind=3
 ·subst U;simp [O,P,al,am];obtain ⟨o,M⟩:∃ o,o=upd m d (some (.row 15 [(Wb.Step.mk 3 name low N J body array subs (.mk w u l q t p)).cells] .live none)):=⟨_,rfl⟩;rw [Step.cells_mk] at M;rw [<-M];have D:∀ k,k<d->o k=m k:=fun k a=>by rw [M,qv]
  have ar:o d=_:=(congrFun M d).trans ae;have bc:gT o (norm x) z:=by
   rcases bb with ⟨a3,b,rfl⟩ | ⟨T,bm,bl,rfl,K⟩
   ·exact .inl ⟨a3,_,rfl⟩
   ·refine .inr ⟨T,bm,bl,rfl,(D T ?_).trans K⟩;refine sx fun b1=>?_;have:=Z T (by omega)
    simp only at K;rw [this] at K; cases K
  refine ACalls.at (xD z (by simp at bf; omega) (norm x) o (d+1) bc) fun bt bN=>?_
  have R:=(D e a8).trans O;have S:=(D f a').trans P;have a0:=xE _ (.mk w u l q t p) (q5 _) (g rfl);rw [Expr.av_mk] at a0;simp [R,S,ar];refine ACalls.pure a0 fun H bW=>?_;have bi:RowAt o 17 G ((v.filter dq).map il):=Q.frame fun k a=>D k (ab k a);have b0:(v.filter dq).length<=v.length:=vn _ _;obtain ⟨bx,ao,ap,a6,Y⟩:=bi.push (c:=H) (bytes:=320) (md:=.plain) (b:=true) (by decide) (by decide) (by decide) (by decide) (nO (.mk 3 name low N J body array subs (.mk w u l q t p),z)) (fun c a7=>by obtain ⟨bo,_,rfl⟩:=rf.1 a7; exact nO bo) (by simp; omega) (fun k a=>by have:=ab k a; omega)
  have b2:¬f=H:=by omega
  have a1:il (.mk 3 name low N J body array subs (.mk w u l q t p),z)=[.int 3,.str name,row (low.map Bound.cells),row (N.map Bound.cells),row (J.map Form.cells),row (body.map Step.cells),.str array,row (subs.map Form.cells),.int w,.int u,.int l.const,row (l.terms.map Term.cells),.str q,row (t.map Form.cells),row (p.map Expr.cells),row ((z.filter isLoop).map Step.cells),row ((dm (.mk w u l q t p)).map Expr.cells)]:=by
   simp [il,Step.cells_mk,Step.expr]
  rw [a1] at ao ap a6;have bk:¬au G f:=fun g=>by
   rcases Q with ⟨c,_⟩ | ⟨a4,c,C⟩
   ·rw [c] at g; exact aL g
   ·rw [c] at g; have:=aq.1 g; subst this; rw [P] at C; cases C
  have bj:¬au G e:=fun g=>by
   rcases Q with ⟨c,_⟩ | ⟨a4,c,C⟩
   ·rw [c] at g; exact aL g
   ·rw [c] at g; have:=aq.1 g; subst this; rw [O] at C; cases C
  have a2:=(Y f (by omega) bk).trans S
  have ai:=(Y e (by omega) bj).trans R
  simp [R,S,ar,bsI,az,aH,ao,a2,ai];refine ⟨fun k=>k=e\/k=f\/k=H,⟨by rw [ad a9]; exact ai,_,ae,?_,fun k=>by rw [aq]⟩,fun k a=>?_,fun k a aa=>?_⟩
  ·rw [ti];simp [dq,Step.kind,a1];refine .inr ⟨H,by simp,?_⟩
   rw [qv]; exact ap
  ·rcases a with rfl | rfl | rfl
   ·exact .inl ((h _).2 (.inl rfl))
   ·exact .inl ((h _).2 (.inr (.inl rfl)))
   ·exact .inr ⟨by omega,by simp⟩
  ·have ax:k≠e/\k≠f/\¬au G k:=⟨fun c=>aa ((h k).2 (.inl c)),fun c=>aa ((h k).2 (.inr (.inl c))),fun c=>aa ((h k).2 (.inr (.inr c)))⟩;rw [ad ax.2.1,Y k (by omega) ax.2.2]
   exact D k a
 ·simp [U];refine ⟨F,⟨by rw [ad al]; exact O,G,by rw [ad am]; exact P,?_,h⟩,fun k a=>.inl a,fun k a _=>by rw [qv]⟩
  rw [ti];simp [dq,Step.kind,U];exact Q.frame fun k a=>ad (by have:=ab k a; omega)
@[simp] theorem _root_.Go.AM.finW_fz_reP {P:Program} {a:Option Nat} {b:Nat×Option (Nat×Bool)×I} {re:List (Nat×Option (Nat×Bool)×I)} {r:List AO} {K:Slots->St->Prop} {sl:Slots} {v:AV} {s:St} :
  aT P a .fz (b::re) r K sl v s=@dV (fzI v s) ⟨fun v' s'=>(∀ x∈b::re,fG x sl s')/\aQ P r K (put sl a v') s'⟩:=q6 rfl rfl
structure RR where
 names:AV
 now:AV
 which:AV
 vals:AV
def RR.own (r:RR) (a go k:Nat):Prop:=k=a\/k=go\/au r.names k\/au r.now k\/au r.which k\/au r.vals k
structure RI (h:Heap) (c gr go:Nat) (stm:AV) (e:Env) (r:RR) (s:RS):Prop where
 now:NowAt h c gr e go 0 r.names r.now
 obj:h go=some (.row 6 [[stm,r.which,r.vals,.int s.rounds,.sl [] true,.sl [] true]] .live none)
 which:RowAt h 1 r.which (an (s.l.map fun i=>(i.num:Int)))
 vals:RowAt h 1 r.vals (s.l.map fun i=>[row (an (i.env.map (·.2)))])
 lt:∀ k,r.own gr go k->k<c
 d1:∀ k,au r.names k->k≠gr/\k≠go/\¬au r.now k/\¬au r.which k/\¬au r.vals k
 d2:∀ k,au r.now k->k≠gr/\k≠go/\¬au r.which k/\¬au r.vals k
 d3:∀ k,au r.which k->k≠gr/\k≠go/\¬au r.vals k
 d4:∀ k,au r.vals k->k≠gr/\k≠go
 gg:gr≠go
 len:s.l.length<=50000
 rounds:0<=s.rounds/\s.rounds<=200000
theorem RI.frame {h h':Heap} {c c' b go:Nat} {l:AV} {e:Env} {r:RR} {s:RS} (x:RI h c b go l e r s) (p:c<=c') (d:∀ k,r.own b go k->h' k=h k):RI h' c' b go l e r s:=by
 have o:r.own b go b:=.inl rfl;have m:r.own b go go:=.inr (.inl rfl);have f:∀ k,au r.names k->r.own b go k:=fun k a=>.inr (.inr (.inl a));have g:∀ k,au r.now k->r.own b go k:=fun k a=>.inr (.inr (.inr (.inl a)));refine ⟨⟨(d b o).trans x.now.at_,x.now.hnames.frame fun k a=>d k (f k a),x.now.hnow.frame fun k a=>d k (g k a),by have:=x.now.gr; omega,fun k a=>by have:=x.lt k (f k a); omega,fun k a=>by have:=x.lt k (g k a); omega⟩,(d go m).trans x.obj,x.which.frame fun k a=>d k (.inr (.inr (.inr (.inr (.inl a))))),x.vals.frame fun k a=>d k (.inr (.inr (.inr (.inr (.inr a))))),fun k a=>by have:=x.lt k a; omega,x.d1,x.d2,x.d3,x.d4,x.gg,x.len,x.rounds⟩
theorem RI.fr {h h':Heap} {c c' a go:Nat} {f:AV} {e:Env} {r:RR} {s:RS} (x:RI h c a go f e r s) (b:Fr c h h' c'):RI h' c' a go f e r s:=x.frame b.c fun d g=>b.h d (x.lt d g)
structure RFp (c0:Nat) (a b:Nat->Prop) (h0 h:Heap):Prop where
 same:∀ k,k<c0->¬a k->h k=h0 k
 rows:∀ k,b k->a k\/c0<=k
theorem RFp.trans {d c1:Nat} {a b f:Nat->Prop} {g h k:Heap} (x:RFp d a b g h) (y:RFp c1 b f h k) (p:d<=c1):RFp d a f g k:=
 ⟨fun c e l=>by
  rw [y.same c (by omega) fun o=>(x.rows c o).elim l fun m=>by omega]; exact x.same c e l,
  fun c e=>(y.rows c e).elim (x.rows c) fun m=>.inr (by omega)⟩
theorem RFp.refl {b:Nat} {a:Nat->Prop} {h:Heap}:RFp b a a h h:=⟨fun _ _ _=>rfl,fun _ h=>.inl h⟩
theorem RFp.ext {c c1:Nat} {a b:Nat->Prop} {d e f:Heap} (x:RFp c a b d e) (g:∀ k,k<c1->f k=e k) (m:c<=c1):RFp c a b d f:=
 ⟨fun k h l=>by rw [g k (by omega)]; exact x.same k h l,x.rows⟩
theorem _root_.Go.AM.RowPre.show_ {h:Heap} {c sz:Nat} {x:AV} {es:List (List AV)} (r:RowPre h sz x es) (e:∀ k,au x k->k<c):(St.mk h c).show_ x=some es/\fp x sz=true:=by
 rcases r with ⟨rfl,rfl⟩ | ⟨d,b,rfl,a⟩
 ·exact ⟨rfl,rfl⟩
 ·simp [St.show_,a,fp]
theorem qD (L:List Int):(an L).all (aF 1)=true:=rx.2 fun b a=>by obtain ⟨c,_,rfl⟩:=rf.1 a; rfl
theorem yB {h:Heap} {c:Nat} {x:AV} {L:List Int} (r:RowPre h 1 x (an L)) (e:∀ k,au x k->k<c) (f:L.length<=1000000) {md:Md}:apI 1 8 md (.sl [] true) x ⟨h,c⟩=some (.row c 1 0 L.length,⟨upd h c (some (.row 1 (an L) .live none)),c+1⟩):=by
 obtain ⟨a,b⟩:=r.show_ e;have d:(an L).length<=68719476736:=by simp [an]; omega
 simp only [apI,a,qD,b,d];simp [an,newRow];omega
theorem yq (w:Nat) (bx:(w:Int)<=1000000) (X:Wb.Step) (bm:List Int) (e:Env) (bo:e.length<=100000) (h go:Nat) (D:AV) (r:RR) (s:RS) (l:Heap) (g:Nat) (f:RI l g h go D e r s) :
  ACalls Pg 329 [.ptr h 0 0,.int w] ⟨l,g⟩ fun av s'=>if s.l.length=50000 then av=.int 12/\s'.h=l else av=.int 0/\∃ ao:RR,RI s'.h s'.c h go D e ao ⟨s.rounds,s.l++[⟨w,X,e,bm⟩]⟩/\RFp g (r.own h go) (ao.own h go) l s'.h:=by
 refine Fn329.calls .keep ?_;unfold Fn329.ac;have J:=f.now.at_;have O:=f.obj;have y:=f.which.len ⟨l,g⟩;have bt:=f.len;have H:(an (s.l.map fun i=>(i.num:Int))).length=s.l.length:=by simp [an]
 rw [H] at y;by_cases M:s.l.length=50000
 ·rw [M] at y;simp [J,O,y,M]
 have a4:¬((s.l.length:Int)=50000):=by omega
 have a7:=f.now.hnow;have bW:=f.lt h (.inl rfl);have bN:=f.lt go (.inr (.inl rfl));have a':∀ a,au r.which a->a<g:=fun a d=>f.lt a (.inr (.inr (.inr (.inr (.inl d)))));have S:∀ a,au r.vals a->a<g:=fun a d=>f.lt a (.inr (.inr (.inr (.inr (.inr d)))));obtain ⟨a0,am,bi,bj,T⟩:=f.which.push (c:=g) (bytes:=8) (md:=.plain) (b:=true) (e:=[.int w]) (by decide) (by decide) (by decide) (by decide) rfl (fun e K=>rx.1 (qD _) e K) (by rw [H]; omega) a'
 rw [H] at am bj;have a5:=(T go (by omega) (fun c=>(f.d3 go c).2.1 rfl)).trans O
 have aa:=(T h (by omega) (fun c=>(f.d3 h c).1 rfl)).trans J
 obtain ⟨m,v⟩:∃ m,m=upd a0 go (some (.row 6 [[D,.row g 1 0 (s.l.length+1),r.vals,.int s.rounds,.sl [] true,.sl [] true]] .live none)):=⟨_,rfl⟩;have ab:m h=_:=(congrFun v h).trans ((ad f.gg).trans aa);have Y:m go=_:=(congrFun v go).trans ae;have Q:∀ a,a≠g->a≠go->¬au r.which a->m a=l a:=fun a ar b k=>by rw [v,ad b]; exact T a ar k
 have a8:RowPre m 1 r.now (an (e.map (·.2))):=a7.frame fun a d=>Q a (by have:=f.now.wb a d; omega) (f.d2 a d).2.1 (f.d2 a d).2.2.1
 have W:=yB (md:=.fz) (c:=g+1) a8 (fun a d=>by have:=f.now.wb a d; omega) (by simp; omega)
 simp [J,O,y,M,a4,bsI,az,am,a5,aa,f.gg,<-v];have U:(s.l.map fun i=>[row (an (i.env.map (·.2)))]).length=s.l.length:=by simp
 have ax:(an (e.map (·.2))).length=(e.map (·.2)).length:=by simp [an]
 obtain ⟨x,o⟩:∃ x,x=upd m (g+1) (some (.row 1 (an (e.map (·.2))) .live none)):=⟨_,rfl⟩;rw [<-o] at W;have N:=dj (s:=⟨x,g+1+1⟩) (z:=1) ((congrFun o _).trans ae) ax;obtain ⟨t,p⟩:∃ t,t=upd x (g+1) (some (.row 1 (an (e.map (·.2))) .frz none)):=⟨_,rfl⟩;simp only [so] at N;rw [<-p] at N;have ag:t h=_:=(congrFun p h).trans ((ad (by omega)).trans ((congrFun o _).trans ((ad (by omega)).trans ab)))
 have Z:t go=_:=(congrFun p go).trans ((ad (by omega)).trans ((congrFun o _).trans ((ad (by omega)).trans Y)))
 have a9:RowAt t 1 r.vals (s.l.map fun i=>[row (an (i.env.map (·.2)))]):=f.vals.frame fun a d=>by
  have:=S a d;rw [p,qv,o,qv]
  exact Q a (by omega) (f.d4 a d).2 fun c=>(f.d3 a c).2.2 d
 obtain ⟨a1,ap,bk,bl,G⟩:=a9.push (c:=g+1+1) (bytes:=24) (md:=.plain) (b:=true) (e:=[row (an (e.map (·.2)))]) (by decide) (by decide) (by decide) (by decide) rfl (fun e K=>by obtain ⟨b0,_,rfl⟩:=rf.1 K; rfl) (by rw [U]; omega) (fun a d=>by have:=S a d; omega)
 rw [U] at ap bl;have a6:=(G go (by omega) (fun c=>(f.d4 go c).2 rfl)).trans Z
 have ai:=(G h (by omega) (fun c=>(f.d4 h c).1 rfl)).trans ag
 simp [ab,Y,bsI,az,W,N,-er,ag,Z,ap,a6,ai];obtain ⟨u,q⟩:∃ u,u=upd a1 go (some (.row 6 [[D,.row g 1 0 (s.l.length+1),.row (g+1+1) 1 0 (s.l.length+1),.int s.rounds,.sl [] true,.sl [] true]] .live none)):=⟨_,rfl⟩;rw [<-q];have R:∀ a,a<g->a≠go->¬au r.which a->¬au r.vals a->u a=l a:=fun a d al bb bc=>by
  rw [q,ad al,G a (by omega) bc,p,qv,o,qv,Q a (by omega) al bb]
 have z:=f.now.nb;have C:=f.now.wb;have bf:¬au r.vals g:=fun c=>by have:=S _ c; omega
 have a2:u g=some (.row 1 (an (s.l.map fun i=>(i.num:Int))++[[.int w]]) .live none):=by
  rw [q,qv,G g (by omega) bf,p,qv,o,qv,v,qv,bi]
 have a3:u (g+1+1)=_:=(congrFun q _).trans ((ad (by omega)).trans bk)
 refine ⟨⟨r.names,r.now,.row g 1 0 (s.l.length+1),.row (g+1+1) 1 0 (s.l.length+1)⟩,⟨⟨?_,?_,?_,?_,?_,?_⟩,?_,?_,?_,?_,?_,?_,?_,?_,f.gg,?_,f.rounds⟩,?_⟩
 ·exact (congrFun q h).trans ((ad f.gg).trans ai)
 ·exact f.now.hnames.frame fun a d=>R a (z a d) (f.d1 a d).2.1 (f.d1 a d).2.2.2.1 (f.d1 a d).2.2.2.2
 ·exact f.now.hnow.frame fun a d=>R a (C a d) (f.d2 a d).2.1 (f.d2 a d).2.2.1 (f.d2 a d).2.2.2
 ·omega
 ·intro a d; have:=z a d; omega
 ·intro a d; have:=C a d; omega
 ·exact (congrFun q go).trans ae
 ·exact .inr ⟨g,by simp [an],by rw [a2]; simp [an]⟩
 ·exact .inr ⟨g+1+1,by simp,by rw [a3]; simp⟩
 ·rintro a (c | c | c | c | c | c)
  ·omega
  ·omega
  ·have:=z a c; omega
  ·have:=C a c; omega
  ·have:=aq.1 c; omega
  ·have:=aq.1 c; omega
 ·intro a d;have:=z a d;have k:=f.d1 a d;exact ⟨k.1,k.2.1,k.2.2.1,fun c=>by have:=aq.1 c; omega,fun c=>by have:=aq.1 c; omega⟩
 ·intro a d;have:=C a d;have k:=f.d2 a d;exact ⟨k.1,k.2.1,fun c=>by have:=aq.1 c; omega,fun c=>by have:=aq.1 c; omega⟩
 ·intro a d;have:=aq.1 d;exact ⟨by omega,by omega,fun c=>by have:=aq.1 c; omega⟩
 ·intro a d;have:=aq.1 d;exact ⟨by omega,by omega⟩
 ·simp; omega
 ·refine ⟨fun a d P=>R a d (fun c=>P (.inr (.inl c))) (fun c=>P (.inr (.inr (.inr (.inr (.inl c)))))) (fun c=>P (.inr (.inr (.inr (.inr (.inr c)))))),?_⟩;rintro a (c | c | c | c | c | c)
  ·exact .inl (.inl c)
  ·exact .inl (.inr (.inl c))
  ·exact .inl (.inr (.inr (.inl c)))
  ·exact .inl (.inr (.inr (.inr (.inl c))))
  ·have:=aq.1 c; exact .inr (by omega)
  ·have:=aq.1 c; exact .inr (by omega)
def uT (a go:Nat) (f:AV) (e:Env) (r:RR) (o:Int×RS) (c:Nat) (d:Heap) (av:AV) (s':St):Prop:=
 av=.int o.1/\∃ b:RR,RFp c (r.own a go) (b.own a go) d s'.h/\(o.1=0->RI s'.h s'.c a go f e b o.2)
theorem RI.re {h h':Heap} {c c' d go:Nat} {u:AV} {e f:Env} {r:RR} {s:RS} {names now:AV} (x:RI h c d go u e r s) (y:h' d=some (.row 4 [[.ptr go 0 0,.int 0,names,now]] .live none))
  (v:RowPre h' 1 names (ak (f.map (·.1)))) (w:RowPre h' 1 now (an (f.map (·.2)))) (a:∀ k,k=go\/au r.which k\/au r.vals k->h' k=h k) (z:c<=c')
  (p:∀ k,au names k->au r.names k\/(c<=k/\k<c')) (q:∀ k,au now k->au r.now k\/(c<=k/\k<c')) (t:∀ k,au names k->¬au now k):RI h' c' d go u f ⟨names,now,r.which,r.vals⟩ s:=by
 have D:=x.lt d (.inl rfl);have C:=x.lt go (.inr (.inl rfl));have l:∀ k,au r.which k->k<c:=fun k a=>x.lt k (.inr (.inr (.inr (.inr (.inl a)))));have g:∀ k,au r.vals k->k<c:=fun k a=>x.lt k (.inr (.inr (.inr (.inr (.inr a)))));have m:∀ k,au names k->k<c':=fun k a=>(p k a).elim (fun h=>by have:=x.now.nb k h; omega) fun h=>h.2
 have o:∀ k,au now k->k<c':=fun k a=>(q k a).elim (fun h=>by have:=x.now.wb k h; omega) fun h=>h.2
 refine ⟨⟨y,v,w,by omega,m,o⟩,(a go (.inl rfl)).trans x.obj,x.which.frame fun k h=>a k (.inr (.inl h)),x.vals.frame fun k h=>a k (.inr (.inr h)),?_,?_,?_,x.d3,x.d4,x.gg,x.len,x.rounds⟩
 ·rintro k (h | h | h | h | h | h)
  ·omega
  ·omega
  ·exact m k h
  ·exact o k h
  ·have:=l k h; omega
  ·have:=g k h; omega
 ·intro k a;rcases p k a with h | h
  ·have b:=x.d1 k h;exact ⟨b.1,b.2.1,t k a,b.2.2.2.1,b.2.2.2.2⟩
  ·exact ⟨by omega,by omega,t k a,fun h=>by have:=l k h; omega,fun h=>by have:=g k h; omega⟩
 ·intro k a;rcases q k a with h | h
  ·have b:=x.d2 k h;exact ⟨b.1,b.2.1,b.2.2.1,b.2.2.2⟩
  ·exact ⟨by omega,by omega,fun h=>by have:=l k h; omega,fun h=>by have:=g k h; omega⟩
theorem RI.setRounds {h:Heap} {c g go:Nat} {f:AV} {e:Env} {r:RR} {s:RS} (x:RI h c g go f e r s) (n:Int) (k:0<=n/\n<=200000) :
  RI (AM.upd h go (some (.row 6 [[f,r.which,r.vals,.int n,.sl [] true,.sl [] true]] .live none))) c g go f e r ⟨n,s.l⟩:=by
 have d:∀ a,a≠go->AM.upd h go (some (.row 6 [[f,r.which,r.vals,.int n,.sl [] true,.sl [] true]] .live none)) a=h a:=fun a b=>ad b;exact ⟨⟨(d g x.gg).trans x.now.at_,x.now.hnames.frame fun a b=>d a (x.d1 a b).2.1,x.now.hnow.frame fun a b=>d a (x.d2 a b).2.1,x.now.gr,x.now.nb,x.now.wb⟩,ae,x.which.frame fun a b=>d a (x.d3 a b).2.1,x.vals.frame fun a b=>d a (x.d4 a b).2,x.lt,x.d1,x.d2,x.d3,x.d4,x.gg,x.len,k⟩
theorem RI.setLast {h:Heap} {c f go:Nat} {t:AV} {e:Env} {name:ByteArray} {l:Int} {r:RR} {s:RS} (x:RI h c f go t (e++[(name,l)]) r s) (v:Int) :
  ∃ g full,r.now=.row g 1 0 (e.length+1)/\h g=some (.row 1 (an (e.map (·.2))++[.int l]::full) .live none)/\RI (AM.upd h g (some (.row 1 (an (e.map (·.2))++[.int v]::full) .live none))) c f go t (e++[(name,v)]) r s/\r.own f go g/\f≠g/\go≠g:=by
 have q:=x.now.hnow;have u:an ((e++[(name,l)]).map (·.2))=an (e.map (·.2))++[[.int l]]:=by simp [an]
 have w:an ((e++[(name,v)]).map (·.2))=an (e.map (·.2))++[[.int v]]:=by simp [an]
 have y:(an (e.map (·.2))).length=e.length:=by simp [an]
 rw [u] at q;obtain ⟨g,full,k,z⟩:=q.last;rw [y] at k;have m:au r.now g:=by rw [k]; exact aq.2 rfl
 have d:=x.d2 g m;have o:∀ b,b≠g->AM.upd h g (some (.row 1 (an (e.map (·.2))++[.int v]::full) .live none)) b=h b:=fun b a=>ad a;refine ⟨g,full,k,z,?_,.inr (.inr (.inr (.inl m))),s4 d.1,s4 d.2.1⟩;have p:=x.now.hnames;rw [sh] at p;refine x.re (c':=c) (names:=r.names) (now:=r.now) ((o f (s4 d.1)).trans x.now.at_) ?_ ?_ ?_ (q5 _) (fun b a=>.inl a) (fun b a=>.inl a) (fun b a=>(x.d1 b a).2.2.1)
 ·rw [sh];exact p.frame fun b a=>o b fun h=>(x.d1 b a).2.2.1 (h▸m)
 ·rw [w];exact .inr ⟨g,full,by rw [k]; simp [an],by rw [ae]; simp⟩
 ·intro b a;refine o b fun h=>?_;subst h;rcases a with a | a | a
  ·exact d.2.1 a
  ·exact d.2.2.1 a
  ·exact d.2.2.2 a
theorem rA:∀ x:Wb.Step,dE x<=count x
 | .mk kind name low high conds body array subs expr=>by
  have:=setsL_le' body;simp only [dE,count]; split <;> omega
where
 setsL_le':∀ l:List Wb.Step,iC l<=aw l
  | []=>q5 _
  | x::xs=>by simp only [iC,aw]; have:=rA x; have:=setsL_le' xs; omega
def vB (A:List Wb.Array) (d go:Nat) (h:AV) (g:Nat):Prop:=∀ (b:List Wb.Step),aw b<=g->∀ (f:Nat) (a:Env) (k:List Int) (r:RR) (s:RS) (e:Heap) (c:Nat),
  cW A (a.map (·.1)) b->fc a->(a.map (·.1)).Nodup->a.length+g<=900->f+aw b<=100000->RI e c d go h a r s ->
  ACalls Pg 285 [.ptr d 0 0,row (b.map Step.cells),.int f] ⟨e,c⟩ (uT d go h a r (ba f a k 0 b s) c e)
theorem yo (A:List Wb.Array) (g go:Nat) (aa:AV) (a7:Nat) (fd:vB A g go aa a7) (name:ByteArray) (low G:List Wb.Bound) (ap:List Wb.Form) (body:List Wb.Step) (d4:aw body<=a7) (array:ByteArray) (subs:List Wb.Form) (expr:Wb.Expr)
  (O:Nat) (e:Env) (am:List Int) (r:RR) (s:RS) (u:Heap) (q:Nat) (e2:inL name (e.map (·.1))=false) (eM:low≠[]) (ey:G≠[]) (c2:∀ b∈low,cO b) (c1:∀ b∈G,cO b) (d':cW A (e.map (·.1)++[name]) body)
  (z:fc e) (c4:(e.map (·.1)).Nodup) (f9:e.length+a7+1<=900) (gb:O+aw body<=100000) (h:RI u q g go aa e r s) :
  ACalls Pg 327 [.ptr g 0 0,.zp (Wb.Step.mk 1 name low G ap body array subs expr).cells 0,.int O] ⟨u,q⟩ (uT g go aa e r (bL O e am (.mk 1 name low G ap body array subs expr) s) q u):=by
 obtain ⟨di,n,ca,b',es,b8⟩:=expr;refine Fn327.calls .keep ?_;unfold Fn327.ac;have cq:=yw (.mk 1 name low G ap body array subs (.mk di n ca b' es b8)) low G ⟨_,_,_,_,_,_,_,rfl⟩ c2 c1 eM ey 359 [.ptr g 0 0] [] (aC e) (cY z) u q
  (fun x fb d c a1=>sJ x fb e z c4 (by omega) g go 0 r.names r.now d c (h.now.fr a1))
 rw [Step.av_mk] at cq;simp [Step.cells_mk];refine ACalls.at cq fun dp f8=>?_;have eP:=oD (cY z) c2;have ez:=np (cY z) c1;obtain ⟨H,bo⟩:∃ H,H=fj (aC e) low:=⟨_,rfl⟩;obtain ⟨M,bl⟩:∃ M,M=fy (aC e) G:=⟨_,rfl⟩;obtain ⟨F,a1⟩:∃ F:Int->RS->Int×RS,F=fun P s=>ba O (e++[(name,P)]) am 0 body s:=⟨_,rfl⟩;have e5:bL O e am (.mk 1 name low G ap body array subs (.mk di n ca b' es b8)) s=cG F (M-H+1).toNat H s:=by rw [bo,bl,a1]; simp [bL]
 rw [<-bo] at eP;rw [<-bl] at ez;rw [e5];have cn:=h.now.at_;have c8:=h.now.nb;have a5:=h.now.wb;have gg:=h.lt g (.inl rfl);have fx:=h.lt go (.inr (.inl rfl));have c':∀ a,au r.which a->a<q:=fun a f=>h.lt a (.inr (.inr (.inr (.inr (.inl f)))));have c9:∀ a,au r.vals a->a<q:=fun a f=>h.lt a (.inr (.inr (.inr (.inr (.inr f)))));have a9:(ak (e.map (·.1))).length=e.length:=by simp [ak]
 have Q:(an (e.map (·.2))).length=e.length:=by simp [an]
 obtain ⟨gi,R,b9,f1,f2,gk,b3,b4,gl,m,p7⟩:=h.now.hnames.push (c:=dp) (bytes:=16) (md:=.plain) (b:=true) (e:=[.str name]) (by decide) (by decide) (by decide) (by decide) rfl (fun e z=>by obtain ⟨gp,_,rfl⟩:=rf.1 z; rfl) (by rw [a9]; omega) (fun a f=>by have:=c8 a f; omega)
 have c0:=(b4 g (by omega) (fun d=>(h.d1 g d).1 rfl)).trans cn
 have e3:RowPre R 1 r.now (an (e.map (·.2))):=h.now.hnow.frame fun a f=>b4 a (by have:=a5 a f; omega) fun d=>(h.d1 a d).2.2.1 f
 obtain ⟨gs,cb,a8,f3,f4,gm,b5,b6,gn,y,dk⟩:=e3.push (c:=b9) (bytes:=8) (md:=.plain) (b:=true) (e:=[.int 0]) (by decide) (by decide) (by decide) (by decide) rfl (fun e z=>rx.1 (qD _) e z) (by rw [Q]; omega) (fun a f=>by have:=a5 a f; omega)
 have et:=(b6 g (by omega) (fun d=>(h.d2 g d).1 rfl)).trans c0
 rw [a9] at p7;rw [Q] at dk;subst p7;subst dk;simp [<-bo,<-bl,cn,bsI,az,f1,c0,f3,et];obtain ⟨K,bj⟩:∃ K,K=upd cb g (some (.row 4 [[.ptr go 0 0,.int 0,.row m 1 0 (e.length+1),.row y 1 0 (e.length+1)]] .live none)):=⟨_,rfl⟩;rw [<-bj];have ex:K g=_:=(congrFun bj g).trans ae;have bm:∀ a,a≠g->K a=cb a:=fun a f=>by rw [bj,ad f]
 have bN:m<b9/\m≠g/\m≠go/\¬au r.now m/\¬au r.which m/\¬au r.vals m:=by
  rcases b3 m (aq.2 rfl) with d | ⟨d,bb⟩
  ·have J:=h.d1 m d;exact ⟨by have:=c8 m d; omega,J⟩
  ·exact ⟨by omega,by omega,by omega,fun d=>by have:=a5 m d; omega,fun d=>by have:=c' m d; omega,fun d=>by have:=c9 m d; omega⟩
 have fz:y<a8/\y≠g/\y≠m:=by
  rcases b5 y (aq.2 rfl) with d | ⟨d,bb⟩
  ·exact ⟨by have:=a5 y d; omega,(h.d2 y d).1,fun R=>bN.2.2.2.1 (R▸d)⟩
  ·exact ⟨by omega,by omega,by omega⟩
 have a4:∀ a,a<q->a≠g->¬au r.names a->¬au r.now a->K a=u a:=fun a dn b J d0=>by rw [bm a b,b6 a (by omega) d0,b4 a (by omega) J]
 have e4:RI K a8 g go aa (e++[(name,0)]) ⟨.row m 1 0 (e.length+1),.row y 1 0 (e.length+1),r.which,r.vals⟩ s:=by
  refine h.re ex ?_ ?_ ?_ (by omega) ?_ ?_ ?_
  ·rw [show ak ((e++[(name,(0:Int))]).map (·.1))=ak (e.map (·.1))++[[.str name]] by simp [ak]]
   refine f2.frame fun a f=>?_;have:=aq.1 f;subst this;rw [bm _ bN.2.1,b6 _ (by omega) bN.2.2.2.1]
  ·rw [show an ((e++[(name,(0:Int))]).map (·.2))=an (e.map (·.2))++[[.int 0]] by simp [an]]
   refine f4.frame fun a f=>?_;have:=aq.1 f;subst this;exact bm _ fz.2.1
  ·rintro a (rfl | f | f)
   ·exact a4 _ fx (s4 h.gg) (fun d=>(h.d1 _ d).2.1 rfl) fun d=>(h.d2 _ d).2.1 rfl
   ·have J:=h.d3 a f;exact a4 _ (c' a f) J.1 (fun d=>(h.d1 _ d).2.2.2.1 f) fun d=>(h.d2 _ d).2.2.1 f
   ·have J:=h.d4 a f;exact a4 _ (c9 a f) J.1 (fun d=>(h.d1 _ d).2.2.2.2 f) fun d=>(h.d2 _ d).2.2.2 f
  ·intro a f;rcases b3 a f with d | ⟨d,bb⟩
   ·exact .inl d
   ·exact .inr ⟨by omega,by omega⟩
  ·intro a f;rcases b5 a f with d | ⟨d,bb⟩
   ·exact .inl d
   ·exact .inr ⟨by omega,by omega⟩
  ·intro a f o;have:=aq.1 f;have:=aq.1 o;omega
 have el:RFp q (r.own g go) (RR.own ⟨.row m 1 0 (e.length+1),.row y 1 0 (e.length+1),r.which,r.vals⟩ g go) u K:=by
  refine ⟨fun a f o=>a4 a f (fun d=>o (.inl d)) (fun d=>o (.inr (.inr (.inl d)))) (fun d=>o (.inr (.inr (.inr (.inl d))))),?_⟩;rintro a (d | d | d | d | d | d)
  ·exact .inl (.inl d)
  ·exact .inl (.inr (.inl d))
  ·rcases b3 a d with d | ⟨d,_⟩
   ·exact .inl (.inr (.inr (.inl d)))
   ·exact .inr (by omega)
  ·rcases b5 a d with d | ⟨d,_⟩
   ·exact .inl (.inr (.inr (.inr (.inl d))))
   ·exact .inr (by omega)
  ·exact .inl (.inr (.inr (.inr (.inr (.inl d)))))
  ·exact .inl (.inr (.inr (.inr (.inr (.inr d)))))
 obtain ⟨a6,bf⟩:∃ a6:Nat->Slots->St->Prop,a6=fun (W:Nat) f5 Z=>∃ (P:Int) (k:RS) (t:RR) (w:Int),f5 9=.int P/\W=(M-P+1).toNat /\ -12001000000<=P/\P<=12001000001/\RI Z.h Z.c g go aa (e++[(name,w)]) t k/\RFp q (r.own g go) (t.own g go) u Z.h/\q<=Z.c/\cG F (M-H+1).toNat H s=cG F W P k:=⟨_,rfl⟩;refine cJ Fn327.W0 (by rfl) a6 (M-H+1).toNat ?_ ?_
 ·rw [bf];exact ⟨H,s,_,0,by simp,rfl,by omega,by omega,e4,el,by show q<=a8; omega,rfl⟩
 ·intro W gr Z cc;rw [bf] at cc;obtain ⟨l,k,t,w,ao,gv,gw,gx,p,D,f6,dl⟩:=cc;obtain ⟨bc,f7⟩:=Z;simp at ao;simp only at p D f6;rw [dl];have a2:=p.now.at_;have en:=p.obj;by_cases c3:l<=M
  case neg=>
   have e0:W=0:=by omega
   subst e0;have ch:=p.now.hnames;have cl:=p.now.hnow;rw [show ak ((e++[(name,w)]).map (·.1))=ak (e.map (·.1))++[[.str name]] by simp [ak]] at ch
   rw [show an ((e++[(name,w)]).map (·.2))=an (e.map (·.2))++[[.int w]] by simp [an]] at cl
   obtain ⟨ar,al,b0,de⟩:=ch.pop;obtain ⟨ax,ai,bW,da⟩:=cl.pop;rw [a9] at al b0 de;rw [Q] at ai bW da;rw [al] at b0;rw [ai] at bW;have dN:=p.d1 ar (by rw [al]; exact aq.2 rfl)
   have dW:=p.d2 ax (by rw [ai]; exact aq.2 rfl)
   have bt:=q0 (x:=(e.length:Int))
   rw [al,ai] at a2;simp [ao,c3,a2,bt,b0,bW];obtain ⟨v,C⟩:∃ v,v=upd bc g (some (.row 4 [[.ptr go 0 0,.int 0,.row ar 1 0 e.length,.row ax 1 0 e.length]] .live none)):=⟨_,rfl⟩;rw [<-C];have S:∀ a,a≠g->v a=bc a:=fun a f=>by rw [C,ad f]
   have b1:∀ a,au (.row ar 1 0 e.length) a->au t.names a:=fun a f=>by rw [al]; exact aq.2 (aq.1 f)
   have b2:∀ a,au (.row ax 1 0 e.length) a->au t.now a:=fun a f=>by rw [ai]; exact aq.2 (aq.1 f)
   refine ⟨rfl,⟨.row ar 1 0 e.length,.row ax 1 0 e.length,t.which,t.vals⟩,⟨fun a f o=>?_,?_⟩,fun _=>?_⟩
   ·show v a=u a;rw [S a fun d=>o (.inl d)];exact D.same a f o
   ·rintro a (d | d | d | d | d | d)
    ·exact .inl (.inl d)
    ·exact .inl (.inr (.inl d))
    ·exact D.rows a (.inr (.inr (.inl (b1 a d))))
    ·exact D.rows a (.inr (.inr (.inr (.inl (b2 a d)))))
    ·exact D.rows a (.inr (.inr (.inr (.inr (.inl d)))))
    ·exact D.rows a (.inr (.inr (.inr (.inr (.inr d)))))
   ·refine p.re ((congrFun C g).trans ae) (de.frame fun a f=>S a (by have:=aq.1 f; subst this; exact dN.1)) (da.frame fun a f=>S a (by have:=aq.1 f; subst this; exact dW.1)) ?_ (q5 _) (fun a f=>.inl (b1 a f)) (fun a f=>.inl (b2 a f)) fun a f o=>(p.d1 a (b1 a f)).2.2.1 (b2 a o)
    rintro a (rfl | f | f)
    ·exact S _ (s4 p.gg)
    ·exact S _ (p.d3 a f).1
    ·exact S _ (p.d4 a f).1
  obtain ⟨Y,rfl⟩:∃ Y,W=Y+1:=⟨W-1,by omega⟩
  have gc:=p.rounds;simp [ao,c3];refine ACalls.pure (fS _ _ _) fun ds ea=>?_;by_cases N:-1000000<=l/\l<=1000000
  case neg=>
   simp [N];have ab:cG F (Y+1) l k=(1,k):=by simp only [cG]; rw [if_pos N]
   rw [ab];exact ⟨rfl,t,D,fun d=>by cases d⟩
  have e':=q0 (x:=k.rounds+1)
  simp [N,a2,en,e'];obtain ⟨v,C⟩:∃ v,v=upd bc go (some (.row 6 [[aa,t.which,t.vals,.int (k.rounds+1),.sl [] true,.sl [] true]] .live none)):=⟨_,rfl⟩;have a3:RFp q (r.own g go) (t.own g go) u v:=⟨fun a f o=>by
   have:a≠go:=fun d=>o (.inr (.inl d));rw [C,ad this]; exact D.same a f o,D.rows⟩
  have bi:v g=_:=(congrFun C g).trans ((ad p.gg).trans a2);have eo:v go=_:=(congrFun C go).trans ae;have ga:=p.gg;simp [<-C,bi,eo];by_cases ag:200000<k.rounds+1
  ·simp [ag];have ab:cG F (Y+1) l k=(12,⟨k.rounds+1,k.l⟩):=by simp only [cG]; rw [if_neg (not_not_intro N),if_pos ag]
   rw [ab];exact ⟨rfl,t,a3,fun d=>by cases d⟩
  have c5:=p.setRounds (k.rounds+1) ⟨by omega,by omega⟩
  rw [<-C] at c5;obtain ⟨a',full,fm,fn,c7,fs,ge,gf⟩:=c5.setLast l;have bt:=q0 (x:=(e.length:Int))
  rw [fm] at bi;have eW:(e.length:Int)<(e.length:Int)+1:=by omega
  have cx:(an (e.map (·.2))++[AV.int w]::full)[e.length]?=some [.int w]:=by
   rw [r1 (by omega),Q,x3]; rfl
  have e6:(an (e.map (·.2))++[AV.int w]::full).set e.length [.int l]=an (e.map (·.2))++[.int l]::full:=by
   have:=Av (es:=an (e.map (·.2))) (full:=full) (b:=[AV.int w]) (x:=[AV.int l])
   rwa [Q] at this
  have f':(an (e.map (·.2))++[AV.int w]::full)[(an (e.map (·.2))).length]?=some [.int w]:=by rw [Q]; exact cx
  obtain ⟨a0,bk⟩:∃ a0,a0=upd v a' (some (.row 1 (an (e.map (·.2))++[.int l]::full) .live none)):=⟨_,rfl⟩;rw [<-bk] at c7;have eg:fc (e++[(name,l)]):=fun f0 T=>by
   rcases rd.1 T with T | T
   ·exact z f0 T
   ·simp at T; subst T; exact N
  have e1:((e++[(name,l)]).map (·.1)).Nodup:=by
   rw [sh,va];refine ⟨c4,by simp,fun dn d3 b cp=>?_⟩
   simp at cp;subst cp;exact fun d=>qC e2 (d▸d3)
  have e9:=fd body d4 O (e++[(name,l)]) am t ⟨k.rounds+1,k.l⟩ a0 ds (by rw [sh]; exact d') eg e1 (by simp; omega) (by omega) (c7.frame ea fun _ _=>rfl)
  simp [ao,ag,bi,bt,eW,fn,cx,e6,<-bk];refine e9.mono ?_;rintro av ⟨d1,dv⟩ ef ⟨rfl,b7,c6,bx⟩;simp only at ef c6 bx;have d2:F l ⟨k.rounds+1,k.l⟩=ba O (e++[(name,l)]) am 0 body ⟨k.rounds+1,k.l⟩:=by rw [a1]
  rw [<-d2] at bx ⊢;have em:RFp q (r.own g go) (t.own g go) u a0:=⟨fun a f o=>by
   have:a≠a':=fun d=>(a3.rows a' fs).elim (fun R=>o (d▸R)) fun R=>by omega
   rw [bk,ad this]; exact a3.same a f o,a3.rows⟩
  have cs:RFp q (r.own g go) (b7.own g go) u d1:=em.trans c6 (by omega)
  by_cases U:(F l ⟨k.rounds+1,k.l⟩).1=0
  ·have fa:=q0 (x:=l+1)
   simp [U,ao,fa];refine ⟨Y,by omega,?_⟩
   rw [bf];refine ⟨l+1,(F l ⟨k.rounds+1,k.l⟩).2,b7,l,by simp,by omega,by omega,by omega,bx U,cs,by show q<=dv; omega,?_⟩
   rw [dl]; simp only [cG]; rw [if_neg (not_not_intro N),if_neg ag,if_pos U]
  ·simp [U];have ab:cG F (Y+1) l k=F l ⟨k.rounds+1,k.l⟩:=by simp only [cG]; rw [if_neg (not_not_intro N),if_neg ag,if_neg U]
   rw [ab];exact ⟨rfl,b7,cs,fun d=>absurd d U⟩
theorem yg (A:List Wb.Array) (f go:Nat) (P:AV):∀ (Q:Nat),vB A f go P Q:=by
 intro Q
 induction Q with
 | zero=>
  intro o a';have:o=[]:=by
   cases o with
   | nil=>rfl
   | cons x xs=>obtain ⟨_,_,_,_,_,body,_,_,_⟩:=x; simp [aw,count] at a'
  subst this;intro O a l r s ai R bb ao ar ch b1 bf;refine Fn285.calls .keep ?_;unfold Fn285.ac;simp;refine aZ 13 Fn285.W0 ([]:List Wb.Step) (fun (i:Nat) r b7 u=>u=⟨ai,R⟩) (by rfl) (by rfl) ?_ ?_ ?_
  ·simp
  ·intro bm u y H;simp at y;subst H;simp [y,ba];exact ⟨rfl,r,RFp.refl,fun _=>bf⟩
  ·intro i x xs bm u a8; simp at a8
 | succ Q bk=>
  intro o a' O a l r s ai R bb ao ar ch b1 bf;have c9:o.length<=1000000:=by
   have:o.length<=aw o:=by
    clear a' bb b1
    induction o with
    | nil=>simp
    | cons x xs bk=>obtain ⟨_,_,_,_,_,body,_,_,_⟩:=x; simp [aw,count]; omega
   omega
  refine Fn285.calls .keep ?_;unfold Fn285.ac;simp;obtain ⟨ag,al⟩:∃ ag:Nat->List Wb.Step->Slots->St->Prop,ag=fun i b6 b7 u=>∃ (e:RS) (k:RR) (d:Nat),b7 2=.int d/\d+aw b6<=O+aw o/\RI u.h u.c f go P a k e/\RFp R (r.own f go) (k.own f go) ai u.h/\R<=u.c/\ba O a l 0 o s=ba d a l i b6 e:=⟨_,rfl⟩;refine aZ 13 Fn285.W0 o ag (by rfl) (by rfl) ?_ ?_ ?_
  ·rw [al];exact ⟨by simp,s,r,O,by simp,q5 _,bf,RFp.refl,q5 _,rfl⟩
  ·intro bm u y H;rw [al] at H;obtain ⟨e,k,d,z,c4,T,aa,a0,a1⟩:=H;have bi:ba O a l 0 o s=(0,e):=by rw [a1]; rfl
   simp [y,bi];exact ⟨rfl,k,aa,fun _=>T⟩
  ·intro i x xs bm u a8 b bW y H;rw [al] at H;obtain ⟨e,k,d,z,c4,T,aa,a0,a1⟩:=H;obtain ⟨m,D⟩:=u;simp only at T aa a0;simp at z;have ax:=q0 (x:=(i:Int)+1)
   have S:=kU bb x (aU bW);have cc:=fg bW;obtain ⟨X,p⟩:∃ X,X=x:=⟨_,rfl⟩;have c':dE X<=count X:=rA X;have c7:aw (x::xs)=count X+aw xs:=by rw [p]; rfl
   obtain ⟨kind,name,low,a9,U,body,array,subs,⟨c5,n,ca,b9,b',b8⟩⟩:=x;have bt:aw body<=Q:=by simp [count] at cc; omega
   have c6:aw body+1<=count X:=by rw [p]; simp [count]; omega
   have M:=q0 (x:=(d:Int)+dE X)
   have K:∀ c h (g:RR) v,D<=h->RI c h f go P a g v->RFp D (k.own f go) (g.own f go) m c->bL d a (l++[(i:Int)]) X e=(0,v)->∀ bl,bl 2=.int ((d:Int)+dE X)->ag (i+1) xs bl ⟨c,h⟩:=by
    intro c h g v J c1 a6 w bl c3;rw [al];refine ⟨v,g,d+dE X,by rw [c3]; push_cast; rfl,by omega,c1,aa.trans a6 a0,by show R<=h; omega,?_⟩
    rw [a1,p]; rw [p] at w; simp only [ba,w,if_true]
   have a7:∀ c h (g:RR) q v,q≠0->RFp D (k.own f go) (g.own f go) m c->bL d a (l++[(i:Int)]) X e=(q,v)->uT f go P a r (ba O a l 0 o s) R ai (.int q) ⟨c,h⟩:=by
    intro c h g q v bN a6 w;have bi:ba O a l 0 o s=(q,v):=by rw [a1]; rw [p] at w; simp [ba,w,bN]
    rw [bi];exact ⟨rfl,g,aa.trans a6 a0,fun m=>absurd m bN⟩
   have c8:∀ {b5:Int×RS} {av:AV} {v:St},bL d a (l++[(i:Int)]) X e=b5->uT f go P a k b5 D m av v->D<=v.c->True:=fun _ _ _=>trivial;simp [y,a8,b,Step.cells_mk];by_cases b3:kind=1
   ·subst b3;have bc:=sG body (by omega)
    have cx:inL name (a.map (·.1))=false/\low≠[]/\a9≠[]/\(∀ a3∈low,cO a3)/\(∀ a3∈a9,cO a3)/\cW A (a.map (·.1)++[name]) body:=by
     simp only [ei] at S;rcases S with b | b | b
     ·exact b.2
     ·exact absurd b.1 (by decide)
     ·exact absurd b.1 (by decide)
    obtain ⟨cs,cp,cl,cq,cn,cb⟩:=cx;have Z:dE X=iC body:=by rw [p]; simp [dE]
    rw [Z] at K M;simp;refine ACalls.pure bc fun a4 a5=>?_;have b0:=yo A f go P Q bk name low a9 U body bt array subs (.mk c5 n ca b9 b' b8) d a (l++[(i:Int)]) k e m a4 cs cp cl cq cn cb ao ar (by omega) (by omega) (T.frame a5 fun _ _=>rfl)
    rw [Step.cells_mk,<-p] at b0;simp [z];refine b0.mono ?_;rintro av ⟨c,h⟩ J ⟨rfl,g,C,G⟩;have ab:RFp D (k.own f go) (g.own f go) m c:=⟨fun N W a2=>C.same N (by omega) a2,fun N W=>(C.rows N W).imp id fun m=>by omega⟩
    simp only at J C G;by_cases t:(bL d a (l++[(i:Int)]) X e).1=0
    ·simp [t,y,ax,M,z];exact K c h g _ (by omega) (G t) ab (Prod.ext t rfl) _ (by simp)
    ·simp [t];exact a7 c h g _ _ t ab rfl
   by_cases b4:kind=2
   ·subst b4;have bc:=sG body (by omega)
    have b2:(∀ q∈U,OkForm q)/\cW A (a.map (·.1)) body:=by
     simp only [ei] at S;rcases S with b | b | b
     ·exact absurd b.1 (by decide)
     ·exact b.2
     ·exact absurd b.1 (by decide)
    have w:bL d a (l++[(i:Int)]) X e=if U.all (fun q=>decide (0<=aN (aC a) q))=true then ba d a (l++[(i:Int)]) 0 body e else (0,e):=by rw [p]; simp [bL]
    have Z:dE X=iC body:=by rw [p]; simp [dE]
    rw [Z] at K M;simp;refine ACalls.pure bc fun a4 a5=>?_;have bj:=T.frame a5 fun _ _=>rfl;simp;refine ACalls.at (yp U b2.1 a ao ar (by omega) f go 0 k.names k.now m a4 bj.now) fun bo bx=>?_
    by_cases am:U.all (fun q=>decide (0<=aN (aC a) q))=true
    ·rw [if_pos am] at w;simp [am,z];refine (bk body bt d a (l++[(i:Int)]) k e m bo b2.2 ao ar (by omega) (by omega) (bj.frame bx fun _ _=>rfl)).mono ?_
     rintro av ⟨c,h⟩ J ⟨rfl,g,C,G⟩;have ab:RFp D (k.own f go) (g.own f go) m c:=⟨fun N W a2=>C.same N (by omega) a2,fun N W=>(C.rows N W).imp id fun m=>by omega⟩
     simp only at J C G;rw [<-w] at G ⊢;by_cases t:(bL d a (l++[(i:Int)]) X e).1=0
     ·simp [t,y,ax,M,z];exact K c h g _ (by omega) (G t) ab (Prod.ext t rfl) _ (by simp)
     ·simp [t];exact a7 c h g _ _ t ab rfl
    ·rw [if_neg am] at w;simp [am,y,ax,M,z];exact K m bo k e (by omega) (bj.frame bx fun _ _=>rfl) RFp.refl w _ (by simp)
   have c0:kind=3/\body=[]:=by
    simp only [ei] at S;rcases S with b | b | b
    ·exact absurd b.1 b3
    ·exact absurd b.1 b4
    ·exact ⟨b.1,b.2.1⟩
   obtain ⟨rfl,rfl⟩:=c0;have Z:dE X=1:=by rw [p]; simp [dE,iC]
   rw [Z] at K;have M:=q0 (x:=(d:Int)+1)
   have c2:=yq d (by omega) X (l++[(i:Int)]) a (by omega) f go P k e m D T
   simp [z];refine c2.mono ?_;rintro av ⟨c,h⟩ J Y;simp only at J Y;by_cases ap:e.l.length=50000
   ·rw [if_pos ap] at Y;obtain ⟨rfl,rfl⟩:=Y;simp;exact a7 c h k 12 e (by decide) RFp.refl (by rw [p]; simp [bL,ap])
   ·rw [if_neg ap] at Y;obtain ⟨rfl,g,C,G⟩:=Y;simp [y,ax,M,z];exact K c h g _ J C G (by rw [p]; simp [bL,ap]) _ (by simp)
def stCells (y:Wb.Step×List Wb.Step):List AV:=y.1.cells++[row (y.2.map Step.cells),row ((dm (Step.expr y.1)).map Expr.cells)]
theorem tV (around:List Wb.Step) (l:List Wb.Step):((bS around l).filter dq).map il=(bn around l).map stCells:=by
 rw [jg,y3]; rfl
structure PlayAt (h:Heap) (c0 c go:Nat) (p:Wb.Prog) (stm which vals acc frm:AV):Prop where
 obj:h go=some (.row 6 [[stm,which,vals,.int (aB p).2.rounds,acc,frm]] .live none)
 hstm:RowAt h 17 stm ((bn [] p.steps).map stCells)
 hwhich:RowAt h 1 which (an ((aB p).2.l.map fun i=>(i.num:Int)))
 hvals:RowAt h 1 vals ((aB p).2.l.map fun i=>[row (an (i.env.map (·.2)))])
 goc:c0<=go/\go<c
 sc:∀ k,au stm k->c0<=k/\k<c/\k≠go
 wc:∀ k,au which k->c0<=k/\k<c/\k≠go
 vc:∀ k,au vals k->c0<=k/\k<c/\k≠go
 len:(aB p).2.l.length<=50000
 rounds:0<=(aB p).2.rounds/\(aB p).2.rounds<=200000
 d:∀ k,(au stm k->¬au which k/\¬au vals k)/\(au which k->¬au vals k)
theorem qq {A:List Wb.Array}:∀ (around:List Wb.Step) (x:Wb.Step) (L:List ByteArray),ei A L x->∀ y∈gL around x,Step.kind y.1=3->cM (Step.expr y.1)<=4096
 | around,.mk kind name low high conds body array subs expr,L,h=>by
  intro y hy hk;simp only [gL,se] at hy;rcases hy with rfl | hy
  ·simp only [Step.kind] at hk;simp only [ei] at h;rcases h with h | h | h
   ·exact absurd (h.1.symm.trans hk) (by decide)
   ·exact absurd (h.1.symm.trans hk) (by decide)
   ·exact h.2.2.2.2
  ·simp only [ei] at h;rcases h with h | h | h
   ·exact walk_readsL _ body _ h.2.2.2.2.2.2 y hy hk
   ·exact walk_readsL _ body _ h.2.2 y hy hk
   ·rw [h.2.1] at hy; simp [bS] at hy
where
 walk_readsL:∀ (around:List Wb.Step) (l:List Wb.Step) (L:List ByteArray),cW A L l->∀ y∈bS around l,Step.kind y.1=3->cM (Step.expr y.1)<=4096
  | around,[],L,_,y,hy,_=>by simp [bS] at hy
  | around,s::ss,L,h,y,hy,hk=>by
   simp only [bS,rd] at hy;rcases hy with hy | hy
   ·exact qq around s L h.1 y hy hk
   ·exact walk_readsL around ss L h.2 y hy hk
theorem zn (c f:Nat) (K:c≠f):Sees 284 [] [.ptr c 0 0] (pb c f) 1000 (fun X=>Step.kind X=3->cM (Step.expr X)<=4096):=by
 have v:∀ {g F d m},pb c f g F d->(∀ a,F a->m a=d a)->pb c f g F m:=by
  rintro g F d m ⟨p,y,q,t,h⟩ o;exact ⟨(o c ((h c).2 (.inl rfl))).trans p,y,(o f ((h f).2 (.inr (.inl rfl)))).trans q,t.frame fun a b=>o a ((h a).2 (.inr (.inr b))),h⟩
 have w:∀ {g F d},pb c f g F d->∀ a,F a->pA d a:=by
  rintro g F d ⟨p,y,q,t,h⟩ a b T C S R e;rcases (h a).1 b with rfl | rfl | b
  ·rw [p] at e; cases e
  ·rw [q] at e; cases e
  ·rcases t with ⟨l,_⟩ | ⟨Y,l,J⟩
   ·rw [l] at b; exact aL b
   ·rw [l] at b; have:=aq.1 b; subst this; rw [J] at e; cases e
 refine ⟨v,w,fun g F X around U d u ab N G D O H=>?_⟩;refine ACalls.dropF u (yf (X,around) N H U c f K g (by omega) F d u G D O) ?_
 rintro av ⟨Z,W⟩ aa ⟨z,x,P,Q⟩;refine ⟨z,v x fun a b=>jA (w x a b),P,fun a b M=>(fM b).trans (Q a b M),fun a b T C S R e=>?_⟩;obtain ⟨_,k⟩:=eC e;rcases k with k | k
 ·omega
 ·exact k _ _ _ _ rfl
theorem xQ (p:Wb.Prog) (S:Right p) (bf:aw p.steps<=300) (k:Heap) (d:Nat) :
  ACalls Pg 213 [p.av] ⟨k,d⟩ fun av s'=>Fr d k s'.h s'.c/\if (aB p).1=0 then ∃ go l a8 a7,av=.tup [.ptr go 0 0,.int 0]/\PlayAt s'.h d s'.c go p l a8 a7 (.sl [] true) (.sl [] true) else av=.tup [.nilp,.int (aB p).1]:=by
 refine Fn213.calls .keep ?_;unfold Fn213.ac;simp [Prog.av,aH];obtain ⟨g,q⟩:∃ g,g=upd (upd (upd k d (some (.row 2 [[row (p.arrays.map Array.cells),row (p.steps.map Step.cells)]] .live none))) (d+1) (some (.row 6 [[AV.nil,AV.nil,AV.nil,AV.int 0,AV.nil,AV.nil]] .live none))) (d+1+1) (some (.row 1 [[.ptr (d+1) 0 0]] .live none)):=⟨_,rfl⟩;rw [<-q];have O:g d=some (.row 2 [[row (p.arrays.map Array.cells),row (p.steps.map Step.cells)]] .live none):=by rw [q,qv,qv,ae]
 have W:g (d+1)=some (.row 6 [[AV.nil,AV.nil,AV.nil,AV.int 0,AV.nil,AV.nil]] .live none):=by rw [q,qv,ae]
 have Y:g (d+1+1)=some (.row 1 [[.ptr (d+1) 0 0]] .live none):=by rw [q,ae]
 have Z:∀ a,a<d->g a=k a:=fun a b=>by rw [q,qv,qv,qv]
 have a3:pb (d+1+1) (d+1) [] (fun a=>a=d+1+1\/a=d+1) g:=⟨Y,.sl [] true,W,.inl ⟨rfl,rfl⟩,fun a=>⟨fun c=>c.elim .inl fun c=>.inr (.inl c),fun c=>by
  rcases c with c | c | c
  ·exact .inl c
  ·exact .inr c
  ·exact absurd c aL⟩⟩
 have a4:=oT (zn (d+1+1) (d+1) (by omega)) (aw p.steps) p.steps (q5 _) [] (fun a=>a=d+1+1\/a=d+1) [] (.sl [] true) g (d+1+1+1) (by simp; omega) (fun a9 a5=>qq.walk_readsL [] p.steps [] S.steps a9 a5) a3 (fun a b=>by omega) (.inl ⟨rfl,rfl⟩) (by simp; omega)
 simp [O];refine a4.mono ?_;rintro av ⟨o,e⟩ ap ⟨a',⟨H,l,J,u,a6⟩,P,y,_,_⟩;rw [u5,tV] at u;simp only at ap H J u P y;have ai:o d=_:=(y d (by omega) (by omega) aL).trans O
 have am:∀ a,a<d->o a=k a:=fun a b=>(y a (by omega) (by omega) aL).trans (Z a b)
 have m:∀ a,au l a->d<=a/\a<e/\a≠d+1:=fun a b=>by
  have bc:a≠d+1:=by
   rintro rfl;rcases u with ⟨x,_⟩ | ⟨bb,x,Q⟩
   ·rw [x] at b; exact aL b
   ·rw [x] at b; have:=aq.1 b; subst this; rw [J] at Q; cases Q
  rcases P a ((a6 a).2 (.inr (.inr b))) with c | c
  ·omega
  ·omega
 obtain ⟨h,C⟩:∃ h,h=upd o e (some (.row 4 [[.ptr (d+1) 0 0,.int 0,.nil,.nil]] .live none)):=⟨_,rfl⟩;have aa:h e=_:=(congrFun C e).trans ae;have K:∀ a,a<e->h a=o a:=fun a b=>by rw [C,qv]
 have a0:RI h (e+1) e (d+1) l [] ⟨.sl [] true,.sl [] true,.sl [] true,.sl [] true⟩ ⟨0,[]⟩:=by
  refine ⟨⟨aa,.inl ⟨rfl,rfl⟩,.inl ⟨rfl,rfl⟩,by omega,fun a b=>absurd b aL,fun a b=>absurd b aL⟩,(K _ (by omega)).trans J,.inl ⟨rfl,rfl⟩,.inl ⟨rfl,rfl⟩,?_,fun a b=>absurd b aL,fun a b=>absurd b aL,fun a b=>absurd b aL,fun a b=>absurd b aL,by omega,by simp,by simp⟩
  rintro a (c | c | c | c | c | c)
  ·omega
  ·omega
  all_goals exact absurd c aL
 have a2:=yg p.arrays e (d+1) l (aw p.steps) p.steps (q5 _) 0 [] [] _ ⟨0,[]⟩ h (e+1) S.steps (fun bj ax=>by cases ax) (by simp) (by simp; omega) (by omega) a0
 have al:h d=_:=(K d (by omega)).trans ai
 simp [H,aH,<-C,al];refine a2.mono ?_;rintro av ⟨z,t⟩ ar ⟨rfl,w,v,N⟩;simp only at ar v N;have D:∀ a,RR.own ⟨.sl [] true,.sl [] true,.sl [] true,.sl [] true⟩ e (d+1) a->a=e\/a=d+1:=by
  rintro a (c | c | c | c | c | c)
  ·exact .inl c
  ·exact .inr c
  all_goals exact absurd c aL
 have M:∀ a,a<e->a≠d+1->z a=o a:=fun a b bi=>(v.same a (by omega) fun c=>by have:=D a c; omega).trans (K a b)
 have ab:z (d+1+1)=_:=(M _ (by omega) (by omega)).trans H
 have R:∀ a,a<d->z a=k a:=fun a b=>(M a (by omega) (by omega)).trans (am a b)
 have a1:ba 0 [] [] 0 p.steps ⟨0,[]⟩=aB p:=rfl;rw [a1] at N ⊢;by_cases G:(aB p).1=0
 ·have f:=N G;have U:∀ a,au w.which a->e+1<=a/\a<t:=fun a b=>by
   have ag:=f.d3 a b;have ao:=f.lt a (.inr (.inr (.inr (.inr (.inl b)))));rcases v.rows a (.inr (.inr (.inr (.inr (.inl b))))) with c | c
   ·have:=D a c; omega
   ·omega
  have T:∀ a,au w.vals a->e+1<=a/\a<t:=fun a b=>by
   have ag:=f.d4 a b;have ao:=f.lt a (.inr (.inr (.inr (.inr (.inr b)))));rcases v.rows a (.inr (.inr (.inr (.inr (.inr b))))) with c | c
   ·have:=D a c; omega
   ·omega
  simp [G,ab];refine ⟨⟨by show d<=t; omega,R⟩,l,w.which,w.vals,f.obj,u.frame fun a b=>M a (m a b).2.1 (m a b).2.2,f.which,f.vals,⟨by omega,by omega⟩,fun a b=>by have:=m a b; omega,fun a b=>by have:=U a b; have:=(f.d3 a b).2.1; omega,fun a b=>by have:=T a b; have:=(f.d4 a b).2; omega,f.len,f.rounds,fun a=>⟨fun b=>⟨fun c=>?_,fun c=>?_⟩,fun b=>(f.d3 a b).2.2⟩⟩
  ·have:=m a b; have:=U a c; omega
  ·have:=m a b; have:=T a c; omega
 ·simp [G];exact ⟨by show d<=t; omega,R⟩
structure PlO (h:Heap) (c go:Nat) (st:List (Wb.Step×List Wb.Step)) (l:List Inst) (stm which vals:AV):Prop where
 obj:∃ a b d,h go=some (.row 6 [[stm,which,vals,a,b,d]] .live none)
 hstm:RowAt h 17 stm (st.map stCells)
 hwhich:RowAt h 1 which (an (l.map fun i=>(i.num:Int)))
 hvals:RowAt h 1 vals (l.map fun i=>[row (an (i.env.map (·.2)))])
 goc:go<c
 sb:∀ k,au stm k->k<c
 wb:∀ k,au which k->k<c
 vb:∀ k,au vals k->k<c
theorem PlO.fr {h h':Heap} {c c' go:Nat} {e:List (Wb.Step×List Wb.Step)} {l:List Inst} {f k g:AV} (x:PlO h c go e l f k g) (d:Fr c h h' c'):PlO h' c' go e l f k g:=by
 obtain ⟨⟨q,t,u,v⟩,w,y,z,C,m,o,p⟩:=x;have:=d.c;exact ⟨⟨q,t,u,(d.h go C).trans v⟩,w.frame fun a b=>d.h a (m a b),y.frame fun a b=>d.h a (o a b),z.frame fun a b=>d.h a (p a b),by omega,fun a b=>by have:=m a b; omega,fun a b=>by have:=o a b; omega,fun a b=>by have:=p a b; omega⟩
theorem _root_.Go.AM.RowAt.at {h:Heap} {sz:Nat} {x:AV} {es:List (List AV)} (r:RowAt h sz x es) {i:Nat} (b:i<es.length):∃ g,x=.row g sz 0 es.length/\h g=some (.row sz es .live none):=by
 rcases r with ⟨_,rfl⟩ | ⟨g,rfl,a⟩
 ·simp at b
 ·exact ⟨g,rfl,a⟩
theorem yr (x:ByteArray) (Q:List (Wb.Step×List Wb.Step)) (l:List Inst) (R Y W:AV) (go i t p q:Nat) (I:Inst) (c:List Wb.Step) (b:Heap) (k:Nat) (M:PlO b k go Q l R Y W) (m:i<l.length) (w:l[i]=I) (z:c.map Step.name=I.env.map (·.1)) (a2:c.length<=1000000)
  (u:b t=some (.row 1 [[row (c.map Step.cells)]] .live none)) (G:b p=some (.row 1 [[.ptr go 0 0]] .live none)) (H:b q=some (.row 1 [[.int i]] .live none)) :
  ACalls Pg 331 [.str x,.ptr t 0 0,.ptr p 0 0,.ptr q 0 0] ⟨b,k⟩ fun av s'=>av=.int (aC I.env x)/\s'.h=b:=by
 refine Fn331.calls .frz ?_;unfold Fn331.ac;obtain ⟨⟨Z,ab,ai,D⟩,a4,a5,P,a6,a7,a8,a9⟩:=M;obtain ⟨ap,T,U⟩:=P.at (i:=i) (by simpa using m)
 rw [T] at D;have ar:I.env.length=c.length:=by have:=congrArg List.length z; simpa using this.symm
 simp [u];obtain ⟨h,e⟩:∃ h:Nat->List Wb.Step->Slots->St->Prop,h=fun i r bb s'=>s'=⟨b,k⟩/\bw I.env x=bw (I.env.drop i) x:=⟨_,rfl⟩;refine aZ 9 Fn331.W0 c h (by rfl) (by rfl) ?_ ?_ ?_
 ·rw [e]; exact ⟨by simp,rfl,rfl⟩
 ·intro S s' d a;rw [e] at a;obtain ⟨rfl,a⟩:=a;rw [u2 (by omega)] at a
  simp [d,aC,a,bw]
 ·intro j X xs S s' y C a1 d a;rw [e] at a;obtain ⟨rfl,a⟩:=a;have O:=q0 (x:=(j:Int)+1)
  have f:j<I.env.length:=by omega
  have o:(I.env[j]).1=Step.name X:=by
   have v:(c.map Step.name)[j]?=(I.env.map (·.1))[j]?:=by rw [z]
   simp [y,f,C] at v;exact v.symm
  rw [xv f] at a;obtain ⟨kind,name,low,a0,ag,body,array,subs,⟨a',a3,ao,al,am,aa⟩⟩:=X;simp only [Step.name] at o;have ax:(l.map fun i=>[row (an (i.env.map (·.2)))])[i]?=some [row (an (I.env.map (·.2)))]:=by simp [m,w]
  have K:(an (I.env.map (·.2)))[j]?=some [.int (I.env[j]).2]:=by simp [an,f]
  have N:l[i].env=I.env:=by rw [w]
  simp [d,y,C,u,Step.cells_mk];by_cases g:name=x
  ·simp only [bw] at a;rw [if_pos (g.symm.trans o.symm)] at a;simp [g,G,H,D,m,U,d,N,K,f,aC,a]
  ·simp only [bw] at a;rw [if_neg (fun J=>g (J.trans o).symm)] at a;simp [g,d,O];rw [e];exact ⟨rfl,a⟩
theorem yh (A:List Wb.Array) (e:List (Wb.Step×List Wb.Step)) (l:List Inst) (Q T R:AV) (go i:Nat) (I:Inst) (ab:l[i]?=some I) (H:InstOk A e I) (a1:∀ y∈e,y.2.length<=1000000) (f:Wb.Form) (al:OkForm f) (g:Heap) (a:Nat) (ar:PlO g a go e l Q T R) :
  ACalls Pg 286 [.ptr go 0 0,.int i,f.av] ⟨g,a⟩ fun av s'=>av=.int (aN (aC I.env) f)/\s'.h=g:=by
 refine Fn286.calls .frz ?_;unfold Fn286.ac;obtain ⟨m,p⟩:=q4.1 ab;obtain ⟨d,z,ap⟩:=H.at_;obtain ⟨q,G⟩:=q4.1 z;have ao:=a1 _ (r8 z);have o:Fr a g (upd (upd (upd g a (some (.row 1 [[.ptr go 0 0]] .live none))) (a+1) (some (.row 1 [[.int i]] .live none))) (a+1+1) (some (.row 2 [[.int f.const,row (f.terms.map Term.cells)]] .live none))) (a+1+1+1):=⟨by omega,fun K C=>by rw [qv,qv,qv]⟩
 obtain ⟨c,h⟩:∃ c,c=upd (upd (upd g a (some (.row 1 [[.ptr go 0 0]] .live none))) (a+1) (some (.row 1 [[.int i]] .live none))) (a+1+1) (some (.row 2 [[.int f.const,row (f.terms.map Term.cells)]] .live none)):=⟨_,rfl⟩;have t:c a=some (.row 1 [[.ptr go 0 0]] .live none):=by rw [h,qv,qv,ae]
 have u:c (a+1)=some (.row 1 [[.int i]] .live none):=by rw [h,qv,ae]
 have v:c (a+1+1)=some (.row 2 [[.int f.const,row (f.terms.map Term.cells)]] .live none):=by rw [h,ae]
 rw [<-h] at o;have J:=ar.fr o;have ax:=J;obtain ⟨⟨bi,b,bk,O⟩,a7,a8,bN,bW,a9,a',b0⟩:=J;obtain ⟨w,P,bb⟩:=a7.at (i:=I.num) (by simpa using q)
 obtain ⟨x,S,bc⟩:=a8.at (i:=i) (by simpa [an] using m)
 have W:(e.map stCells).length=e.length:=by simp
 have Y:(an (l.map fun i=>(i.num:Int))).length=l.length:=by simp [an]
 rw [P,S,W,Y] at O;have am:(an (l.map fun i=>(i.num:Int)))[i]?=some [.int I.num]:=by simp [an,m,p]
 have bm:(e.map stCells)[I.num]?=some (stCells (I.step,d)):=by simp [q,G]
 have a2:stCells (I.step,d)=I.step.cells++[row (d.map Step.cells),row ((dm (Step.expr I.step)).map Expr.cells)]:=rfl;have ai:(stCells (I.step,d))[15]?=some (row (d.map Step.cells)):=by rw [a2,r1 (by rw [eF]; omega),eF]; rfl
 have bo:(I.num:Int)<e.length:=by omega
 simp [Form.av,Form.cells,<-h];have ag:l[i].num=I.num:=by rw [p]
 have bt:=a9 w (by rw [P]; exact aq.2 rfl)
 have bx:=a' x (by rw [S]; exact aq.2 rfl)
 have M:∀ {b:Option Body},upd c (a+1+1+1) b a=some (.row 1 [[.ptr go 0 0]] .live none):=fun {b}=>by rw [qv]; exact t
 have N:∀ {b:Option Body},upd c (a+1+1+1) b (a+1)=some (.row 1 [[.int i]] .live none):=fun {b}=>by rw [qv]; exact u
 have a3:∀ {b:Option Body},upd c (a+1+1+1) b (a+1+1)=some (.row 2 [[.int f.const,row (f.terms.map Term.cells)]] .live none):=fun {b}=>by rw [qv]; exact v
 have a4:∀ {b:Option Body},upd c (a+1+1+1) b go=_:=fun {b}=>by rw [qv]
 have a5:∀ {b:Option Body},upd c (a+1+1+1) b w=_:=fun {b}=>by rw [qv]
 have a6:∀ {b:Option Body},upd c (a+1+1+1) b x=_:=fun {b}=>by rw [qv]
 have aa:Fr (a+1+1+1) c (upd c (a+1+1+1) (some (.row 1 [[row (d.map Step.cells)]] .live none))) (a+1+1+1+1):=(Fr.refl _ _).upd (q5 _) (rv _);have a0:SaysI 331 [] [.ptr (a+1+1+1) 0 0,.ptr a 0 0,.ptr (a+1) 0 0] (upd c (a+1+1+1) (some (.row 1 [[row (d.map Step.cells)]] .live none))) (a+1+1+1+1) (aC I.env):=fun bf Z U k=>
  yr bf e l Q T R go i _ _ _ I d Z U ((ax.fr aa).fr k) m p ap ao ((k.h _ (by omega)).trans ae) ((k.h _ (by omega)).trans M) ((k.h _ (by omega)).trans N)
 have D:=sH f al 331 [] [.ptr (a+1+1+1) 0 0,.ptr a 0 0,.ptr (a+1) 0 0] (aC I.env) (cY H.env) _ _ a0;rw [Form.av,Form.cells] at D;simp [t,u,v,O,m,bc,am,ag,q,bb,G,ai,M,N,a3,a4,a5,a6];refine ACalls.at D fun bj bl=>?_;simp;exact aA fun K C=>by rw [qv]; exact o.h K C
theorem jf {b:ByteArray->Int}:∀ {zs:List Int} {a:List Wb.Form} {n:Int},(dd b zs a n false).2=false
 | [],_,_=>by cases ‹List Wb.Form› <;> rfl
 | _::_,[],_=>rfl
 | d::zs,c::a,n=>by simp only [dd,Bool.false_and]; exact jf
theorem xS (A:List Wb.Array) (x:List (Wb.Step×List Wb.Step)) (l:List Inst) (W Z Y:AV) (go i:Nat) (I:Inst) (ab:l[i]?=some I) (S:InstOk A x I) (ax:∀ y∈x,y.2.length<=1000000) (a:Wb.Array) (subs:List Wb.Form) (a0:∀ f∈subs,OkForm f) (a8:a.sizes.length=subs.length) (e:Heap) (c:Nat) (ap:PlO e c go x l W Z Y) :
  ACalls Pg 215 [.ptr go 0 0,.int i,.agg a.cells,row (subs.map Form.cells)] ⟨e,c⟩ fun av s'=>s'.h=e/\∃ n:Int,av=.tup [.int n,.bool (dd (aC I.env) a.sizes subs 0 true).2]/\((dd (aC I.env) a.sizes subs 0 true).2=true->n=(dd (aC I.env) a.sizes subs 0 true).1):=by
 refine ACalls.small fun ar=>?_;have a9:subs.length<=68719476736:=by simp at ar; omega
 refine Fn215.calls .frz ?_;unfold Fn215.ac;have a':=cY S.env;simp [Array.cells];obtain ⟨m,G⟩:∃ m,m=upd e c (some (.row 2 [[.str a.key,row (an a.sizes)]] .live none)):=⟨_,rfl⟩;rw [<-G];have ag:m c=_:=(congrFun G c).trans ae;have C:Fr c e m (c+1):=by rw [G]; exact (Fr.refl _ _).upd (q5 _) (rv _)
 obtain ⟨z,u⟩:∃ z:Nat->List Wb.Form->Slots->St->Prop,z=fun i r a4 s'=>∃ n:Int,a4 10=.int n/\dd (aC I.env) (a.sizes.drop i) r n true=dd (aC I.env) a.sizes subs 0 true:=⟨_,rfl⟩;refine bu 16 Fn215.W0 subs z (by rfl) (by rfl) ?_ ?_ ?_
 ·rw [u]; exact ⟨by simp,0,by simp,rfl⟩
 ·intro a5 O h w q p;rw [u] at p;obtain ⟨n,o,b⟩:=p;rw [u2 (by omega)] at b
  simp only [dd] at b;simp at o;rw [<-b];simp [w,o];exact (C.trans q).retH
 ·intro j f a6 a5 O h am a2 ao w q p;rw [u] at p;obtain ⟨n,o,b⟩:=p;simp at o;have a1:=q0 (x:=(j:Int)+1)
  have v:j<a.sizes.length:=by omega
  rw [xv v] at b;simp only [dd] at b;have ai:=q.c;have N:(an a.sizes)[j]?=some [.int a.sizes[j]]:=by simp [an,v]
  obtain ⟨g,H⟩:∃ g,g=upd O h (some (.row 2 [[.int f.const,row (f.terms.map Term.cells)]] .live none)):=⟨_,rfl⟩;have t:Fr (c+1) m g (h+1):=by rw [H]; exact q.upd ai (rv _)
  have P:g c=_:=(t.h c (by omega)).trans ag
  have al:g h=_:=(congrFun H h).trans ae;have M:=yh A x l W Z Y go i I ab S ax f (a0 f (aU ao)) g (h+1) (ap.fr (C.trans t));rw [Form.av,Form.cells] at M;obtain ⟨d,T⟩:∃ d,d=aN (aC I.env) f:=⟨_,rfl⟩;obtain ⟨k,U⟩:∃ k,k=a.sizes[j]:=⟨_,rfl⟩;rw [<-U] at N;rw [<-T,<-U] at b;rw [<-T] at M;have R:retH c e g=e:=(C.trans t).retH;simp [w,am,a2,Form.cells,<-H,al];refine ACalls.at M fun aa a7=>?_;by_cases J:d<0
  ·have K:¬(0<=d/\d<=k-1):=by omega
   rw [decide_eq_false K,Bool.and_false] at b;have D:(dd (aC I.env) a.sizes subs 0 true).2=false:=by rw [<-b]; exact jf
   simp [J,D];exact R
  by_cases Q:k<=d
  ·have K:¬(0<=d/\d<=k-1):=by omega
   rw [decide_eq_false K,Bool.and_false] at b;have D:(dd (aC I.env) a.sizes subs 0 true).2=false:=by rw [<-b]; exact jf
   simp [J,Q,D,P,v,N];exact R
  ·have a3:0<=d/\d<=k-1:=by omega
   rw [decide_eq_true a3,EQ] at b;simp [J,Q,P,v,N,o,w,a1];refine ⟨⟨by show c+1<=aa; omega,t.h⟩,?_⟩
   rw [u];exact ⟨_,by simp,b⟩
structure RunI (h:Heap) (c go b9:Nat) (st:List (Wb.Step×List Wb.Step)) (l:List Inst) (stm which vals rnd acc frm:AV) (n:Int) (es frs:List (List AV)):Prop where
 plo:PlO h c go st l stm which vals
 obj:h go=some (.row 6 [[stm,which,vals,rnd,acc,frm]] .live none)
 hacc:RowAt h 4 acc es
 hfrm:RowAt h 1 frm frs
 cnt:h b9=some (.row 1 [[.int n]] .live none)
 bc:b9<c
 ab:∀ k,au acc k->k<c/\k≠go/\k≠b9/\¬au frm k
 fb:∀ k,au frm k->k<c/\k≠go/\k≠b9
 gb:go≠b9
 nd:∀ k,au stm k\/au which k\/au vals k->k≠go/\k≠b9/\¬au acc k/\¬au frm k
 rc:rnd.cell=true
 esok:∀ e∈es,aF 4 e=true
 frok:∀ e∈frs,aF 1 e=true
 len:(es.length:Int)<=n/\es.length<=200000/\frs.length<=100000
 nb:0<=n/\n<=1000000000
def tM (go b:Nat) (a c:AV) (k:Nat):Prop:=k=go\/k=b\/au a k\/au c k
theorem RunI.frame {h h':Heap} {c c' go f:Nat} {o:List (Wb.Step×List Wb.Step)} {l:List Inst} {p t q m e g:AV} {n:Int} {es k:List (List AV)} (x:RunI h c go f o l p t q m e g n es k) (d:Fr c h h' c'):RunI h' c' go f o l p t q m e g n es k:=by
 have u:=d.c;exact ⟨x.plo.fr d,(d.h _ x.plo.goc).trans x.obj,x.hacc.frame fun a b=>d.h a (x.ab a b).1,x.hfrm.frame fun a b=>d.h a (x.fb a b).1,(d.h _ x.bc).trans x.cnt,by have:=x.bc; omega,fun a b=>⟨by have:=(x.ab a b).1; omega,(x.ab a b).2⟩,fun a b=>⟨by have:=(x.fb a b).1; omega,(x.fb a b).2⟩,x.gb,x.nd,x.rc,x.esok,x.frok,x.len,x.nb⟩
theorem RunI.count {h:Heap} {c go f:Nat} {p:List (Wb.Step×List Wb.Step)} {l:List Inst} {q u t o g k:AV} {n:Int} {es m:List (List AV)} (x:RunI h c go f p l q u t o g k n es m) (C:n<1000000000):RunI (AM.upd h f (some (.row 1 [[.int (n+1)]] .live none))) c go f p l q u t o g k (n+1) es m:=by
 have e:∀ a,a≠f->AM.upd h f (some (.row 1 [[.int (n+1)]] .live none)) a=h a:=fun a b=>ad b;have d:=x.plo;obtain ⟨v,w,y,z⟩:=d.obj;exact ⟨⟨⟨v,w,y,(e _ x.gb).trans z⟩,d.hstm.frame fun a b=>e a (x.nd a (.inl b)).2.1,d.hwhich.frame fun a b=>e a (x.nd a (.inr (.inl b))).2.1,d.hvals.frame fun a b=>e a (x.nd a (.inr (.inr b))).2.1,d.goc,d.sb,d.wb,d.vb⟩,(e _ x.gb).trans x.obj,x.hacc.frame fun a b=>e a (x.ab a b).2.2.1,x.hfrm.frame fun a b=>e a (x.fb a b).2.2,ae,x.bc,x.ab,x.fb,x.gb,x.nd,x.rc,x.esok,x.frok,by have:=x.len; omega,by have:=x.nb; omega⟩
theorem RunI.re {h h':Heap} {c c' go f:Nat} {D:List (Wb.Step×List Wb.Step)} {l:List Inst} {g o m v q t acc' frm':AV} {n:Int} {es H es' p:List (List AV)} (x:RunI h c go f D l g o m v q t n es H)
  (y:h' go=some (.row 6 [[g,o,m,v,acc',frm']] .live none)) (M:RowAt h' 4 acc' es') (O:RowAt h' 1 frm' p) (w:∀ k,k<c->k≠go->¬au q k->¬au t k->h' k=h k) (S:c<=c')
  (z:∀ k,au acc' k->au q k\/(c<=k/\k<c')) (nF:∀ k,au frm' k->au t k\/(c<=k/\k<c')) (C:∀ k,au acc' k->¬au frm' k)
  (N:∀ e∈es',aF 4 e=true) (P:∀ e∈p,aF 1 e=true) (Q:(es'.length:Int)<=n/\es'.length<=200000/\p.length<=100000):RunI h' c' go f D l g o m v acc' frm' n es' p:=by
 have a:=x.plo;have G:=x.bc;have u:∀ k,au g k\/au o k\/au m k->h' k=h k:=fun k h=>by
  have b:=x.nd k h;have:k<c:=h.elim (a.sb k) fun h=>h.elim (a.wb k) (a.vb k);exact w k this b.1 b.2.2.1 b.2.2.2
 have R:∀ k,au g k\/au o k\/au m k->k<c:=fun k h=>h.elim (a.sb k) fun h=>h.elim (a.wb k) (a.vb k);refine ⟨⟨⟨_,_,_,y⟩,a.hstm.frame fun k h=>u k (.inl h),a.hwhich.frame fun k h=>u k (.inr (.inl h)),a.hvals.frame fun k h=>u k (.inr (.inr h)),by have:=a.goc; omega,fun k h=>by have:=a.sb k h; omega,fun k h=>by have:=a.wb k h; omega,fun k h=>by have:=a.vb k h; omega⟩,y,M,O,(w f G (s4 x.gb) (fun h=>(x.ab f h).2.2.1 rfl) (fun h=>(x.fb f h).2.2 rfl)).trans x.cnt,by omega,?_,?_,x.gb,?_,x.rc,N,P,Q,x.nb⟩
 ·intro k h;have J:=a.goc;rcases z k h with d | d
  ·have b:=x.ab k d;exact ⟨by omega,b.2.1,b.2.2.1,C k h⟩
  ·exact ⟨by omega,by omega,by omega,C k h⟩
 ·intro k h;have J:=a.goc;rcases nF k h with d | d
  ·have b:=x.fb k d;exact ⟨by omega,b.2.1,b.2.2⟩
  ·exact ⟨by omega,by omega,by omega⟩
 ·intro k h;have b:=x.nd k h;have:=R k h;exact ⟨b.1,b.2.1,fun d=>(z k d).elim b.2.2.1 fun K=>by omega,fun d=>(nF k d).elim b.2.2.2 fun K=>by omega⟩
def dQ (k:Nat) (w:Bool) (s:Wb.Spot):List AV:=[.int k,.bool w,.str s.array,.int s.cell]
theorem xR (A:List Wb.Array) (D:List (Wb.Step×List Wb.Step)) (l:List Inst) (K N M U o u:AV) (go p G h Q ver i:Nat) (I:Inst) (a2:l[i]?=some I) (bf:InstOk A D I) (bk:∀ y∈D,y.2.length<=1000000) (w:Bool) (key:ByteArray) (subs:List Wb.Form) (bl:fA A key subs) (n:Int) (es W:List (List AV)) (bc:n<1000000000)
  (q:Heap) (g:Nat) (x:RunI q g go h D l K N M U o u n es W) (P:q p=some (.row 1 [[.ptr go 0 0]] .live none)) (a0:q G=some (.row 1 [[.map Q]] .live none)) (ax:p<g/\p≠h) (b3:G<g/\G≠h) (b5:Q<g) (m:List (ByteArray×Wb.Array)) (a8:q Q=some (.map (kvs AV.str (fun a=>AV.agg (Array.cells a)) m) ver)) (bb:∀ (j:Nat) (a:Wb.Array),A[j]?=some a->bw m a.key=some a) :
  ACalls Pg 214 [.int i,.bool w,.str key,row (subs.map Form.cells),.ptr p 0 0,.ptr G 0 0,.ptr h 0 0] ⟨q,g⟩ fun av s'=>av=.bool (bY A (aC I.env) key subs).2 /\
   ((bY A (aC I.env) key subs).2=true->∃ acc',RunI s'.h s'.c go h D l K N M U acc' u (n+1) (if n+1<=200000 then es++[dQ i w (bY A (aC I.env) key subs).1] else es) W/\(∀ k,au acc' k->au o k\/g<=k))/\∀ k,k<g->¬tM go h o u k->s'.h k=q k:=by
 obtain ⟨j,a,ag,a9,a3,a',a7⟩:=bl;have bm:=mz ag a9;have am:=bb j a ag;rw [a3] at am;have bj:bY A (aC I.env) key subs=(⟨key,(dd (aC I.env) a.sizes subs 0 true).1⟩,(dd (aC I.env) a.sizes subs 0 true).2):=by unfold bY; rw [bm]
 have al:=kb jK (f:=fun a:Wb.Array=>AV.agg (Array.cells a)) (z:=.agg [.str ⟨#[]⟩,.nil]) (ok:=false) (s:=⟨q,g⟩) a8 key;rw [am] at al;have a4:=xS A D l K N M go i I a2 bf bk a subs a7 a' q g x.plo;rw [bj];refine Fn214.calls .keep ?_;unfold Fn214.ac;simp [P,a0,al];refine a4.mono ?_;rintro av ⟨Y,t⟩ Z ⟨ab,cell,rfl,a5⟩;simp only at ab Z;subst ab;have a6:=x.cnt;have b8:=x.nb;have bo:=q0 (x:=n+1)
 have d:=(x.count bc).frame (Fr.le Z);obtain ⟨v,H⟩:∃ v,v=upd Y h (some (.row 1 [[.int (n+1)]] .live none)):=⟨_,rfl⟩;rw [<-H] at d;have b2:v h=_:=d.cnt;have ar:v p=_:=(congrFun H p).trans ((ad ax.2).trans P);simp [a6,bo,<-H,b2];have ao:∀ k,k<g->¬tM go h o u k->v k=Y k:=fun k c C=>by rw [H,ad fun f=>C (.inr (.inl f))]
 by_cases ai:n+1<=200000
 ·have b7:=d.len;obtain ⟨a1,bW,b0,b9,T⟩:=d.hacc.push (c:=t) (bytes:=40) (md:=.plain) (b:=true) (e:=[.int i,.bool w,.str key,.int cell]) (by decide) (by decide) (by decide) (by decide) rfl d.esok (by omega) (fun k c=>(d.ab k c).1)
  have ap:=d.obj;have b6:=d.plo.goc;have bx:¬au o go:=fun f=>(d.ab go f).2.1 rfl;have bN:=(T go (by omega) bx).trans ap
  have bt:¬au o p:=fun f=>by
   rcases x.hacc with ⟨e,_⟩ | ⟨b4,e,aa⟩
   ·rw [e] at f; exact aL f
   ·rw [e] at f; have:=aq.1 f; subst this; rw [P] at aa; cases aa
  have b1:=(T p (by omega) bt).trans ar
  simp [ai,ar,ap,aH,bsI,az,bW,bN,b1];obtain ⟨R,J⟩:∃ R,R=upd a1 go (some (.row 6 [[K,N,M,U,.row t 4 0 (es.length+1),u]] .live none)):=⟨_,rfl⟩;have S:∀ k,k<t->k≠go->¬au o k->R k=v k:=fun k a b O=>by rw [J,ad b,T k (by omega) O]
  rw [<-J];refine ⟨fun bi=>⟨.row t 4 0 (es.length+1),?_,fun k c=>.inr (by have:=aq.1 c; omega)⟩,fun k c C=>(S k (by omega) (fun f=>C (.inl f)) fun f=>C (.inr (.inr (.inl f)))).trans (ao k c C)⟩
  refine d.re (acc':=.row t 4 0 (es.length+1)) (frm':=u) ((congrFun J go).trans ae) ?_ (d.hfrm.frame fun k c=>S k (d.fb k c).1 (d.fb k c).2.1 fun f=>(d.ab k f).2.2.2 c) (fun k a b O _=>S k a b O) (rv _) (fun k c=>.inr (by have:=aq.1 c; omega)) (fun k c=>.inl c) (fun k c f=>by have:=aq.1 c; have:=(d.fb k f).1; omega) ?_ d.frok (by have:=x.len; simp; omega)
  ·refine .inr ⟨t,by simp,?_⟩
   rw [J,qv,b0,a5 bi]
   simp [dQ]
  ·intro e z;rcases rd.1 z with z | z
   ·exact d.esok e z
   ·rw [sa.1 z]; rfl
 ·simp [ai];exact ⟨fun _=>⟨o,d,fun k c=>.inl c⟩,ao⟩
def ud:Wb.Expr->ByteArray | .mk _ _ _ array _ _=>array
def qt:Wb.Expr->List Wb.Form | .mk _ _ _ _ subs _=>subs
def iI (A:List Wb.Array) (a:ByteArray->Int) (x:Wb.Expr):Wb.Spot×Bool:=bY A a (ud x) (qt x)
mutual
theorem mp (A:List Wb.Array) (φ:ByteArray->Int):∀ e:Wb.Expr,cZ A φ e=((dm e).map fun x=>(iI A φ x).1,(dm e).all fun x=>(iI A φ x).2)
 | .mk op n form array subs args=>by
  simp only [cZ,dm];split
  ·simp [iI,ud,qt]
  ·exact tH A φ args
theorem tH (A:List Wb.Array) (φ:ByteArray->Int):∀ l:List Wb.Expr,cQ A φ l=((bA l).map fun x=>(iI A φ x).1,(bA l).all fun x=>(iI A φ x).2)
 | []=>rfl
 | e::es=>by simp [cQ,bA,mp A φ e,tH A φ es]
end
mutual
theorem nG {A:List Wb.Array}:∀ e:Wb.Expr,fP A e->∀ x∈dm e,fA A (ud x) (qt x)
 | .mk op n form array subs args,h,x,hx=>by
  simp only [dm] at hx;simp only [fP] at h;split at hx
  ·rename_i h3;rw [sa.1 hx];rcases h with h | h | h | h
   ·exact absurd (h.1.symm.trans h3) (by decide)
   ·exact absurd (h.1.symm.trans h3) (by decide)
   ·exact h.2.2
   ·omega
  ·rcases h with h | h | h | h
   ·rw [h.2.1] at hx; simp [bA] at hx
   ·rw [h.2.1] at hx; simp [bA] at hx
   ·rw [h.2.1] at hx; simp [bA] at hx
   ·exact qc args h.2.2.2 x hx
theorem qc {A:List Wb.Array}:∀ l:List Wb.Expr,ic A l->∀ x∈bA l,fA A (ud x) (qt x)
 | [],_,x,hx=>by simp [bA] at hx
 | e::es,h,x,hx=>by
  simp only [bA,rd] at hx;simp only [ic] at h;rcases hx with hx | hx
  ·exact nG e h.1 x hx
  ·exact qc es h.2 x hx
end
def ku (A:List Wb.Array) (k:Nat) (x:Inst):List (List AV):=(x.reads A).map (dQ k false)++[dQ k true (x.sets A)]
def cS (A:List Wb.Array):Nat->List Inst->List (List AV)
 | _,[]=>[]
 | a,b::xs=>ku A a b++cS A (a+1) xs
theorem pc (A:List Wb.Array):∀ (k:Nat) (a b:List Inst),cS A k (a++b)=cS A k a++cS A (k+a.length) b
 | k,[],b=>by simp [cS]
 | k,c::a,b=>by simp [cS,pc A (k+1) a b,xo,Nat.add_comm 1]
theorem kw (A:List Wb.Array) (k:Nat) (x:Inst):(ku A k x).length=(x.reads A).length+1:=by simp [ku]
theorem jR (A:List Wb.Array):∀ (k:Nat) (l:List Inst),((cS A k l).length:Int)=cP A l
 | k,[]=>rfl
 | k,a::xs=>by
  have:=jR A (k+1) xs;simp only [cS,s3,kw,cP,s9,Ey] at this ⊢
  push_cast; omega
def dX (A:List Wb.Array):Nat->List Inst->List Int
 | _,[]=>[]
 | n,a::xs=>(n:Int)::dX A (n+(a.reads A).length+1) xs
theorem dJ (A:List Wb.Array):∀ (n:Nat) (l:List Inst),(dX A n l).length=l.length
 | _,[]=>rfl
 | n,a::xs=>by simp [dX,dJ A _ xs]
theorem kC (A:List Wb.Array):∀ (n k:Nat) (a b:List Inst),dX A n (a++b)=dX A n a++dX A (n+(cS A k a).length) b
 | n,k,[],b=>by simp [dX,cS]
 | n,k,c::a,b=>by
  simp only [t1,dX,kC A _ (k+1) a b,cS,s3,kw];rw [show n+(c.reads A).length+1+(cS A (k+1) a).length=n+((c.reads A).length+1+(cS A (k+1) a).length) by omega]
theorem yW (A:List Wb.Array) (a b:List Inst):cP A (a++b)=cP A a+cP A b:=by simp [cP]
theorem yX (A:List Wb.Array) (x:Inst):cP A [x]=(x.reads A).length+1:=by simp [cP]
theorem oE:∀ {A:List Wb.Array},(∀ (i j:Nat) (a b:Wb.Array),A[i]?=some a->A[j]?=some b->j<i->b.key≠a.key)->∀ (j:Nat) (a:Wb.Array),A[j]?=some a->bw (A.map fun a=>(a.key,a)) a.key=some a
 | [],_,j,a,c=>by simp at c
 | e::A,d,0,a,c=>by
  simp at c; subst c;simp [bw]
 | e::A,d,j+1,a,c=>by
  have g:A[j]?=some a:=by simpa using c
  have l:¬a.key=e.key:=fun f=>d (j+1) 0 a e c rfl (by omega) f.symm
  simp only [s9,bw,if_neg l];exact oE (fun i j a b h k m=>d (i+1) (j+1) a b (by simpa using h) (by simpa using k) (by omega)) j a g
theorem wA {a b:Type} [DecidableEq a] {m:List (a×b)} {k:a} {v:b} (h:∀ p∈m,p.1≠k):bG m k v=m++[(k,v)]:=by
 induction m with
 | nil=>rfl
 | cons p m f=>
  have d:¬k=p.1:=fun c=>h p r4 c.symm;simp only [bG,if_neg d];rw [f fun g e=>h g (r3 _ e)]; rfl
structure RanAt (h:Heap) (c go:Nat) (p:Wb.Prog) (stm which vals rnd acc frm:AV):Prop where
 plo:PlO h c go (bn [] p.steps) (aB p).2.l stm which vals
 obj:h go=some (.row 6 [[stm,which,vals,rnd,acc,frm]] .live none)
 hacc:RowAt h 4 acc (cS p.arrays 0 (aB p).2.l)
 hfrm:RowAt h 1 frm (an (dX p.arrays 0 (aB p).2.l))
 ab:∀ k,au acc k->k<c
 fb:∀ k,au frm k->k<c
def e8 (p:Wb.Prog):Int:=if (aB p).1=0 then cK p.arrays (aB p).2.l else (aB p).1
theorem wM:∀ (around:List Wb.Step) (x:Wb.Step),∀ y∈dU around x,y.2.length<=around.length+count x
 | around,.mk kind name low high conds body array subs expr=>by
  intro y hy;rw [la] at hy;obtain ⟨z,hz,rfl⟩:=rf.1 hy;have h1:(z.2.filter isLoop).length<=z.2.length:=vn _ _;have h2:=walk_around around (.mk kind name low high conds body array subs expr) z (A0.1 hz).1;show (z.2.filter isLoop).length<=_;omega
where
 walk_around:∀ (around:List Wb.Step) (x:Wb.Step),∀ y∈gL around x,y.2.length<=around.length+count x
  | around,.mk kind name low high conds body array subs expr=>by
   intro y hy;simp only [gL,se] at hy;rcases hy with rfl | hy
   ·simp
   ·have:=walk_aroundL _ body y hy;simp [count] at this ⊢; omega
 walk_aroundL:∀ (around:List Wb.Step) (l:List Wb.Step),∀ y∈bS around l,y.2.length<=around.length+aw l
  | around,[]=>by simp [bS]
  | around,s::ss=>by
   intro y hy;simp only [bS,rd] at hy;rcases hy with hy | hy
   ·have:=walk_around around s y hy; simp [aw]; omega
   ·have:=walk_aroundL around ss y hy; simp [aw]; omega
theorem rM (p:List Wb.Step) (y:Wb.Step×List Wb.Step) (b:y∈bn [] p):y.2.length<=aw p:=by
 rw [jg] at b;obtain ⟨a,d,rfl⟩:=rf.1 b;have e:(a.2.filter isLoop).length<=a.2.length:=vn _ _;have c:=wM.walk_aroundL [] p a (A0.1 d).1;show (a.2.filter isLoop).length<=_;simp at c; omega
theorem uM {A:List Wb.Array}:∀ {l:List Inst},(∀ x∈l,(x.reads A).length<=4096)->cP A l<=4097*l.length
 | [],_=>by simp [cP]
 | x::xs,a=>by
  have e:=a x r4;have b:=uM fun d c=>a d (r3 _ c);simp only [cP,s9,Ey,s5] at b ⊢
  push_cast; omega
theorem xr (p:Wb.Prog) (de:Right p) (a7:aw p.steps<=300) (a1:Heap) (H:Nat) :
  ACalls Pg 147 [p.av] ⟨a1,H⟩ fun av s'=>Fr H a1 s'.h s'.c/\if e8 p=0 then ∃ go M O N K D U,av=.tup [.ptr go 0 0,.int 0]/\RanAt s'.h s'.c go p M O N K D U/\∀ k,au D k->H<=k else av=.tup [.nilp,.int (e8 p)]:=by
 refine ACalls.small fun hJ=>?_;have h9:p.arrays.length<=68719476736:=by simp [Prog.av] at hJ; omega
 refine Fn147.calls .keep ?_;unfold Fn147.ac;have gk:=fun g c=>xQ p de a7 g c;simp only [Prog.av] at gk;simp [Prog.av];refine (gk _ _).mono ?_;rintro av ⟨a2,d⟩ hp ⟨em,a8⟩;simp only at hp em a8;have f9:Fr H a1 a2 d:=⟨by omega,fun k a=>by rw [em.h k (by omega),qv]⟩
 have ho:a2 H=some (.row 2 [[row (p.arrays.map Array.cells),row (p.steps.map Step.cells)]] .live none):=by rw [em.h H (by omega),ae]
 by_cases S:(aB p).1=0
 case neg=>
  rw [if_neg S] at a8;subst a8;have e1:e8 p=(aB p).1:=by simp [e8,S]
  rw [e1];simp [S];refine ⟨by show H<=d+1; omega,fun k a=>?_⟩
  show upd a2 d _ k=_;rw [qv]; exact f9.h k a
 rw [if_pos S] at a8;obtain ⟨go,M,O,N,rfl,w⟩:=a8;have e1:e8 p=cK p.arrays (aB p).2.l:=by simp [e8,S]
 rw [e1];simp;obtain ⟨a5,cc⟩:∃ a5,a5=upd (upd (upd a2 d (some (.row 1 [[.ptr go 0 0]] .live none))) (d+1) (some (.map [] (d+1)))) (d+1+1) (some (.row 1 [[.map (d+1)]] .live none)):=⟨_,rfl⟩;rw [<-cc];have hc:a5 d=some (.row 1 [[.ptr go 0 0]] .live none):=by rw [cc,qv,qv,ae]
 have he:a5 (d+1)=some (.map [] (d+1)):=by rw [cc,qv,ae]
 have f6:a5 (d+1+1)=some (.row 1 [[.map (d+1)]] .live none):=by rw [cc,ae]
 have f7:∀ k,k<d->a5 k=a2 k:=fun k a=>by rw [cc,qv,qv,qv]
 have hd:=(f7 H (by omega)).trans ho
 simp [hd];obtain ⟨Z,aa⟩:∃ Z:Nat->List Wb.Array->Slots->St->Prop,Z=fun i r g' s'=>(∃ ver,s'.h (d+1)=some (.map (kvs AV.str (fun u:Wb.Array=>AV.agg (Array.cells u)) ((p.arrays.take i).map fun u=>(u.key,u))) ver))/\(∀ k,k<d+1+1+1->k≠d+1->s'.h k=a5 k)/\d+1+1+1<=s'.c:=⟨_,rfl⟩;refine aZ 28 Fn147.W0 p.arrays Z (by rfl) (by rfl) ?_ ?_ ?_
 ·rw [aa]; exact ⟨by simp,⟨d+1,he⟩,fun _ _ _=>rfl,q5 _⟩
 ·intro f0 s' ao R;rw [aa] at R;obtain ⟨⟨ver,b2⟩,ar,fa⟩:=R;obtain ⟨bN,h⟩:=s';simp only at b2 ar fa;rw [r0] at b2;have fm:=(ar d (by omega) (by omega)).trans hc
  have fn:=(ar (d+1+1) (by omega) (by omega)).trans f6
  have hR:∀ k,k<d->bN k=a2 k:=fun k a=>(ar k (by omega) (by omega)).trans (f7 k a)
  obtain ⟨W,ey⟩:∃ W,W=upd bN h (some (.row 1 [[.int 0]] .live none)):=⟨_,rfl⟩;have c1:∀ k,k<h->W k=bN k:=fun k a=>by rw [ey,qv]
  have g8:=(c1 d (by omega)).trans fm
  have hS:=(c1 (d+1+1) (by omega)).trans fn
  have fs:=(c1 (d+1) (by omega)).trans b2
  have hT:W h=_:=(congrFun ey h).trans ae;have cx:∀ k,k<d->W k=a2 k:=fun k a=>(c1 k (by omega)).trans (hR k a)
  have h':=w.goc;have fx:=(cx go (by omega)).trans w.obj
  obtain ⟨l,al⟩:∃ l,l=(aB p).2.l:=⟨_,rfl⟩;have hy:=w.len;have ez:=fE de;have gr:PlO W (h+1) go (bn [] p.steps) l M O N:=⟨⟨_,_,_,fx⟩,w.hstm.frame fun k a=>cx k (w.sc k a).2.1,by rw [al]; exact w.hwhich.frame fun k a=>cx k (w.wc k a).2.1,by rw [al]; exact w.hvals.frame fun k a=>cx k (w.vc k a).2.1,by omega,fun k a=>by have:=w.sc k a; omega,fun k a=>by have:=w.wc k a; omega,fun k a=>by have:=w.vc k a; omega⟩
  have gx:RunI W (h+1) go h (bn [] p.steps) l M O N (.int (aB p).2.rounds) (.sl [] true) (.sl [] true) 0 [] []:=by
   refine ⟨gr,fx,.inl ⟨rfl,rfl⟩,.inl ⟨rfl,rfl⟩,hT,by omega,fun k a=>absurd a aL,fun k a=>absurd a aL,by omega,?_,rfl,by simp,by simp,by simp,by omega⟩
   rintro k (g | g | g)
   ·have:=w.sc k g; exact ⟨by omega,by omega,aL,aL⟩
   ·have:=w.wc k g; exact ⟨by omega,by omega,aL,aL⟩
   ·have:=w.vc k g; exact ⟨by omega,by omega,aL,aL⟩
  have gW:=gr.hwhich.len ⟨W,h+1⟩;have eg:(an (l.map fun i=>(i.num:Int))).length=l.length:=by simp [an]
  rw [eg] at gW;rw [<-al] at ez hy;rw [<-al];simp [ao];rw [<-ey];simp [g8,fx,gW];obtain ⟨K,hG⟩:∃ K,K=AV.int (aB p).2.rounds:=⟨_,rfl⟩;rw [<-hG] at gx;obtain ⟨d4,c5⟩:∃ d4:Heap->Nat->Prop,d4=fun g c=>g d=some (.row 1 [[.ptr go 0 0]] .live none)/\g (d+1+1)=some (.row 1 [[.map (d+1)]] .live none)/\g (d+1)=W (d+1)/\(∀ k,k<H->g k=a1 k)/\h+1<=c:=⟨_,rfl⟩;obtain ⟨Z,aa⟩:∃ Z:Nat->List Inst->Slots->St->Prop,Z=fun i r g' s'=>∃ (D U:AV) (n:Int) (T P:List (List AV)),RunI s'.h s'.c go h (bn [] p.steps) l M O N K D U n T P/\n=cP p.arrays (l.take i)/\(n<=200000->T=cS p.arrays 0 (l.take i)/\P=an (dX p.arrays 0 (l.take i)))/\P.length=i/\(∀ x∈l.take i,x.ok p.arrays=true)/\d4 s'.h s'.c/\∀ k,au D k\/au U k->h<k:=⟨_,rfl⟩;refine aZ 43 Fn147.W1 l Z (by rfl) (by rfl) ?_ ?_ ?_
  ·rw [aa];refine ⟨by simp,.sl [] true,.sl [] true,0,[],[],gx,rfl,fun _=>⟨rfl,rfl⟩,rfl,by simp,?_,fun k a=>absurd a (fun g=>g.elim aL aL)⟩
   rw [c5];exact ⟨g8,hS,rfl,fun k a=>(cx k (by omega)).trans (f9.h k a),q5 _⟩
  ·intro f0 s' ao R;rw [aa] at R;obtain ⟨D,U,n,T,P,m,b1,dn,g5,dp,cp,a'⟩:=R;obtain ⟨c3,o⟩:=s';rw [r0] at b1 dn dp;rw [c5] at cp;obtain ⟨bf,d0,d1,cs,fb⟩:=cp;simp only at m bf d0 d1 cs fb;have hs:=m.cnt;have am:(l.any fun i=>!i.ok p.arrays)=false:=by
    rw [wy];intro x ap;simp [dp x ap]
   have ga:Fr H a1 c3 o:=⟨by omega,cs⟩
   simp [ao,hs];by_cases c6:200000<n
   ·have en:cK p.arrays l=2:=by unfold cK; rw [am,<-b1]; simp [c6]
    simp [c6,en];exact ga
   ·have en:cK p.arrays l=0:=by unfold cK; rw [am,<-b1]; simp [c6]
    obtain ⟨bm,b7⟩:=dn (by omega)
    simp [c6,en,bf];refine ⟨ga,M,O,N,K,D,⟨U,by rw [al] at m; exact m.plo,m.obj,by rw [<-al,<-bm]; exact m.hacc,by rw [<-al,<-b7]; exact m.hfrm,fun k a=>(m.ab k a).1,fun k a=>(m.fb k a).1⟩,fun k a=>by have:=a' k (.inl a); omega⟩
  ·intro i x xs f0 s' ai ap gn ao R;rw [aa] at R;obtain ⟨D,U,n,T,P,m,b1,dn,g5,dp,cp,a'⟩:=R;obtain ⟨c3,o⟩:=s';rw [c5] at cp;obtain ⟨bf,d0,d1,cs,fb⟩:=cp;simp only at m bf d0 d1 cs fb;have e3:=q0 (x:=(i:Int)+1)
   have g0:l[i]?=some x:=by rw [q3 ai,ap]
   have cn:=ez x (aU gn);obtain ⟨h6,f1,hX⟩:=m.plo.hwhich.at (i:=i) (by rw [eg]; exact ai)
   rw [eg] at f1;have hv:(an (l.map fun i=>(i.num:Int)))[i]?=some [.int x.num]:=by simp [an,ai,ap]
   have g6:=m.obj;have ix:=m.len;have ht:=m.hacc.len ⟨c3,o⟩;obtain ⟨hg,hO,hP,i0,fd⟩:=m.hfrm.push (c:=o) (bytes:=8) (md:=.plain) (b:=true) (e:=[.int T.length]) (by decide) (by decide) (by decide) (by decide) rfl m.frok (by omega) (fun k a=>(m.fb k a).1)
   have h4:=m.plo.goc;have hN:¬au U go:=fun g=>(m.fb go g).2.1 rfl;have g7:¬au U d:=fun g=>by have:=a' d (.inr g); omega
   have fm:=(fd d (by omega) g7).trans bf
   have hQ:=(fd go (by omega) hN).trans g6
   obtain ⟨bW,cb⟩:∃ bW,bW=upd hg go (some (.row 6 [[M,O,N,K,D,.row o 1 0 (P.length+1)]] .live none)):=⟨_,rfl⟩;have b0:∀ k,k<o->k≠go->¬au U k->bW k=c3 k:=fun k u b ef=>by rw [cb,ad b,fd k (by omega) ef]
   have e2:RunI bW (o+1) go h (bn [] p.steps) l M O N K D (.row o 1 0 (P.length+1)) n T (P++[[.int T.length]]):=by
    refine m.re (acc':=D) (frm':=.row o 1 0 (P.length+1)) ((congrFun cb go).trans ae) (m.hacc.frame fun k a=>b0 k (m.ab k a).1 (m.ab k a).2.1 (m.ab k a).2.2.2) ?_ (fun k u b _ ef=>b0 k u b ef) (rv _) (fun k a=>.inl a) (fun k a=>.inr (by have:=aq.1 a; omega)) (fun k a g=>by have:=aq.1 g; have:=(m.ab k a).1; omega) m.esok ?_ (by simp; omega)
    ·refine .inr ⟨o,by simp,?_⟩
     rw [cb,qv,hP]
    ·intro e ca;rcases rd.1 ca with ca | ca
     ·exact m.frok e ca
     ·rw [sa.1 ca]; rfl
   have ha:=(b0 d (by omega) (by omega) g7).trans bf
   have hD:=e2.obj;obtain ⟨dW,hl,ih⟩:=cn.at_;obtain ⟨eW,eP⟩:=q4.1 hl;obtain ⟨h5,g9,hU⟩:=e2.plo.hstm.at (i:=x.num) (by simpa using eW)
   have hf:((bn [] p.steps).map stCells).length=(bn [] p.steps).length:=by simp
   rw [hf] at g9;have hu:((bn [] p.steps).map stCells)[x.num]?=some (stCells (x.step,dW)):=by simp [eW,eP]
   simp [ao,ai,f1,hX,hv,bf,g6,ht,bsI,az,hO,fm,hQ];rw [f1] at cb;rw [<-cb];obtain ⟨X,gb⟩:∃ X,X=x.step:=⟨_,rfl⟩;rw [<-gb] at eP hu;obtain ⟨kind,name,low,c9,c2,body,array,subs,⟨b5,b3,a0,bo,bt,bl⟩⟩:=X;obtain ⟨C,cl⟩:∃ C,C=dm (.mk b5 b3 a0 bo bt bl):=⟨_,rfl⟩;have gy:stCells (.mk kind name low c9 c2 body array subs (.mk b5 b3 a0 bo bt bl),dW)=[.int kind,.str name,row (low.map Bound.cells),row (c9.map Bound.cells),row (c2.map Form.cells),row (body.map Step.cells),.str array,row (subs.map Form.cells),.int b5,.int b3,.int a0.const,row (a0.terms.map Term.cells),.str bo,row (bt.map Form.cells),row (bl.map Expr.cells),row (dW.map Step.cells),row (C.map Expr.cells)]:=by
    rw [cl]; simp [stCells,Step.cells_mk,Step.expr]
   obtain ⟨a3,c8⟩:∃ a3,a3=upd bW (o+1) (some (.row 17 [stCells (.mk kind name low c9 c2 body array subs (.mk b5 b3 a0 bo bt bl),dW)] .live none)):=⟨_,rfl⟩;have b9:Fr (o+1) bW a3 (o+1+1):=by rw [c8]; exact (Fr.refl _ _).upd (q5 _) (rv _)
   have gg:a3 (o+1)=_:=(congrFun c8 _).trans ae;rw [gy] at gg c8;simp [ha,hD,g9,eW,hU,eP,gy];rw [<-c8];have gs:=e2.frame b9;have hY:=(b9.h d (by omega)).trans ha
   have hZ:=(b9.h (d+1+1) (by omega)).trans ((b0 (d+1+1) (by omega) (by omega) (fun g=>by have:=a' _ (.inr g); omega)).trans d0)
   have h0:=(b9.h (d+1) (by omega)).trans ((b0 (d+1) (by omega) (by omega) (fun g=>by have:=a' _ (.inr g); omega)).trans (d1.trans fs))
   obtain ⟨v,dl⟩:∃ v,v=aC x.env:=⟨_,rfl⟩;have di:x.step=.mk kind name low c9 c2 body array subs (.mk b5 b3 a0 bo bt bl):=gb.symm;have c7:Step.expr x.step=.mk b5 b3 a0 bo bt bl:=by rw [di]; rfl
   have gw:x.reads p.arrays=C.map fun q=>(iI p.arrays v q).1:=by unfold Inst.reads; rw [mp,c7,<-cl,<-dl]
   have hI:x.sets p.arrays=(bY p.arrays v array subs).1:=by unfold Inst.sets; rw [di,<-dl]; rfl
   have e0:x.ok p.arrays=((C.all fun q=>(iI p.arrays v q).2)&&(bY p.arrays v array subs).2):=by unfold Inst.ok; rw [mp,c7,<-cl,di,<-dl]; rfl
   have g1:=cn.expr;rw [c7] at g1;have gv:=nG _ g1;rw [<-cl] at gv;have g2:=cn.subs;rw [di] at g2;have it:C.length<=4096:=by have:=cn.nr; rw [c7,<-jC,<-cl] at this; exact this
   have ia:n<=4097*i:=by
    have:=uM (A:=p.arrays) (l:=l.take i) fun q z=>by unfold Inst.reads; rw [iB]; exact (ez q (A5 z)).nr
    rw [<-b1,tm] at this; omega
   have ik:=m.nb.1;obtain ⟨Y,a6⟩:∃ Y:Heap->Nat->Prop,Y=fun g c=>g d=some (.row 1 [[.ptr go 0 0]] .live none)/\g (d+1+1)=some (.row 1 [[.map (d+1)]] .live none)/\g (d+1)=W (d+1)/\g (o+1)=a3 (o+1)/\(∀ k,k<H->g k=a1 k)/\o+1+1<=c:=⟨_,rfl⟩;have hi:∀ {g c el d'},Y g c->Fr c g el d'->Y el d':=fun {g c el d'} a7 ag=>by
    rw [a6] at a7 ⊢;obtain ⟨ds,dv,dN,e9,e',hM⟩:=a7;have:=ag.c;exact ⟨(ag.h _ (by omega)).trans ds,(ag.h _ (by omega)).trans dv,(ag.h _ (by omega)).trans dN,(ag.h _ (by omega)).trans e9,fun k a=>(ag.h k (by omega)).trans (e' k a),by omega⟩
   have hh:Y a3 (o+1+1):=by
    rw [a6];refine ⟨hY,hZ,h0.trans fs.symm,rfl,fun k a=>?_,q5 _⟩;rw [b9.h k (by omega),b0 k (by omega) (by omega) (fun g=>by have:=a' k (.inr g); omega)]; exact cs k a
   obtain ⟨bx,es⟩:∃ f,f=AV.row o 1 0 (P.length+1):=⟨_,rfl⟩;obtain ⟨b8,et⟩:∃ f,f=P++[[AV.int T.length]]:=⟨_,rfl⟩;rw [<-es,<-et] at gs;have gN:∀ (d2:Bool) (bc:ByteArray) (bi:List Wb.Form),fA p.arrays bc bi->∀ (G:AV) (b4:Int) (J:List (List AV)) (Q:Heap) (y:Nat),RunI Q y go h (bn [] p.steps) l M O N K G bx b4 J b8->Y Q y->(∀ k,au G k->h<k/\k≠o+1)->b4<1000000000 ->
     ACalls Pg 214 [.int i,.bool d2,.str bc,row (bi.map Form.cells),.ptr d 0 0,.ptr (d+1+1) 0 0,.ptr h 0 0] ⟨Q,y⟩ fun av s'=>av=.bool (bY p.arrays v bc bi).2 /\
      ((bY p.arrays v bc bi).2=true->∃ ab,RunI s'.h s'.c go h (bn [] p.steps) l M O N K ab bx (b4+1) (if b4+1<=200000 then J++[dQ i d2 (bY p.arrays v bc bi).1] else J) b8/\∀ k,au ab k->h<k/\k≠o+1)/\Y s'.h s'.c:=by
    intro d2 bc bi hH G b4 J Q y hF f8 gc hB;rw [a6] at f8;obtain ⟨ds,dv,dN,e9,e',hM⟩:=f8;have gi:=xR p.arrays (bn [] p.steps) l M O N K G bx go d (d+1+1) h (d+1) ver i x g0 cn (fun q z=>by have:=rM _ q z; omega) d2 bc bi hH b4 J b8 hB Q y hF ds dv ⟨by omega,by omega⟩ ⟨by omega,by omega⟩ (by omega) _ (dN.trans fs) (oE de.apart)
    rw [<-dl] at gi;refine gi.mono ?_;rintro av ⟨a4,ea⟩ eo ⟨hV,b6,t⟩;simp only at eo t;have am:∀ k,k≠go->k≠h->(k<=h\/k=o+1)->¬tM go h G bx k:=by
     rintro k bm b7 h3 (g | g | g | g)
     ·exact bm g
     ·exact b7 g
     ·have:=gc k g; omega
     ·rw [es] at g; have:=aq.1 g; omega
    refine ⟨hV,fun a=>?_,?_⟩
    ·obtain ⟨ab,ax,c0⟩:=b6 a;refine ⟨ab,ax,fun k a=>?_⟩;rcases c0 k a with g | g
     ·exact gc k g
     ·exact ⟨by omega,by omega⟩
    ·rw [a6];exact ⟨(t _ (by omega) (am _ (by omega) (by omega) (by omega))).trans ds,(t _ (by omega) (am _ (by omega) (by omega) (by omega))).trans dv,(t _ (by omega) (am _ (by omega) (by omega) (by omega))).trans dN,(t _ (by omega) (am _ (by omega) (by omega) (by omega))).trans e9,fun k a=>(t k (by omega) (am k (by omega) (by omega) (by omega))).trans (e' k a),by show _<=ea; omega⟩
   have gf:x.ok p.arrays=false->∀ {g c},Y g c->Fr H a1 g c/\(if cK p.arrays l=0 then False else AV.tup [AV.nilp,.int 16]=AV.tup [AV.nilp,.int (cK p.arrays l)]):=by
    intro hm g c a7;rw [a6] at a7;have ag:cK p.arrays l=16:=by
     unfold cK;rw [if_pos];rw [v8];exact ⟨x,aU gn,by simp [hm]⟩
    rw [ag];exact ⟨⟨by omega,a7.2.2.2.2.1⟩,by simp⟩
   obtain ⟨hb,c4⟩:∃ Z:Nat->List Wb.Expr->Slots->St->Prop,Z=fun (j:Nat) r g' s'=>∃ (G:AV) (J:List (List AV)),RunI s'.h s'.c go h (bn [] p.steps) l M O N K G bx (n+j) J b8/\(n+j<=200000->J=T++(C.take j).map fun q=>dQ i false (iI p.arrays v q).1)/\(∀ q∈C.take j,(iI p.arrays v q).2=true)/\Y s'.h s'.c/\∀ k,au G k->h<k/\k≠o+1:=⟨_,rfl⟩;refine aZ 72 Fn147.W2 C hb (by rfl) (by rfl) ?_ ?_ ?_
   ·rw [c4];refine ⟨by simp,D,T,by simpa using gs,fun _=>by simp,by simp,hh,fun k a=>⟨a' k (.inl a),by have:=(m.ab k a).1; omega⟩⟩
   ·intro hW fz dk b';rw [c4,r0] at b';obtain ⟨G,J,cq,e4,e5,bb,e6⟩:=b';obtain ⟨Q,y⟩:=fz;simp only at cq bb;have hk:(C.all fun q=>(iI p.arrays v q).2)=true:=rx.2 fun q z=>e5 q z;have ge:Q (o+1)=a3 (o+1):=by rw [a6] at bb; exact bb.2.2.2.1
    rw [gg] at ge;rw [hk,yt] at e0;have hw:=gN true array subs g2 G _ J Q y cq bb e6 (by omega)
    simp [dk,ge];refine hw.mono ?_;rintro av ⟨a4,ea⟩ eo ⟨rfl,b6,t⟩;simp only at eo t;rw [<-e0] at b6 ⊢;by_cases a:x.ok p.arrays=true
    ·obtain ⟨ab,ax,c0⟩:=b6 a;simp only at ax;simp [a,ao,e3];rw [aa];have a9:l.take (i+1)=l.take i++[x]:=by rw [r7,g0]; rfl
     have hA:n+(C.length:Int)+1=cP p.arrays (l.take (i+1)):=by rw [a9,yW,yX,<-b1,gw]; simp; omega
     rw [hA] at ax;refine ⟨ab,bx,_,_,b8,ax,rfl,fun da=>?_,by rw [et]; simp [g5],?_,?_,fun k a=>?_⟩
     ·rw [if_pos da];have hx:n+(C.length:Int)<=200000:=by omega
      obtain ⟨bm,b7⟩:=dn (by omega)
      have hz:(l.take i).length=i:=by rw [tm]; omega
      refine ⟨?_,?_⟩
      ·rw [e4 hx,bm,a9,pc,s7,hz];simp [cS,ku,gw,hI]
      ·rw [et,b7,bm,a9,kC p.arrays 0 0];simp [dX,an]
     ·rw [a9];intro q z;rcases rd.1 z with z | z
      ·exact dp q z
      ·rw [sa.1 z]; exact a
     ·rw [a6] at t;rw [c5];exact ⟨t.1,t.2.1,t.2.2.1,t.2.2.2.2.1,by show h+1<=ea; have:=t.2.2.2.2.2; omega⟩
     ·rcases a with a | a
      ·exact (c0 k a).1
      ·rw [es] at a; have:=aq.1 a; omega
    ·have ch:x.ok p.arrays=false:=by simpa using a
     simp [ch];simpa using gf ch t
   ·intro j q ys hW fz c' z gp dk b';rw [c4] at b';obtain ⟨G,J,cq,e4,e5,bb,e6⟩:=b';obtain ⟨Q,y⟩:=fz;simp only at cq bb;have hK:=q0 (x:=(j:Int)+1)
    obtain ⟨f5,h8⟩:∃ f5,f5=q:=⟨_,rfl⟩;have g3:=gv q (aU gp);obtain ⟨f4,f3,d3,bj,bk,f2⟩:=q;simp only [ud,qt] at g3;obtain ⟨a4,ex⟩:∃ a4,a4=upd Q y (some (.row 7 [[.int f4,.int f3,.int d3.const,row (d3.terms.map Term.cells),.str bj,row (bk.map Form.cells),row (f2.map Expr.cells)]] .live none)):=⟨_,rfl⟩;have f':Fr y Q a4 (y+1):=by rw [ex]; exact (Fr.refl _ _).upd (q5 _) (rv _)
    have hn:a4 y=_:=(congrFun ex y).trans ae;have hE:=gN false bj bk g3 G _ J a4 (y+1) (cq.frame f') (hi bb f') e6 (by omega)
    simp [dk,c',z,Expr.cells_mk,<-ex,hn];refine hE.mono ?_;rintro av ⟨h7,h2⟩ hr ⟨rfl,b6,t⟩;simp only at hr t;have g4:iI p.arrays v (.mk f4 f3 d3 bj bk f2)=bY p.arrays v bj bk:=rfl;by_cases a:(bY p.arrays v bj bk).2=true
    ·obtain ⟨ab,ax,c0⟩:=b6 a;simp only at ax;simp [a,dk,hK];rw [c4];have a9:C.take (j+1)=C.take j++[.mk f4 f3 d3 bj bk f2]:=by rw [r7,q3 c',z]; rfl
     refine ⟨ab,_,by rw [show n+((j+1:Nat):Int)=n+j+1 by push_cast; omega]; exact ax,fun da=>?_,?_,t,c0⟩
     ·rw [if_pos (by push_cast at da; omega),a9,e4 (by push_cast at da; omega)]
      simp [g4]
     ·rw [a9];intro h1 S;rcases rd.1 S with S | S
      ·exact e5 h1 S
      ·rw [sa.1 S]; exact a
    ·have ch:(bY p.arrays v bj bk).2=false:=by simpa using a
     have hL:x.ok p.arrays=false:=by
      rw [e0,Bool.and_eq_false_iff];refine .inl ?_;rw [List.all_eq_false];exact ⟨_,aU gp,by rw [g4,ch]; decide⟩
     simp [ch];simpa using gf hL t
 ·intro i x xs f0 s' ai ap al ao R;rw [aa] at R;obtain ⟨⟨ver,b2⟩,ar,fa⟩:=R;obtain ⟨bN,h⟩:=s';simp only at b2 ar fa;have e3:=q0 (x:=(i:Int)+1)
  have fn:=(ar (d+1+1) (by omega) (by omega)).trans f6
  have hC:bG ((p.arrays.take i).map fun u=>(u.key,u)) x.key x=(p.arrays.take (i+1)).map fun u=>(u.key,u):=by
   rw [wA,r7,q3 ai,ap,sh]
   ·rfl
   ·intro i1 a8;obtain ⟨u,hj,rfl⟩:=rf.1 a8;obtain ⟨j,c',gl⟩:=List.mem_iff_getElem.1 hj;simp at c' gl;exact de.apart i j x u (by rw [q3 ai,ap]) (by rw [q3 (by omega),gl]) (by omega)
  have eM:=iy jK (f:=fun u:Wb.Array=>AV.agg (Array.cells u)) (g:=d+1) (s:=⟨upd bN h (some (.row 2 [[.str x.key,row (an x.sizes)]] .live none)),h+1⟩) ((ad (by omega)).trans b2) x.key x
  rw [hC] at eM;have hq:¬d+1+1=h:=by omega
  simp only [Array.cells] at eM;simp [ao,ai,ap,Array.cells,fn,hq,eM,e3];rw [aa];refine ⟨⟨h+1,by show upd _ _ _ _=_; rw [ae,y7]; rfl⟩,fun k a gm=>?_,by show _<=h+1+1; omega⟩
  show upd (upd bN h _) (d+1) _ k=_;rw [ad gm,qv]; exact ar k a gm
deriving instance DecidableEq for Wb.Spot
def UsesN (h:Heap) (c:Nat) (A:List Wb.Array) (x:AV) (l:List Inst):Prop:=
 ∃ a,(0<a.length->∃ e,x=.row e 22 0 a.length/\h e=some (.row 22 a .live none))/\a.length=l.length/\(∀ (f:Nat) (d:List AV) (i:Inst),a[f]?=some d->l[f]?=some i->∃ b,b<c/\dH h b i.env/\d=cA A i b)/\∀ s,eL 1 x s=some (.int a.length)
theorem UsesAt.n {h:Heap} {c:Nat} {A:List Wb.Array} {x:AV} {l:List Inst} (m:UsesAt h c A x l):UsesN h c A (norm x) l:=by
 obtain ⟨e,b,g,k⟩:=m;refine ⟨e,fun f=>?_,g,k,fun s=>?_⟩
 ·obtain ⟨a,rfl,d⟩:=b.at f;exact ⟨a,rfl,d⟩
 ·rcases b with ⟨rfl,rfl⟩ | ⟨a,rfl,d⟩ <;> rfl
theorem UsesN.at {h:Heap} {c:Nat} {A:List Wb.Array} {x:AV} {l:List Inst} (q:UsesN h c A x l) {i:Nat} (p:i<l.length):∃ (es:List (List AV)) (g a:Nat),x=.row g 22 0 l.length/\h g=some (.row 22 es .live none)/\es[i]?=some (cA A l[i] a):=by
 obtain ⟨es,k,m,o,_⟩:=q;obtain ⟨g,d,e⟩:=k (by omega)
 have b:es[i]?=some es[i]:=q3 (by omega)
 obtain ⟨a,_,_,f⟩:=o i _ _ b (q3 p);exact ⟨es,g,a,by rw [d,m],e,by rw [b,f]⟩
theorem UsesN.len {h:Heap} {c:Nat} {A:List Wb.Array} {x:AV} {l:List Inst} (d:UsesN h c A x l) (s:St):eL 1 x s=some (.int l.length):=by
 obtain ⟨e,f,a,g,b⟩:=d;rw [b,a]
theorem UsesN.fr {h h':Heap} {c c':Nat} {A:List Wb.Array} {x:AV} {l:List Inst} (G:UsesN h c A x l) (D:∀ k,au x k->k<c) (b:Fr c h h' c'):UsesN h' c' A x l:=by
 obtain ⟨o,u,v,w,y⟩:=G;refine ⟨o,fun t=>?_,v,fun k g i z C=>?_,y⟩
 ·obtain ⟨a,d,m⟩:=u t;exact ⟨a,d,(b.h a (D a (by rw [d]; exact aq.2 rfl))).trans m⟩
 ·obtain ⟨f,e,⟨ver,p⟩,q⟩:=w k g i z C;exact ⟨f,ro e b.c,⟨ver,(b.h f e).trans p⟩,q⟩
def pC (A:List Wb.Array) (s:Wb.Spot):Prop:=∃ a∈A,a.key=s.array/\0<=s.cell/\s.cell<eV a.sizes
theorem ni (l:List Int):∀ k:Int,l.foldl (·*·) k=k*l.foldl (·*·) 1:=by
 induction l with
 | nil=>intro k; simp
 | cons b l a=>intro k; simp only [vr,Er]; rw [a (k*b),a b,Int.mul_assoc]
theorem ji:∀ (l:List Int),(∀ z∈l,1<=z)->1<=l.foldl (·*·) 1
 | [],_=>by simp
 | z::l,a=>by
  simp only [vr,Er];rw [ni];have b:=a z r4;have c:=ji l fun e d=>a e (r3 _ d);exact A2 (by omega) (v2 b c (by omega) (by omega))
theorem tQ (b:ByteArray->Int):∀ (zs:List Int) (c:List Wb.Form) (n K:Int),(∀ z∈zs,1<=z/\z<=20000)->zs.length=c.length->0<=n->n<K->K*zs.foldl (·*·) 1<=20000->(dd b zs c n true).2=true->0<=(dd b zs c n true).1/\(dd b zs c n true).1<K*zs.foldl (·*·) 1
 | [],[],n,K,_,_,l,o,d,_=>by simp [dd]; omega
 | [],_::_,_,_,_,f,_,_,_,_=>by simp at f
 | _::_,[],_,_,_,f,_,_,_,_=>by simp at f
 | z::zs,e::c,n,K,h,p,l,o,d,a=>by
  simp only [dd,yt] at a ⊢;simp only [vr,Er] at d ⊢;rw [ni,<-Int.mul_assoc] at d ⊢;have y:=h z r4;have q:=ji zs fun k g=>(h k (r3 _ g)).1;by_cases m:0<=aN b e/\aN b e<=z-1
  ·rw [decide_eq_true m] at a ⊢;have v:K*z<=20000:=by
    have:K*z*1<=K*z*zs.foldl (·*·) 1:=x9 q (Int.mul_nonneg (by omega) (by omega))
    omega
   have x:0<=n*z:=Int.mul_nonneg l (by omega)
   have w:n*z+z<=K*z:=by
    have:(n+1)*z<=K*z:=Int.mul_le_mul_of_nonneg_right (by omega) (by omega)
    rw [Int.add_mul,Er] at this; exact this
   have t:=q0 (x:=n*z)
   have u:=q0 (x:=n*z+aN b e)
   rw [t,u] at a ⊢;exact tQ b zs c _ (K*z) (fun k g=>h k (r3 _ g)) (by simpa using p) (by omega) (by omega) d a
  ·rw [decide_eq_false m] at a;rw [jf] at a; cases a
theorem rD {A:List Wb.Array} (l:∀ a∈A,OkArray a) {d:ByteArray->Int} {key:ByteArray} {subs:List Wb.Form} (o:fA A key subs) (c:(bY A d key subs).2=true):pC A (bY A d key subs).1:=by
 obtain ⟨i,a,b,g,h,k,q⟩:=o;have f:=l a (r8 b);have p:=mz b g;unfold bY at c ⊢;rw [p] at c ⊢;have m:=f.cells;have:=tQ d a.sizes subs 0 1 f.sizes k (by omega) (by omega) (by unfold eV at m; omega) c
 refine ⟨a,r8 b,h,this.1,?_⟩;have e:=this.2;rw [Er] at e;exact e
theorem Inst.ok_in {A:List Wb.Array} (d:∀ a∈A,OkArray a) {h:List (Wb.Step×List Wb.Step)} {x:Inst} (e:InstOk A h x) (b:x.ok A=true):(∀ s∈x.reads A,pC A s)/\pC A (x.sets A):=by
 unfold Inst.ok at b;rw [q9] at b;refine ⟨fun s c=>?_,rD d e.subs b.2⟩;unfold Inst.reads at c;rw [mp] at c b;obtain ⟨g,f,rfl⟩:=rf.1 c;exact rD d (nG _ e.expr g f) (rx.1 b.1 g f)
def RdAt (h:Heap) (sz:Nat) (c:AV) (es:List (List AV)):Prop:=∃ b a off d,c=.row b sz off es.length/\h b=some (.row sz a d none)/\(a.drop off).take es.length=es/\off+es.length<=a.length
theorem RdAt.cell {h:Heap} {sz:Nat} {a:AV} {es:List (List AV)} (r:RdAt h sz a es):a.cell=true:=by
 obtain ⟨c,b,off,d,rfl,_⟩:=r; rfl
theorem RdAt.frame {h h':Heap} {sz:Nat} {a:AV} {es:List (List AV)} (r:RdAt h sz a es) (g:∀ k,au a k->h' k=h k):RdAt h' sz a es:=by
 obtain ⟨b,c,off,l,rfl,d,e,f⟩:=r;exact ⟨b,c,off,l,rfl,(g b (aq.2 rfl)).trans d,e,f⟩
def aM (s:Wb.Spot):AV:=.agg (Spot.cells s)
theorem ka:KeyOk (.agg [.str,.int]) aM where
 wf a:=rfl
 eq a b:=by
  obtain ⟨a1,a2⟩:=a;obtain ⟨b1,b2⟩:=b;simp [aM,Spot.cells,gI,cd,eU];rfl
def vj (go:Nat) (a c b:AV) (k:Nat):Prop:=k=go\/au a k\/au c k\/au b k
theorem PlO.re {h h':Heap} {c c' go:Nat} {g:List (Wb.Step×List Wb.Step)} {l:List Inst} {d f e:AV} (x:PlO h c go g l d f e) (C:c<=c') (b:∀ k,vj go d f e k->h' k=h k):PlO h' c' go g l d f e:=by
 obtain ⟨⟨m,o,p,q⟩,t,u,v,D,w,y,z⟩:=x;exact ⟨⟨m,o,p,(b go (.inl rfl)).trans q⟩,t.frame fun k a=>b k (.inr (.inl a)),u.frame fun k a=>b k (.inr (.inr (.inl a))),v.frame fun k a=>b k (.inr (.inr (.inr a))),by omega,fun k a=>by have:=w k a; omega,fun k a=>by have:=y k a; omega,fun k a=>by have:=z k a; omega⟩
theorem PlO.plt {h:Heap} {c go:Nat} {f:List (Wb.Step×List Wb.Step)} {l:List Inst} {b e d:AV} (x:PlO h c go f l b e d) {k:Nat} (a:vj go b e d k):k<c:=by
 rcases a with rfl | a | a | a
 ·exact x.goc
 ·exact x.sb k a
 ·exact x.wb k a
 ·exact x.vb k a
def gF (i:Nat) (a:Bool×Wb.Spot):List AV:=dQ i a.1 a.2
def jx (A:List Wb.Array) (x:Inst):List (Bool×Wb.Spot):=(x.reads A).map (fun s=>(false,s))++[(true,x.sets A)]
theorem yz (A:List Wb.Array) (i:Nat) (x:Inst):ku A i x=(jx A x).map (gF i):=by simp [ku,jx,gF]
theorem mI (A:List Wb.Array) (x:Inst):(jx A x).length=(x.reads A).length+1:=by simp [jx]
def tG (go:Nat) (c e d a b:AV) (k:Nat):Prop:=vj go c e d k\/au a k\/au b k
theorem RanAt.re {h h':Heap} {c c' go:Nat} {p:Wb.Prog} {f l g m d e:AV} (x:RanAt h c go p f l g m d e) (o:c<=c') (b:∀ k,tG go f l g d e k->h' k=h k):RanAt h' c' go p f l g m d e:=
 ⟨x.plo.re o fun k a=>b k (.inl a),(b go (.inl (.inl rfl))).trans x.obj,x.hacc.frame fun k a=>b k (.inr (.inl a)),x.hfrm.frame fun k a=>b k (.inr (.inr a)),fun k a=>by have:=x.ab k a; omega,fun k a=>by have:=x.fb k a; omega⟩
theorem RanAt.lt {h:Heap} {c go:Nat} {p:Wb.Prog} {e g f l b d:AV} (x:RanAt h c go p e g f l b d) {k:Nat} (a:tG go e g f b d k):k<c:=by
 rcases a with a | a | a
 ·exact x.plo.plt a
 ·exact x.ab k a
 ·exact x.fb k a
theorem si (p:Wb.Prog) (a1:Right p) (bb bi bc a9 u Y:AV) (go i:Nat) (x:Inst) (o:(aB p).2.l[i]?=some x) (ax:cP p.arrays (aB p).2.l<=200000) (g:Heap) (v:Nat) (a2:RanAt g v go p bb bi bc a9 u Y) :
  ACalls Pg 120 [.ptr go 0 0,.int i] ⟨g,v⟩ fun av s'=>s'.h=g/\∃ d off,av=.row d 4 off (jx p.arrays x).length/\au u d/\RdAt g 4 av ((jx p.arrays x).map (gF i)):=by
 refine Fn120.calls .keep ?_;unfold Fn120.ac;obtain ⟨a,ap⟩:∃ a,a=(aB p).2.l:=⟨_,rfl⟩;obtain ⟨q,t,N,O,bo,bt⟩:=a2;have D:=fE a1;rw [<-ap] at o ax q N O D;obtain ⟨e,M⟩:=q4.1 o;have K:a=a.take i++x::a.drop (i+1):=by
  rw [<-M,<-List.drop_eq_getElem_cons e,xa]
 have l:(a.take i).length=i:=by rw [tm]; omega
 obtain ⟨b,H⟩:∃ b,b=(cS p.arrays 0 (a.take i)).length:=⟨_,rfl⟩;have C:cS p.arrays 0 a=cS p.arrays 0 (a.take i)++(ku p.arrays i x++cS p.arrays (i+1) (a.drop (i+1))):=by
  conv=>lhs; rw [K]
  rw [pc,s7,l]; rfl
 have al:(dX p.arrays 0 a)[i]?=some (b:Int):=by
  rw [K,kC p.arrays 0 0,s7,r1 (by rw [dJ,l]; omega),dJ,l,x3,<-H]; rfl
 have ar:(cS p.arrays 0 a).length<=200000:=by have:=jR p.arrays 0 a; omega
 have k:b+((x.reads p.arrays).length+1)<=(cS p.arrays 0 a).length:=by rw [C]; simp only [s3,kw]; omega
 have a7:=D x (r8 o);obtain ⟨a8,ai,bm⟩:=a7.at_;obtain ⟨G,a0⟩:=q4.1 ai;obtain ⟨bj,w,W⟩:=O.at (i:=i) (by simp [an,dJ]; exact e)
 obtain ⟨d,h,R⟩:=N.at (i:=b) (by omega)
 obtain ⟨bk,P,a'⟩:=q.hstm.at (i:=x.num) (by simpa using G)
 obtain ⟨bl,Q,bf⟩:=q.hwhich.at (i:=i) (by simpa [an] using e)
 have S:((bn [] p.steps).map stCells).length=(bn [] p.steps).length:=by simp
 have T:(an (a.map fun i=>(i.num:Int))).length=a.length:=by simp [an]
 have U:(an (dX p.arrays 0 a)).length=a.length:=by simp [an,dJ]
 rw [S] at P;rw [T] at Q;rw [U] at w;rw [P,Q,w,h] at t;have ao:(an (a.map fun i=>(i.num:Int)))[i]?=some [.int x.num]:=by simp [an,e,M]
 have am:(an (dX p.arrays 0 a))[i]?=some [.int b]:=by unfold an; rw [rb,al]; rfl
 have a4:(stCells (x.step,a8))[16]?=some (row ((dm (Step.expr x.step)).map Expr.cells)):=by
  unfold stCells;rw [r1 (by rw [eF]; omega),eF]; rfl
 have J:(dm (Step.expr x.step)).length=(x.reads p.arrays).length:=by unfold Inst.reads; rw [iB,jC]
 obtain ⟨c,z⟩:∃ c,c=(x.reads p.arrays).length:=⟨_,rfl⟩;rw [<-z] at k J;have a5:=q0 (x:=(b:Int)+c)
 have a6:=q0 (x:=(b:Int)+c+1)
 obtain ⟨f,y⟩:∃ f,f=(cS p.arrays 0 a).length:=⟨_,rfl⟩;rw [<-y] at k t h ar;have a3:srI 4 (.row d 4 0 f) (some (.int b)) (some (.int ((b:Int)+c+1))) none=some (.row d 4 b (c+1)):=by
  have Z:(b:Int)<=(b:Int)+c+1:=by omega
  have aa:(b:Int)+c+1<=f:=by omega
  have ab:0<=(b:Int)+c+1:=by omega
  have ag:((b:Int)+c+1).toNat=b+c+1:=by omega
  simp [srI,bnd,Z,aa,ab,ag]
  try omega
 simp [t,e,W,am,bf,ao,G,a',a0,a4,J,a5,a6,a3];have m:(jx p.arrays x).length=c+1:=by rw [mI,z]
 refine ⟨d,⟨rfl,m.symm⟩,by rw [h]; exact aq.2 rfl,d,_,b,.live,by rw [so,m],R,?_,by rw [so,m,<-y]; exact k⟩
 rw [C,H,List.drop_left,yz,List.take_left]
@[simp] theorem Aj (l:List Int):(an l).length=l.length:=by simp [an]
@[simp] theorem Dk (l:List Int) (i:Nat) (h:i<(an l).length):(an l)[i]=[.int (l[i]'(by simpa using h))]:=by simp [an]
theorem om {n:Int} {r:List Int} (d:1<=n) (b:∀ z∈r,1<=z) (a:r.foldl (·*·) n<=20000):n<=20000:=by
 rw [ni] at a;have:=ji r b;have c:n*1<=n*r.foldl (·*·) 1:=x9 this (by omega)
 omega
theorem wX (a:Wb.Array) (g:OkArray a):aG Pg 118 [.agg a.cells] (.int (eV a.sizes)):=by
 rintro ⟨N,M⟩;refine Fn118.calls .frz ?_;unfold Fn118.ac;have Q:=g.len;have w:=g.cells;simp [Array.cells];obtain ⟨h,f⟩:∃ h:Nat->List Int->Slots->St->Prop,h=fun (i:Nat) r H R=>∃ n:Int,H 3=.int n/\r.foldl (·*·) n=eV a.sizes/\1<=n:=⟨_,rfl⟩;refine bu 9 Fn118.W0 a.sizes h (by rfl) (by rfl) ?_ ?_ ?_
 ·rw [f]; exact ⟨by simp,1,by simp,rfl,by omega⟩
 ·intro J v u l k d;rw [f] at d;obtain ⟨n,c,b,o⟩:=d;simp at c;simp only [List.foldl_nil] at b;simp [l,c,b];exact aA fun G P=>by rw [k.h G (by omega),qv]
 ·intro i e S J v u p t q l k d;rw [f] at d;obtain ⟨n,c,b,o⟩:=d;simp at c;simp only [vr] at b;have D:=(g.sizes e (aU q)).1;have m:1<=n*e:=A2 (by omega) (v2 o D (by omega) (by omega))
  have O:=om m (fun K z=>(g.sizes K (by rw [q]; exact z7 _ (r3 _ z))).1) (by rw [b]; exact w)
  have x:=q0 (x:=n*e)
  have y:=q0 (x:=(i:Int)+1)
  have C:(an a.sizes)[i]?=some [.int e]:=by simp [an,p,t]
  simp [l,p,C,c,x,y,t];refine ⟨k,?_⟩;rw [f];exact ⟨n*e,by simp,b,m⟩
theorem zU (a:Wb.Array) (g:OkArray a):aG Pg 63 [.agg a.cells] (.int (eV a.sizes)):=by
 rintro ⟨N,M⟩;refine Fn63.calls .frz ?_;unfold Fn63.ac;have Q:=g.len;have w:=g.cells;simp [Array.cells];obtain ⟨h,f⟩:∃ h:Nat->List Int->Slots->St->Prop,h=fun (i:Nat) r H R=>∃ n:Int,H 3=.int n/\r.foldl (·*·) n=eV a.sizes/\1<=n:=⟨_,rfl⟩;refine bu 9 Fn63.W0 a.sizes h (by rfl) (by rfl) ?_ ?_ ?_
 ·rw [f]; exact ⟨by simp,1,by simp,rfl,by omega⟩
 ·intro J v u l k d;rw [f] at d;obtain ⟨n,c,b,o⟩:=d;simp at c;simp only [List.foldl_nil] at b;simp [l,c,b];exact aA fun G P=>by rw [k.h G (by omega),qv]
 ·intro i e S J v u p t q l k d;rw [f] at d;obtain ⟨n,c,b,o⟩:=d;simp at c;simp only [vr] at b;have D:=(g.sizes e (aU q)).1;have m:1<=n*e:=A2 (by omega) (v2 o D (by omega) (by omega))
  have O:=om m (fun K z=>(g.sizes K (by rw [q]; exact z7 _ (r3 _ z))).1) (by rw [b]; exact w)
  have x:=q0 (x:=n*e)
  have y:=q0 (x:=(i:Int)+1)
  have C:(an a.sizes)[i]?=some [.int e]:=by simp [an,p,t]
  simp [l,p,C,c,x,y,t];refine ⟨k,?_⟩;rw [f];exact ⟨n*e,by simp,b,m⟩
theorem lW {A:List Wb.Array} {key:ByteArray} (h:¬bp A key<0):∃ (i:Nat) (a:Wb.Array),A[i]?=some a/\bp A key=i/\i<A.length/\ii A key=a.sizes/\a.key=key:=by
 obtain ⟨i,a,b,c,d,e,f⟩:=iq h;exact ⟨i,a,by rw [q3 b,d],c,b,f,e⟩
theorem rJ (p:Wb.Prog):aV p=if aR p=0 then e8 p else aR p:=rfl
theorem rK (p:Wb.Prog) (K:aw p.steps<=300) (b:Heap) (a:Nat):ACalls Pg 116 [p.av] ⟨b,a⟩ fun av s'=>Fr a b s'.h s'.c/\if aV p=0 then ∃ go q u t o d g,av=.tup [.ptr go 0 0,.int 0]/\RanAt s'.h s'.c go p q u t o d g/\∀ k,au d k->a<=k else av=.tup [.nilp,.int (aV p)]:=by
 have C:=uA p (by omega)
 simp only [Prog.av] at C;refine Fn116.calls .keep ?_;unfold Fn116.ac;obtain ⟨e,h⟩:∃ e,e=upd b a (some (.row 2 [[row (p.arrays.map Array.cells),row (p.steps.map Step.cells)]] .live none)):=⟨_,rfl⟩;have x:Fr a b e (a+1):=by rw [h]; exact (Fr.refl _ _).upd (q5 _) (rv _)
 have z:=(congrFun h a).trans ae;rw [rJ];simp [Prog.av,<-h,z];refine ACalls.pure C fun v O=>?_;by_cases m:aR p=0
 case neg=>
  simp [m];exact ⟨by show a<=v; omega,x.h⟩
 have D:=xr p (ej m) K e v;simp only [Prog.av] at D;simp [m,z];refine D.mono ?_;rintro av ⟨H,G⟩ J ⟨w,c⟩;simp only at J w c;have y:Fr a b H G:=⟨by omega,fun k l=>(w.h k (by omega)).trans (x.h k l)⟩
 by_cases f:e8 p=0
 ·rw [if_pos f] at c;obtain ⟨go,q,u,t,o,d,g,rfl,N,M⟩:=c;simp [f];exact ⟨y,q,u,t,o,d,⟨g,N⟩,fun k l=>by have:=M k l; omega⟩
 ·rw [if_neg f] at c;subst c;simp [f];exact y
theorem sf (p:Wb.Prog) (q:aw p.steps<=300) (e:Heap) (c:Nat):ACalls Pg 116 [p.av] ⟨e,c⟩ fun av s'=>Fr c e s'.h s'.c/\if aV p=0 then ∃ go g k h f b d,av=.tup [.ptr go 0 0,.int 0]/\RanAt s'.h s'.c go p g k h f b d else av=.tup [.nilp,.int (aV p)]:=by
 refine (rK p q e c).mono fun av s' _ ⟨o,a⟩=>⟨o,?_⟩;by_cases l:aV p=0
 ·rw [if_pos l] at a ⊢;obtain ⟨go,g,k,h,f,b,d,m,t,_⟩:=a;exact ⟨go,g,k,h,f,b,d,m,t⟩
 ·rw [if_neg l] at a ⊢; exact a
theorem lq:∀ a b:List UInt8,Lib.compareBytes b a =-Lib.compareBytes a b
 | [],[]=>rfl
 | [],_::_=>rfl
 | _::_,[]=>rfl
 | e::a,f::b=>by
  have h:=lq a b;simp only [Lib.compareBytes];by_cases c:e<f
  ·have d:¬f<e:=fun g=>by have:=to.1 g; have:=to.1 c; omega
   simp [c,d]
  ·by_cases d:f<e
   ·simp [c,d]
   ·simp [c,d,h]
theorem uV:∀ {a b:List UInt8},Lib.compareBytes a b=0->a=b
 | [],[],_=>rfl
 | [],_::_,c=>by simp [Lib.compareBytes] at c
 | _::_,[],c=>by simp [Lib.compareBytes] at c
 | d::a,e::b,c=>by
  simp only [Lib.compareBytes] at c;by_cases f:d<e
  ·simp [f] at c
  ·by_cases g:e<d
   ·simp [f,g] at c
   ·simp only [if_neg f,if_neg g] at c;have h:d=e:=by
     have k:¬d.toNat<e.toNat:=fun c=>f (to.2 c);have l:¬e.toNat<d.toNat:=fun c=>g (to.2 c);exact UInt8.toNat_inj.1 (by omega)
    rw [h,uV c]
theorem sV:∀ {a b c:List UInt8},0<=Lib.compareBytes b a->0<=Lib.compareBytes c b->0<=Lib.compareBytes c a
 | [],_,[],_,_=>by simp [Lib.compareBytes]
 | [],_,_::_,_,_=>by simp [Lib.compareBytes]
 | _::_,[],_,g,_=>by simp [Lib.compareBytes] at g
 | _::_,_::_,[],_,g=>by simp [Lib.compareBytes] at g
 | d::a,e::b,f::c,g,m=>by
  simp only [Lib.compareBytes] at g m ⊢;have o:e<d↔e.toNat<d.toNat:=to;have w:d<e↔d.toNat<e.toNat:=to;have p:f<e↔f.toNat<e.toNat:=to;have x:e<f↔e.toNat<f.toNat:=to;have y:f<d↔f.toNat<d.toNat:=to;have q:d<f↔d.toNat<f.toNat:=to;by_cases h:e<d
  ·simp [h] at g
  ·by_cases k:f<e
   ·simp [k] at m
   ·have t:¬f<d:=by rw [y]; rw [o] at h; rw [p] at k; omega
    rw [if_neg t];by_cases l:d<f
    ·simp [l]
    ·rw [if_neg l];have u:¬d<e:=by rw [w]; rw [q] at l; rw [p] at k; omega
     have v:¬e<f:=by rw [x]; rw [q] at l; rw [o] at h; omega
     rw [if_neg h,if_neg u] at g;rw [if_neg k,if_neg v] at m;exact sV g m
theorem eN:∀ (n:Nat) (D:List Nat),D.Nodup->(∀ x∈D,x<n)->D.length<=n
 | 0,D,_,b=>by
  cases D with
  | nil=>simp
  | cons x D=>exact absurd (b x r4) (by omega)
 | n+1,D,d,b=>by
  by_cases e:n∈D
  ·have:=eN n (D.erase n) (d.erase n) fun x a=>by
    have f:=b x (List.mem_of_mem_erase a);have g:x≠n:=fun c=>by subst c; exact d.not_mem_erase a
    omega
   rw [List.length_erase_of_mem e] at this;omega
  ·have:=eN n D d fun x a=>by
    have f:=b x a;have g:x≠n:=fun c=>e (c▸a);omega
   omega
@[simp] theorem Bm (l:List Wb.Spot):aP (l.map Spot.cells)=l.map Spot.cells:=cu (fun _=>rfl) l
theorem FzH.low {a:Nat} {h h':Heap} (x:FzH (fun k=>a<=k) h h') {k:Nat} (d:k<a):h' k=h k:=by
 rcases x k with b | ⟨c,_⟩
 ·exact b
 ·omega
def p7:Wb.Prog:=⟨[⟨⟨#[97]⟩,[1]⟩],[.mk 3 ⟨#[115]⟩ [] [] [] [] ⟨#[97]⟩ [⟨0,[]⟩] (.mk 1 7 ⟨0,[]⟩ ⟨#[]⟩ [] [])]⟩
theorem zY {G b:Gh} {s s':St} {w w':World} (h:Stp G s w b s' w') (e:∀ k,s.h k=none):Go.RowKit.Below w.heap.size w w':=
 ⟨h.os,h.tape,h.output,h.size,fun k d=>h.keep k d fun ⟨c,body,f,a,_⟩=>by rw [e c] at a; cases a⟩
theorem vK (f:FuncId) (J:∀ (xs:_root_.Array Value) (w:World),(callFunc f xs).run Tryz.prog w=.ok (.enter f xs) w)
  (N:∀ L:List Int,L.length<=1048576->∀ (m:Heap) (C:Nat),ACalls Pg f [row (an L)] ⟨m,C⟩ fun av s'=>av=.bool true/\s'.h=m)
  (W:World) (a:Option Addr) (len cap:Nat) (zs:List Int) (ab:len<=cap) (T:zs.length=len) (ag:len<=1048576)
  (K:len=0\/∃ b off,a=some ⟨b,off,none⟩/\∀ j,j<len->W.cell? ⟨b,off+j,none⟩=some (.int .i64 (zs.getD j 0))) :
  Calls Tryz.prog f #[.slice a len cap] W fun e y=>e=.returned (.bool true)/\Go.RowKit.Below W.heap.size W y:=by
 obtain ⟨h,o⟩:∃ h:Gh,h=⟨fun _=>none,fun b v=>W.cell? ⟨b,v,none⟩⟩:=⟨_,rfl⟩;have H:Sim h ⟨fun _=>none,0⟩ W:=by
  refine ⟨fun b v x d=>?_,fun D ai d=>?_,fun D b d=>?_,fun i j Y Z al am _ l=>?_⟩
  ·rw [o] at d; exact d
  ·rw [o] at d; cases d
  ·cases d
  ·cases l
 have R:row (an zs)=.sl (an zs) false:=by simp
 have M:(an zs).length=len:=by simp [T]
 have p:∀ (i:Nat) (e:List AV),(an zs)[i]?=some e->i<len/\e=[.int (zs.getD i 0)]:=fun i e c=>by
  have l:i<zs.length:=by
   have:=(q4.1 c).1;rw [Aj] at this; exact this
  refine ⟨by omega,?_⟩
  unfold an at c;rw [rb,q3 l] at c;rw [r9,q3 l];exact (ty c).symm
 have Q:Rep h (row (an zs)) (.slice a len cap):=by
  rw [R];have u:Rep h (.sl (an zs) false) (.slice a (an zs).length cap):=by
   obtain ⟨b,off,t⟩:∃ b off,(len≠0->a=some ⟨b,off,none⟩)/\∀ j,j<len->W.cell? ⟨b,off+j,none⟩=some (.int .i64 (zs.getD j 0)):=by
    rcases K with d | ⟨b,off,k,q⟩
    ·exact ⟨0,0,fun O=>absurd d O,fun j aa=>by omega⟩
    ·exact ⟨b,off,fun _=>k,q⟩
   refine .sl (an zs) false a cap b off 1 (fun i _=>.int .i64 (zs.getD i 0)) (by omega) (fun d=>by cases d) (fun P=>t.1 fun m=>P (s6.1 (by omega))) (fun i e c=>by rw [(p i e c).2]; rfl) (fun i e j z c g=>?_) (fun i e j z c g=>?_) (by omega)
   ·obtain ⟨k,rfl⟩:=p i e c
    match j with
    | 0=>
     rw [o];show W.cell? ⟨b,off+i*1+0,none⟩=_;rw [Nat.mul_one,wa];exact t.2 i k
    | j+1=>simp at g
   ·obtain ⟨k,rfl⟩:=p i e c
    match j with
    | 0=>simp at g; subst g; exact .sc _ rfl
    | j+1=>simp at g
  rw [M] at u;exact u
 have g:=N zs (by omega) (fun _=>none) 0 h W [.slice a len cap] H (RepL.cons Q (RepL.nil h))
 unfold CallOk at g;rw [J] at g;refine g.mono fun e ao c=>?_;cases e with
 | returned x=>
  obtain ⟨av,U,s',k,q,G,rfl,_⟩:=c;have S:x=.bool true:=by cases G; rfl
  exact ⟨by rw [S],zY k fun _=>rfl⟩
 | _=>exact absurd c id
def iw (A:List Wb.Array):Nat->List Inst->Wb.Spot->Int->Int
 | _,[],_,r=>r
 | a,b::xs,s,r=>iw A (a+1) xs s (if b.sets A=s then a else r)
theorem ny (A:List Wb.Array):∀ (k:Nat) (a b:List Inst) (s:Wb.Spot) (r:Int),iw A k (a++b) s r=iw A (k+a.length) b s (iw A k a s r)
 | k,[],b,s,r=>rfl
 | k,c::a,b,s,r=>by
  simp only [t1,iw,ny A (k+1) a b,s5];rw [show k+1+a.length=k+(a.length+1) by omega]
def aE (A:List Wb.Array) (l:List Inst) (s:Wb.Spot):Int:=iw A 0 l s (-1)
theorem kR (A:List Wb.Array) {l:List Inst} {i:Nat} (a:i<l.length) (s:Wb.Spot):aE A (l.take (i+1)) s=if l[i].sets A=s then (i:Int) else aE A (l.take i) s:=by
 unfold aE;rw [r7,q3 a,x4,ny];simp [iw,xf (EC a)]
theorem eh (A:List Wb.Array) (l:List Inst) (s:Wb.Spot):∀ i,i<=l.length -> -1<=aE A (l.take i) s/\aE A (l.take i) s<i
 | 0,_=>by simp [aE,iw]
 | i+1,a=>by
  have b:=eh A l s i (by omega)
  rw [kR A (by omega)]
  split <;> push_cast <;> omega
theorem sq (A:List Wb.Array) (l:List Inst) (ao:l.length<=1000000) (x:AV) (f:Nat) (am:f<=l.length) (a:Wb.Spot) (h:Heap) (c:Nat) (U:UsesN h c A x l) (Z:∀ k,au x k->k<c) :
  ACalls Pg 129 [x,.int f,.agg a.cells] ⟨h,c⟩ fun av s'=>av=.int (aE A (l.take f) a)/\s'.h=h:=by
 refine Fn129.calls .frz ?_;unfold Fn129.ac;have W:=q0 (x:=(f:Int)-1)
 obtain ⟨m,p⟩:∃ m,m=upd h c (some (.row 2 [a.cells] .live none)):=⟨_,rfl⟩;have y:Fr c h m (c+1):=by rw [p]; exact (Fr.refl _ _).upd (q5 _) (rv _)
 have M:m c=_:=(congrFun p c).trans ae;simp [W,Spot.cells] at p M ⊢;rw [<-p];obtain ⟨v,z⟩:∃ v:Nat->Slots->St->Prop,v=fun n ab s'=>n<=f/\ab 7=.int ((n:Int)-1)/\aE A (l.take f) a=aE A (l.take n) a/\Fr (c+1) m s'.h s'.c:=⟨_,rfl⟩;refine cJ Fn129.W0 (by rfl) v f ?_ ?_
 ·rw [z]; exact ⟨q5 _,by simp,rfl,Fr.refl _ _⟩
 ·intro n a9 s' J;rw [z] at J;obtain ⟨C,e,b,g⟩:=J;obtain ⟨al,ag⟩:=s';simp at e;simp only at g
  match n,C,e,b with
  | 0,C,e,b=>
   simp [e];exact ⟨by rw [b]; simp [aE,iw],(y.trans g).retH⟩
  | n+1,C,e,b=>
   have q:n<l.length:=by omega
   have Y:=q0 (x:=(n:Int)-1)
   have S:((n+1:Nat):Int)-1=n:=by omega
   rw [S] at e;obtain ⟨a8,H,ai,w,Q,o⟩:=U.at q;have T:=Z H (by rw [w]; exact aq.2 rfl)
   have G:=((y.trans g).h H T).trans Q;have N:=(g.h c (by omega)).trans M
   rw [kR A q] at b;obtain ⟨u,aa⟩:∃ u,u=l[n]:=⟨_,rfl⟩;rw [<-aa] at o b;obtain ⟨d,K⟩:∃ d,d=u.sets A:=⟨_,rfl⟩;rw [<-K] at b;obtain ⟨a5,⟨a2,a4,a3,a1,ax,ar,ap,a6,⟨bi,bf,bb,a',bj,bc⟩⟩,a0,a7⟩:=u;rw [cA,Step.cells_mk,<-K] at o;have O:d=a↔d.array=a.array/\d.cell=a.cell:=by cases d; cases a; simp
   by_cases t:d=a
   ·have P:=O.1 t;rw [if_pos t] at b;simp [e,q,w,G,o,N,cd,eU,P.1,P.2];exact ⟨b.symm,(y.trans g).retH⟩
   ·have R:(decide (d.array=a.array)&&d.cell==a.cell)=false:=by
     rw [Bool.eq_false_iff];intro D;simp at D;exact t (O.2 D)
    rw [if_neg t] at b;simp [e,q,w,G,o,N,cd,eU,R,Y];refine ⟨n,q7 _,?_⟩;rw [z];exact ⟨by omega,by simp,b,g⟩
def dC (A:List Wb.Array):List Inst->List Inst->List Int
 | _,[]=>[]
 | a,b::xs=>(b.reads A).map (aE A a)++[-1]++dC A (a++[b]) xs
theorem tS (A:List Wb.Array):∀ (c a b:List Inst),dC A c (a++b)=dC A c a++dC A (c++a) b
 | c,[],b=>by simp [dC]
 | c,d::a,b=>by simp [dC,tS A (c++[d]) a b]
abbrev Acc:=Nat×Bool×Wb.Spot
def Acc.cells (a:Acc):List AV:=dQ a.1 a.2.1 a.2.2
def kO (A:List Wb.Array):Nat->List Inst->List Acc
 | _,[]=>[]
 | a,b::xs=>(b.reads A).map (fun s=>(a,false,s))++(a,true,b.sets A)::kO A (a+1) xs
theorem sO (A:List Wb.Array):∀ (k:Nat) (l:List Inst),cS A k l=(kO A k l).map Acc.cells
 | _,[]=>rfl
 | k,a::xs=>by simp [cS,kO,ku,sO A (k+1) xs,Acc.cells]
def fQ (m:Wb.Spot->Int) (a:Acc):Wb.Spot->Int:=if a.2.1 then fun s=>if s=a.2.2 then a.1 else m s else m
def tu (m:Wb.Spot->Int) (a:Acc):Int:=if a.2.1 then -1 else m a.2.2
def gu (m:Wb.Spot->Int):List Acc->List Int
 | []=>[]
 | a::r=>tu m a::gu (fQ m a) r
theorem tT:∀ (m:Wb.Spot->Int) (a b:List Acc),gu m (a++b)=gu m a++gu (a.foldl fQ m) b
 | m,[],b=>rfl
 | m,c::a,b=>by simp [gu,tT (fQ m c) a b]
theorem qh (m:Wb.Spot->Int) (k:Nat) (r:List Acc):∀ l:List Wb.Spot,gu m (l.map (fun s=>(k,false,s))++r)=l.map m++gu m r/\(l.map (fun s=>((k,false,s):Acc))).foldl fQ m=m
 | []=>⟨rfl,rfl⟩
 | s::l=>by
  obtain ⟨b,c⟩:=qh m k r l;have a:fQ m (k,false,s)=m:=rfl;exact ⟨by simp [gu,tu,a,b],by simp [a,c]⟩
theorem vd (A:List Wb.Array) (b:List Inst) (x:Inst):aE A (b++[x])=fun s=>if s=x.sets A then (b.length:Int) else aE A b s:=by
 funext s;unfold aE;rw [ny];simp only [iw,s7];by_cases a:x.sets A=s
 ·rw [if_pos a,if_pos a.symm]
 ·rw [if_neg a,if_neg (s4 a)]
theorem wL (A:List Wb.Array):∀ (a xs:List Inst),gu (aE A a) (kO A a.length xs)=dC A a xs/\(kO A a.length xs).foldl fQ (aE A a)=aE A (a++xs)
 | a,[]=>by simp [kO,gu,dC]
 | a,b::xs=>by
  obtain ⟨d,e⟩:=wL A (a++[b]) xs;have c:fQ (aE A a) (a.length,true,b.sets A)=aE A (a++[b]):=by rw [vd]; rfl
  have f:(a++[b]).length=a.length+1:=by simp
  rw [f] at d e;obtain ⟨g,h⟩:=qh (aE A a) a.length ((a.length,true,b.sets A)::kO A (a.length+1) xs) (b.reads A);constructor
  ·rw [kO,g,gu,c,d]; simp [dC,tu]
  ·rw [kO,xn,h,vr,c,e]; simp
theorem kG {c d:Type} [DecidableEq c]:∀ (m:List (c×d)) (k:c) (v:d),(bG m k v).map (·.1)=if k∈m.map (·.1) then m.map (·.1) else m.map (·.1)++[k]
 | [],k,v=>by simp [bG]
 | e::m,k,v=>by
  simp only [bG];by_cases b:k=e.1
  ·simp [b]
  ·rw [if_neg b,s9,kG m k v,s9];by_cases a:k∈m.map (·.1)
   ·rw [if_pos a,if_pos (r3 _ a)]
   ·rw [if_neg a,if_neg (by simp only [se,not_or]; exact ⟨b,a⟩)]; rfl
theorem dY {a b:Type} [DecidableEq a] {m:List (a×b)} {k:a} {v:b} (h:(m.map (·.1)).Nodup):((bG m k v).map (·.1)).Nodup:=by
 rw [kG];split
 ·exact h
 ·rename_i f;rw [va];exact ⟨h,by simp,fun g d l e=>by rw [sa.1 e]; exact fun c=>f (c▸d)⟩
theorem pu {e:Type} [DecidableEq e]:∀ (m:List (e×Int)) (k:e) (v:Int),(∀ a∈m,0<=a.2)->0<=v->∀ a∈bG m k v,0<=a.2
 | [],k,v,_,c=>by simp only [bG,sa]; rintro a rfl; exact c
 | f::m,k,v,d,c=>by
  simp only [bG];split
  ·intro a b;rcases se.1 b with rfl | b
   ·exact c
   ·exact d a (r3 _ b)
  ·intro a b;rcases se.1 b with rfl | b
   ·exact d _ r4
   ·exact pu m k v (fun a b=>d a (r3 _ b)) c a b
theorem lD {c d:Type} [DecidableEq c]:∀ {m:List (c×d)} {k:c} {v:d},(m.map (·.1)).Nodup->(k,v)∈m->bw m k=some v
 | f::m,k,v,b,a=>by
  simp only [s9,y0] at b;simp only [bw];rcases se.1 a with rfl | a
  ·simp
  ·have:¬k=f.1:=fun e=>b.1 (e▸rf.2 ⟨(k,v),a,rfl⟩);rw [if_neg this]; exact lD b.2 a
theorem fO {b c:Type} [DecidableEq b]:∀ {m:List (b×c)} {k:b} {v:c},bw m k=some v->(k,v)∈m
 | e::m,k,v,a=>by
  simp only [bw] at a;split at a
  ·rename_i d; injection a with a; subst a; rw [d]; exact r4
  ·exact r3 _ (fO a)
theorem sg (p:Wb.Prog) (c2 c5 c4 c0 b0 b3:AV) (go:Nat) (c':cP p.arrays (aB p).2.l<=200000) (o:Heap) (a:Nat) (ao:RanAt o a go p c2 c5 c4 c0 b0 b3) :
  ACalls Pg 119 [.ptr go 0 0] ⟨o,a⟩ fun av s'=>Fr a o s'.h s'.c/\∃ (g Z:Nat) (m:List (Wb.Spot×Int)) (ver:Nat),av=.tup [.row g 1 0 (dC p.arrays [] (aB p).2.l).length,.map Z]/\a<=g/\g<s'.c/\a<=Z/\Z<s'.c/\s'.h g=some (.row 1 (an (dC p.arrays [] (aB p).2.l)) .live none)/\s'.h Z=some (.map (kvs aM AV.int m) ver)/\(∀ s,aE p.arrays (aB p).2.l s=(bw m s).getD (-1))/\(m.map (·.1)).Nodup/\∀ S∈m,0<=S.2:=by
 refine Fn119.calls .keep ?_;unfold Fn119.ac;obtain ⟨d,a6⟩:∃ d,d=kO p.arrays 0 (aB p).2.l:=⟨_,rfl⟩;have b8:=ao.obj;have c7:=ao.plo.goc;have a4:=ao.hacc;rw [sO,<-a6] at a4;have bj:=fun s=>a4.len s;have Y:(d.map Acc.cells).length=d.length:=by simp
 rw [Y] at bj;have c8:d.length<=200000:=by
  have:=jR p.arrays 0 (aB p).2.l;rw [sO,<-a6,Y] at this;omega
 obtain ⟨H,J⟩:=wL p.arrays [] (aB p).2.l;have b2:aE p.arrays []=fun _=>-1:=rfl;rw [b2] at H J;simp only [x5,u5] at H J;rw [<-a6] at H J;obtain ⟨N,ai⟩:∃ N,N=upd (upd o a (some (.map [] a))) (a+1) (some (.row 1 [] .live none)):=⟨_,rfl⟩;have bf:Fr a o N (a+1+1):=by rw [ai]; exact ((Fr.refl _ _).upd (q5 _) (rv _)).upd (by omega) (rv _)
 have cb:=(bf.h go (by omega)).trans b8
 have ca:N a=some (.map [] a):=by rw [ai,qv,ae]
 have cx:N (a+1)=some (.row 1 [] .live none):=by rw [ai,ae]
 simp [<-ai,cb,bj];obtain ⟨f,bk⟩:∃ f:Wb.Spot->Int,f=fun _=>-1:=⟨_,rfl⟩;rw [<-bk] at H J;obtain ⟨T,aa⟩:∃ T:Nat->List Acc->Slots->St->Prop,T=fun i r c1 s'=>∃ (g:Nat) (m:List (Wb.Spot×Int)) (ver:Nat),c1 5=.row g 1 0 i/\a<g/\g<s'.c/\s'.h g=some (.row 1 (an (gu f (d.take i))) .live none)/\(gu f (d.take i)).length=i/\s'.h a=some (.map (kvs aM AV.int m) ver)/\((∀ s,(d.take i).foldl fQ f s=(bw m s).getD (-1))/\(m.map (·.1)).Nodup/\∀ S∈m,0<=S.2)/\Fr a o s'.h s'.c:=⟨_,rfl⟩;refine aZ 16 Fn119.W0 d T (by rfl) (by rfl) ?_ ?_ ?_
 ·rw [aa];exact ⟨by simp,a+1,[],a,by simp,q7 _,q7 _,cx,rfl,ca,⟨fun s=>by rw [bk]; rfl,by simp,by simp⟩,bf⟩
 ·intro c3 s' v M;rw [aa,r0,H,J] at M;obtain ⟨g,m,ver,q,b9,P,Q,ar,R,k,t⟩:=M;obtain ⟨a1,e⟩:=s';simp at q;simp only at P Q R t;have:=t.c;simp [v,q];exact ⟨t,g,a,⟨⟨rfl,ar.symm⟩,rfl⟩,by omega,P,q5 _,by omega,Q,m,⟨ver,R⟩,k.1,k.2.1,fun w b b6=>k.2.2 (w,b) b6⟩
 ·intro i w b1 c3 s' al a3 c9 v M;rw [aa] at M;obtain ⟨g,m,ver,q,b9,P,Q,ar,R,⟨k,y⟩,t⟩:=M;obtain ⟨a1,e⟩:=s';simp at q;simp only at P Q R t;have ap:=q0 (x:=(i:Int)+1)
  have c6:=t.c;obtain ⟨bc,a0,bN⟩:=a4.at (i:=i) (by rw [Y]; exact al)
  rw [Y] at a0;have b':=ao.ab bc (by rw [a0]; exact aq.2 rfl)
  have bW:=(t.h bc b').trans bN;have bx:d.take (i+1)=d.take i++[w]:=by rw [r7,q3 al,a3]; rfl
  have a8:gu f (d.take (i+1))=gu f (d.take i)++[tu ((d.take i).foldl fQ f) w]:=by rw [bx,tT]; rfl
  have bm:(d.take (i+1)).foldl fQ f=fQ ((d.take i).foldl fQ f) w:=by rw [bx,xn]; rfl
  obtain ⟨G,b5⟩:∃ G,G=(d.take i).foldl fQ f:=⟨_,rfl⟩;rw [<-b5] at a8 bm k;obtain ⟨c,D,s⟩:=w;have b7:(d.map Acc.cells)[i]?=some [.int c,.bool D,.str s.array,.int s.cell]:=by simp [al,a3]; rfl
  obtain ⟨h,a5⟩:∃ h,h=upd a1 e (some (.row 4 [[.int c,.bool D,.str s.array,.int s.cell]] .live none)):=⟨_,rfl⟩;have a2:Fr e a1 h (e+1):=by rw [a5]; exact (Fr.refl _ _).upd (q5 _) (rv _)
  have U:h e=_:=(congrFun a5 e).trans ae;have b4:=(a2.h g P).trans Q;have bt:=(a2.h a (by omega)).trans R
  have u:=kb ka (f:=AV.int) (z:=.int 0) (ok:=true) (s:=⟨h,e+1⟩) bt s;have bo:aM s=.agg [.str s.array,.int s.cell]:=rfl;rw [bo] at u;have ab:=fun x=>bE (sz:=1) (bytes:=8) (md:=.plain) (x:=[.int x]) (b:=true) (s:=⟨h,e+1⟩) (len:=i) (by simp) b4 (by simp [ar]) (by decide) (by decide) (by decide) rfl (by omega)
  simp [v,al,a3,a0,bW,b7,aH,Acc.cells,dQ];rw [<-a5];have am:=k s;have fin:∀ (x:Int) (K:Heap) (W:Nat) (a':Slots) (C:List (Wb.Spot×Int)) (bb:Nat),tu G (c,D,s)=x->a' 5=.row (e+1) 1 0 (i+1)->e+1<W->K (e+1)=some (.row 1 (an (gu f (d.take i))++[[.int x]]) .live none)->K a=some (.map (kvs aM AV.int C) bb)->(∀ s',fQ G (c,D,s) s'=(bw C s').getD (-1))->(∀ c,c<a->K c=o c)->((C.map (·.1)).Nodup/\∀ S∈C,0<=S.2)->T (i+1) b1 a' ⟨K,W⟩:=fun x K W a' C bb cc ch cl cn ax cp cq cs=>by
   rw [aa];refine ⟨e+1,C,bb,ch,by omega,cl,by rw [a8,cc,wo]; exact cn,by rw [a8]; simp [ar],ax,⟨by rw [bm]; exact cp,cs⟩,by show a<=W; omega,cq⟩
  have low:∀ b l,∀ c,c<a->upd (upd h g b) (e+1) l c=o c:=fun b l c O=>by rw [qv,qv,a2.h c (by omega)]; exact t.h c O
  have a9:∀ b l,upd (upd h g b) (e+1) l a=some (.map (kvs aM AV.int m) ver):=fun b l=>by rw [qv,qv]; exact bt
  have a7:=fun b l=>iy ka (f:=AV.int) (g:=a) (s:=⟨upd (upd h g b) (e+1) l,e+1+1⟩) (a9 b l) s (c:Int);rw [bo] at a7;have ag:¬e=g:=by omega
  have ax:∀ s',fQ G (c,true,s) s'=(bw (bG m s (c:Int)) s').getD (-1):=fun s'=>by
   rw [kF];by_cases bl:s'=s
   ·simp [fQ,bl]
   ·simp [fQ,bl,k s']
  cases bi:bw m s with
  | none=>
   rw [bi] at am u;cases D
   ·simp [u,U,q,bsI,az,ab,ap,v,ag];exact fin (-1) _ _ _ m ver am (by simp) (by omega) ae (a9 _ _) k (low _ _) y
   ·simp [u,U,q,bsI,az,aH,ab,ap,v,ag,a7];exact fin (-1) _ _ _ (bG m s (c:Int)) _ rfl (by simp) (by omega) (by rw [qv]; exact ae) ae ax (fun c O=>by rw [qv]; exact low _ _ c O) ⟨dY y.1,pu _ _ _ y.2 (by omega)⟩
  | some z=>
   rw [bi] at am u;cases D
   ·simp [u,U,q,bsI,az,ab,ap,v,ag];exact fin z _ _ _ m ver am (by simp) (by omega) ae (a9 _ _) k (low _ _) y
   ·simp [u,U,q,bsI,az,aH,ab,ap,v,ag,a7];exact fin (-1) _ _ _ (bG m s (c:Int)) _ rfl (by simp) (by omega) (by rw [qv]; exact ae) ae ax (fun c O=>by rw [qv]; exact low _ _ c O) ⟨dY y.1,pu _ _ _ y.2 (by omega)⟩
theorem fB {p:Wb.Prog} (h:aV p=0):aR p=0/\(aB p).1=0/\(∀ x∈(aB p).2.l,x.ok p.arrays=true)/\cP p.arrays (aB p).2.l<=200000:=by
 unfold aV at h;split at h
 ·rename_i a;split at h
  ·rename_i b;unfold cK at h;split at h
   ·cases h
   ·rename_i c;split at h
    ·cases h
    ·rename_i f;refine ⟨a,b,fun x e=>?_,by omega⟩
     have d:((aB p).2.l.any fun i=>!i.ok p.arrays)=false:=by simpa using c
     have:=wy.1 d x e;simpa using this
  ·exact absurd h ‹_›
 ·exact absurd h ‹_›
def nm (y:Wb.Step×List Wb.Step):ByteArray:=Step.name y.1
mutual
theorem qj {A:List Wb.Array}:∀ {s:Wb.Step} {L N:List ByteArray} {d:Int},(aI A L d N s).1=0->∀ around,(aI A L d N s).2=N++(dU around s).map nm/\(N.Nodup->(N++(dU around s).map nm).Nodup)
 | .mk kind name low high conds body array subs expr,L,N,d,h,around=>by
  simp only [aI] at h ⊢;by_cases a1:12<d
  ·rw [if_pos a1] at h; exact absurd h (by simp)
  rw [if_neg a1] at h ⊢;by_cases a2:¬(1<=kind/\kind<=3)
  ·rw [if_pos a2] at h; exact absurd h (by simp)
  rw [if_neg a2] at h ⊢;by_cases a3:bP kind name low high conds body array subs expr=false
  ·rw [if_pos a3] at h; exact absurd h (by simp)
  rw [if_neg a3] at h ⊢;by_cases a4:kind≠2/\bO name=false
  ·rw [if_pos a4] at h; exact absurd h (by simp)
  rw [if_neg a4] at h ⊢;by_cases a5:kind=1
  ·rw [if_pos a5] at h ⊢;have h13:¬kind=3:=by omega
   by_cases a6:bD A L name low high=0
   ·rw [if_pos a6] at h ⊢;simp only [dU,if_neg h13,u5];exact ft h _
   ·rw [if_neg a6] at h; exact absurd h a6
  rw [if_neg a5] at h ⊢;by_cases a7:kind=2
  ·rw [if_pos a7] at h ⊢;have h13:¬kind=3:=by omega
   by_cases a6:bQ L conds=0
   ·rw [if_pos a6] at h ⊢;simp only [dU,if_neg h13,u5];exact ft h _
   ·rw [if_neg a6] at h; exact absurd h a6
  rw [if_neg a7] at h ⊢;have h3:kind=3:=by omega
  have hbody:body=[]:=by
   have:bP kind name low high conds body array subs expr=true:=by simpa using a3
   simp only [bP,if_neg a5,if_neg a7,q9,decide_eq_true_eq] at this;exact this.2
  subst hbody;have hin:inL name N=false:=by
   simp only [cU] at h;split at h
   ·exact absurd h (by decide)
   ·simpa using ‹¬inL name N=true›
  simp only [dU,if_pos h3,bn,xg,s9,EE,nm,Step.name];refine ⟨trivial,fun hN=>?_⟩;rw [va];exact ⟨hN,by simp,fun a ha b hb=>by rw [sa.1 hb]; exact fun e=>qC hin (e▸ha)⟩
theorem ft {A:List Wb.Array}:∀ {l:List Wb.Step} {L N:List ByteArray} {d:Int},(aJ A L d N l).1=0->∀ around,(aJ A L d N l).2=N++(bn around l).map nm/\(N.Nodup->(N++(bn around l).map nm).Nodup)
 | [],L,N,d,h,around=>by simp [aJ,bn]
 | s::ss,L,N,d,h,around=>by
  simp only [aJ] at h ⊢;by_cases a1:(aI A L d N s).1=0
  ·rw [if_pos a1] at h ⊢;obtain ⟨i1,i2⟩:=qj a1 around;obtain ⟨j1,j2⟩:=ft h around;simp only [bn,sh];have e:N++((dU around s).map nm++(bn around ss).map nm)=(aI A L d N s).2++(bn around ss).map nm:=by rw [i1,u0]
   rw [e];exact ⟨j1,fun hN=>j2 (by rw [i1]; exact i2 hN)⟩
  ·rw [if_neg a1] at h; exact absurd h a1
end
theorem uw {p:Wb.Prog} (h:aR p=0):((bn [] p.steps).map nm).Nodup:=by
 simp only [aR] at h;split at h
 ·cases h
 ·split at h
  ·split at h
   ·rename_i a;have:=(ft a []).2 List.nodup_nil;simpa using this
   ·exact absurd h ‹_›
  ·exact absurd h ‹_›
def rW:List AV:=[.int 0,.str ⟨#[]⟩,.nil,.nil,.nil,.nil,.str ⟨#[]⟩,.nil,.int 0,.int 0,.int 0,.nil,.str ⟨#[]⟩,.nil,.nil]
mutual
def iz:Wb.Step->List ByteArray
 | .mk kind name low high conds body array subs expr=>(if kind=3 then [name] else [])++aX body
def aX:List Wb.Step->List ByteArray
 | []=>[]
 | s::ss=>iz s++aX ss
end
mutual
theorem wC:∀ (s:Wb.Step) (around:List Wb.Step),(dU around s).map nm=iz s
 | .mk kind name low high conds body array subs expr,around=>by
  simp only [dU,iz,sh,jl body _];congr 1;split <;> rfl
theorem jl:∀ (l:List Wb.Step) (around:List Wb.Step),(bn around l).map nm=aX l
 | [],around=>rfl
 | s::ss,around=>by simp only [bn,aX,sh,wC s around,jl ss around]
end
mutual
theorem pZ:∀ s:Wb.Step,(iz s).length<=count s
 | .mk kind name low high conds body array subs expr=>by
  have:=fk body;simp only [iz,count,s3];split <;> simp only [s5,x5] <;> omega
theorem fk:∀ l:List Wb.Step,(aX l).length<=aw l
 | []=>by simp [aX,aw]
 | s::ss=>by
  have:=pZ s;have:=fk ss;simp only [aX,aw,s3]; omega
end
theorem pY:∀ (a b:List Wb.Step),aX (a++b)=aX a++aX b
 | [],b=>rfl
 | c::a,b=>by simp only [t1,aX,pY a b,u0]
theorem fi:∀ l:List Wb.Step,l.length<=aw l
 | []=>by simp [aw]
 | ⟨_,_,_,_,_,body,_,_,_⟩::ss=>by
  have:=fi ss;simp only [aw,count,s5]; omega
theorem qu:∀ (y:Nat) (l:List Wb.Step),aw l<y->aw l<=1000->aG Pg 31 [row (l.map Step.cells)] (row (ak (aX l))):=by
 intro y
 induction y with
 | zero=>intro l a6; omega
 | succ y bj=>
  rintro l a6 b0 ⟨D,k⟩;have b3:=fi l;refine Fn31.calls .frz ?_;unfold Fn31.ac;simp;obtain ⟨w,G⟩:∃ w:Nat->List Wb.Step->Slots->St->Prop,w=fun (i:Nat) r bm m=>∃ go,bm 3=.row go 1 0 (aX (l.take i)).length/\k<=go/\go<m.c/\m.h go=some (.row 1 (ak (aX (l.take i))) .live none)/\∀ a,a<k->m.h a=D a:=⟨_,rfl⟩;refine aZ 8 Fn31.W0 l w (by rfl) (by rfl) ?_ ?_ ?_
  ·rw [G];exact ⟨by simp,k,by simp [aX],q5 _,q7 _,by simp [aX,ak],fun a f=>by show upd D k _ a=_; rw [qv]⟩
  ·intro bt m v t;rw [G,r0] at t;obtain ⟨go,h,bi,K,p,q⟩:=t;obtain ⟨N,d⟩:=m;simp at h;simp only at K p q;have a':(ak (aX l)).length=(aX l).length:=by simp [ak]
   have bc:List.take (aX l).length (ak (aX l))=ak (aX l):=q8 (by omega)
   simp [v,h,p,bc,a'];exact aA fun a f=>by rw [qv]; exact q a f
  ·intro i x xs bt m ab ao a7 v t;rw [G] at t;obtain ⟨go,h,bi,K,p,q⟩:=t;obtain ⟨N,d⟩:=m;simp at h;simp only at K p q;have am:=q0 (x:=(i:Int)+1)
   have bb:l.take (i+1)=l.take i++[x]:=by rw [r7,q3 ab,ao]; rfl
   have a5:aw l=aw (l.take i)+(count x+aw xs):=by
    conv=>lhs; rw [a7]
    rw [dB]; rfl
   have a8:=fk (l.take i);have bf:=pZ x;have O:aX (l.take (i+1))=aX (l.take i)++iz x:=by rw [bb,pY]; simp [aX]
   obtain ⟨b,a2⟩:∃ b,b=aX (l.take i):=⟨_,rfl⟩;rw [<-a2] at h p a8 O;obtain ⟨kind,name,low,ag,U,body,array,subs,⟨ar,ap,Z,Y,es,T⟩⟩:=x;have b1:=fk body;simp only [count] at a5 bf;have ai:=bj body (by omega) (by omega)
   obtain ⟨g,H⟩:∃ g,g=upd N d (some (.row 15 [(Wb.Step.mk kind name low ag U body array subs (.mk ar ap Z Y es T)).cells] .live none)):=⟨_,rfl⟩;have R:∀ C,C<d->g C=N C:=fun C b2=>by rw [H,qv]
   have M:g d=_:=(congrFun H d).trans ae;have ax:=(R go K).trans p;rw [Step.cells_mk] at H M;have fin:∀ (z:List ByteArray) (S:Slots) (o c:Nat) (e:Heap),z++aX body=b++iz (.mk kind name low ag U body array subs (.mk ar ap Z Y es T))->o<c->k<=o->(∀ a,a<k->e a=D a)->S 3=.row c 1 0 (z.length+(aX body).length)->w (i+1) xs S ⟨upd (upd e o none) c (some (.row 1 (ak z++ak (aX body)) .live none)),c+1⟩:=by
    intro z S o c e W bN bW a0 a1;rw [G];refine ⟨c,?_,by omega,q7 _,?_,fun a f=>?_⟩
    ·rw [a1,O,<-W,s3]
    ·show upd (upd e o none) c _ c=_;rw [ae,O,<-W]; simp [ak]
    ·show upd (upd e o none) c _ a=_;rw [qv,qv]; exact a0 a f
   have al:(ak b).length=b.length:=by simp [ak]
   simp [v,ab,ao,Step.cells_mk];rw [<-H];by_cases f:kind=3
   ·have a3:=bE (sz:=1) (bytes:=16) (md:=.plain) (len:=b.length) (x:=[.str name]) (b:=true) (s:=⟨g,d+1⟩) (by simp) ax al (by decide) (by decide) (by decide) rfl (by omega)
    have bl:¬d=go:=by omega
    simp [M,f,h,bsI,az,a3,bl];obtain ⟨e,J⟩:∃ e,e=upd (upd g go none) (d+1) (some (.row 1 (ak b++[[.str name]]) .live none)):=⟨_,rfl⟩;have b4:e d=_:=((congrFun J d).trans (ad (by omega))).trans ((ad (by omega)).trans M)
    have aa:e (d+1)=_:=(congrFun J (d+1)).trans ae;have bk:∀ a,a<k->e a=D a:=fun a f=>by rw [J,qv,qv,R a (by omega)]; exact q a f
    rw [<-J];refine ACalls.pure ai fun c a4=>?_;have a9:ak b++[[AV.str name]]=ak (b++[name]):=by simp [ak]
    rw [a9] at aa;have u:=iM (sz:=1) (bytes:=16) (md:=.plain) (es:=ak (b++[name])) (xs:=ak (aX body)) (b:=false) (len:=b.length+1) (s:=⟨e,c⟩) (by simp) aa (by simp [ak]) (by decide) (by decide) (by decide) (fun bx Q=>by obtain ⟨bo,_,rfl⟩:=rf.1 Q; rfl) (by simp [ak]; omega)
    have P:(ak (aX body)).length=(aX body).length:=by simp [ak]
    simp only [row,P] at u;simp [u,v,am];refine fin (b++[name]) _ (d+1) c e (by simp [iz,f]) (by omega) (by omega) bk (by simp)
   ·simp [M,f,h];refine ACalls.pure ai fun c a4=>?_;have u:=iM (sz:=1) (bytes:=16) (md:=.plain) (es:=ak b) (xs:=ak (aX body)) (b:=false) (len:=b.length) (s:=⟨g,c⟩) (by simp) ax al (by decide) (by decide) (by decide) (fun bx Q=>by obtain ⟨bo,_,rfl⟩:=rf.1 Q; rfl) (by simp [ak]; omega)
    have P:(ak (aX body)).length=(aX body).length:=by simp [ak]
    simp only [row,P] at u;simp [h,u,v,am];refine fin b _ go c g (by simp [iz,f]) (by omega) (by omega) (fun a f=>(R a (by omega)).trans (q a f)) (by simp)
def cj (o:List Bool) (n:Int):List Bool:=if 0<=n then o.set n.toNat true else o
def fq (a:Nat->List Int) (i:Nat) (o:List Bool):List Bool:=if o.getD i false=true then (a i).foldl cj o else o
def jb (c:Nat->List Int):Nat->List Bool->List Bool
 | 0,a=>a
 | b+1,a=>jb c b (fq c b a)
def jz (d:Nat->List Int) (c:Nat->Bool):Nat->List Bool->List Bool
 | 0,b=>b
 | a+1,b=>jz d c a (fq d a (if c a=true then b.set a true else b))
theorem wz (o:List Bool) (n:Int):(cj o n).length=o.length:=by unfold cj; split <;> simp
theorem fX:∀ (l:List Int) (o:List Bool),(l.foldl cj o).length=o.length
 | [],o=>rfl
 | n::l,o=>by rw [vr,fX l,wz]
theorem rE (a:Nat->List Int) (i:Nat) (o:List Bool):(fq a i o).length=o.length:=by
 unfold fq; split
 ·exact fX _ _
 ·rfl
theorem qR (a:Nat->List Int):∀ (k:Nat) (o:List Bool),(jb a k o).length=o.length
 | 0,o=>rfl
 | k+1,o=>by rw [jb,qR a k,rE]
def RelU (c:Nat->Bool) (a b:List Bool):Prop:=a.length=b.length/\∀ j,j<a.length->a.getD j false=(b.getD j false||c j)
theorem iQ (o:List Bool) (i j:Nat) (b:j<o.length):(o.set i true).getD j false=(decide (i=j)||o.getD j false):=by
 rw [r9,r9,List.getElem?_set];by_cases a:i=j
 ·subst a; simp [b]
 ·simp [a]
theorem RelU.set {c:Nat->Bool} {a b:List Bool} (h:RelU c a b) (i:Nat):RelU c (a.set i true) (b.set i true):=by
 refine ⟨by simp [h.1],fun j d=>?_⟩
 simp at d;rw [iQ a i j d,iQ b i j (by have:=h.1; omega),h.2 j d,Bool.or_assoc]
theorem RelU.mark {c:Nat->Bool} {a b:List Bool} (h:RelU c a b) (n:Int):RelU c (cj a n) (cj b n):=by
 unfold cj; split
 ·exact h.set _
 ·exact h
theorem RelU.marks {c:Nat->Bool}:∀ (l:List Int) {a b:List Bool},RelU c a b->RelU c (l.foldl cj a) (l.foldl cj b)
 | [],a,b,d=>d
 | n::l,a,b,d=>RelU.marks l (d.mark n)
theorem pi (o:Nat->List Int) (d:Nat->Bool):∀ (k:Nat) (a b:List Bool),k<=a.length->RelU (fun j=>decide (j<k)&&d j) a b->jb o k a=jz o d k b
 | 0,a,b,_,c=>by
  simp only [jb,jz];refine zi c.1 fun j e p=>?_;have:=c.2 j e;simpa [r9,e,p] using this
 | k+1,a,b,v,c=>by
  simp only [jb,jz];obtain ⟨f,m⟩:∃ f,f=(if d k=true then b.set k true else b):=⟨_,rfl⟩
  rw [<-m];have w:k<b.length:=by have:=c.1; omega
  have e:RelU (fun j=>decide (j<k)&&d j) a f:=by
   refine ⟨by rw [m]; split <;> simp [c.1],fun j t=>?_⟩
   have u:j<b.length:=by have:=c.1; omega
   rw [c.2 j t,m];by_cases h:d k=true
   ·rw [if_pos h,iQ b k j u];by_cases g:k=j
    ·subst g; simp [h]
    ·have l:decide (j<k+1)=decide (j<k):=by congr 1; exact propext ⟨fun _=>by omega,fun _=>by omega⟩
     simp [g,l]
   ·rw [if_neg h];by_cases g:k=j
    ·subst g; simp [h]
    ·have l:decide (j<k+1)=decide (j<k):=by congr 1; exact propext ⟨fun _=>by omega,fun _=>by omega⟩
     simp [l]
  refine pi o d k _ _ (by rw [rE]; omega) ?_
  unfold fq;have q:a.getD k false=f.getD k false:=by rw [e.2 k (by omega)]; simp
  rw [q];split
  ·exact RelU.marks _ e
  ·exact e
def dM (A:List Wb.Array) (l:List Inst) (i:Nat):List Int:=match l[i]? with
 | none=>[]
 | some a=>(a.reads A).map (aE A (l.take i))
def eA (A:List Wb.Array) (l:List Inst) (b:List ByteArray) (i:Nat):Bool:=match l[i]? with
 | none=>false
 | some a=>inL (a.sets A).array b&&decide (aE A l (a.sets A)=i)
def cI (A:List Wb.Array) (l:List Inst) (a:List ByteArray):List Bool:=jz (dM A l) (eA A l a) l.length (List.replicate l.length false)
theorem fF (A:List Wb.Array) (l:List Inst) (a:List ByteArray):(cI A l a).length=l.length:=by
 have c:RelU (fun j=>decide (j<l.length)&&eA A l a j) ((List.range l.length).map (eA A l a)) (List.replicate l.length false):=by
  refine ⟨by simp,fun j b=>?_⟩
  simp at b;simp [r9,b]
 have:=pi (dM A l) (eA A l a) l.length _ _ (by simp) c
 unfold cI;rw [<-this,qR]; simp
theorem vt (A:List Wb.Array) (l:List Inst) (c:List ByteArray) (b:List Bool) (d:b=(List.range l.length).map (eA A l c)):jb (dM A l) l.length b=cI A l c:=by
 subst d;refine pi _ _ _ _ _ (by simp) ⟨by simp,fun j a=>?_⟩
 simp at a;simp [r9,a]
def bJ:Nat->List Bool->List Int
 | _,[]=>[]
 | a,b::c=>(if b then [] else [(a:Int)])++bJ (a+1) c
theorem nq:∀ (k:Nat) (a b:List Bool),bJ k (a++b)=bJ k a++bJ (k+a.length) b
 | k,[],b=>by simp [bJ]
 | k,c::a,b=>by
  simp only [t1,bJ,nq (k+1) a b,u0,s5];rw [show k+1+a.length=k+(a.length+1) by omega]
theorem nv:∀ (k:Nat) (a:List Bool),(bJ k a).length<=a.length
 | k,[]=>by simp [bJ]
 | k,b::a=>by
  have:=nv (k+1) a;simp only [bJ,s3,s5];cases b <;> simp <;> omega
def cg (c:ByteArray->Bool) (b:List ByteArray):Nat->List ByteArray->Int
 | _,[]=>0
 | i,a::d=>if bO a=false then 5 else if c a=false then 8 else if inL a (b.take i)=true then 6 else cg c b (i+1) d
theorem wN (l:List ByteArray) (i:Nat):(ak l).take i=ak (l.take i):=by simp [ak,y7]
theorem qK (l:List ByteArray) (i:Nat) (b:i<=l.length):srI 1 (row (ak l)) none (some (.int (i:Int))) none=some (row (ak (l.take i))):=by
 have:=tR (sz:=1) (n:=i) (es:=ak l) (full:=false) (by simp [ak]; exact b) (fun c a=>by obtain ⟨s,_,rfl⟩:=rf.1 a; rfl)
 rw [wN] at this;simpa using this
theorem rY (l:List ByteArray) (f:Nat) (a b:List AV) (e:ByteArray->Bool) (h:Heap) (c:Nat) (y:qw f a b AV.str h c e l) :
  ACalls Pg 112 [row (ak l),.fn (.func f) a b] ⟨h,c⟩ fun av s'=>av=.int (cg e l 0 l)/\s'.h=h:=by
 refine ACalls.small fun z=>?_;have Q:l.length<=68719476736:=by simp [ak] at z; omega
 have C:(ak l).length=l.length:=by simp [ak]
 refine Fn112.calls .frz ?_;unfold Fn112.ac;simp [C];refine bM 9 Fn112.W0 l (fun (i:Nat) r R=>cg e l 0 l=cg e l i r) (by rfl) (by rfl) ?_ ?_ ?_
 ·simp
 ·intro J q k u d;simp [k,d,cg]
 ·intro i x xs J q p H w k u d;have G:=q0 (x:=(i:Int)+1)
  have v:(ak l)[i]?=some [.str x]:=by simp [ak,p,H]
  have D:=qK l i (by omega)
  simp only [cg] at d;simp [k,p,v];refine ACalls.pure (lf x) fun t N=>?_;cases g:bO x
  ·simp [d,g]
  simp;refine ACalls.at (y x (aU w) t (by omega)) fun K O=>?_
  cases m:e x
  ·simp [d,g,m]
  simp [D];refine ACalls.pure (dz (l.take i) x) fun M P=>?_;cases o:inL x (l.take i)
  ·simp [d,g,m,o,k,G];omega
  ·simp [d,g,m,o]
theorem zM (p:Wb.Prog) (l:List ByteArray):aG Pg 45 [p.av,row (ak l)] (.int (cg (fun k=>decide (0<=bp p.arrays k)) l 0 l)):=by
 rintro ⟨m,d⟩;refine ACalls.small fun G=>?_;have W:l.length<=68719476736:=by simp [ak,Prog.av] at G; omega
 have H:(ak l).length=l.length:=by simp [ak]
 have t:=fun k=>iL p k;simp only [Prog.av] at t;refine Fn45.calls .frz ?_;unfold Fn45.ac;simp [H,Prog.av];obtain ⟨a,h⟩:∃ a,a=upd m d (some (.row 2 [[row (p.arrays.map Array.cells),row (p.steps.map Step.cells)]] .live none)):=⟨_,rfl⟩;have f:Fr d m a (d+1):=by rw [h]; exact (Fr.refl _ _).upd (q5 _) (rv _)
 have y:a d=_:=(congrFun h d).trans ae;rw [<-h];obtain ⟨c,v⟩:∃ c:ByteArray->Bool,c=fun k=>decide (0<=bp p.arrays k):=⟨_,rfl⟩;rw [<-v];refine bM 9 Fn45.W0 l (fun (i:Nat) r Y=>cg c l 0 l=cg c l i r) (by rfl) (by rfl) ?_ ?_ ?_
 ·simp
 ·intro N z g C b;simp [g,b,cg];exact f.retH
 ·intro i x xs N z u M U g C b;have K:=q0 (x:=(i:Int)+1)
  have D:(ak l)[i]?=some [.str x]:=by simp [ak,u,M]
  have J:=qK l i (by omega)
  simp only [cg] at b;simp [g,u,D];refine ACalls.pure (iK x) fun O R=>?_;cases a:bO x
  ·simp [b,a];exact f.retH
  simp [y];refine ACalls.pure (t x) fun P S=>?_;have w:c x=decide (0<=bp p.arrays x):=by rw [v]
  by_cases o:bp p.arrays x<0
  ·have e:c x=false:=by rw [w]; exact decide_eq_false (by omega)
   simp [b,a,o,e];exact f.retH
  have e:c x=true:=by rw [w]; exact decide_eq_true (by omega)
  simp [o,J];refine ACalls.pure (dz (l.take i) x) fun Q T=>?_;cases q:inL x (l.take i)
  ·simp [b,a,e,q,g,K];omega
  ·simp [b,a,e,q];exact f.retH
theorem zN (p:Wb.Prog) (T:aw p.steps<=300) (l:List ByteArray):aG Pg 46 [p.av,row (ak l)] (.int (cg (fun k=>inL k (aX p.steps)) l 0 l)):=by
 rintro ⟨m,g⟩;refine ACalls.small fun z=>?_;have W:l.length<=68719476736:=by simp [ak,Prog.av] at z; omega
 have C:(ak l).length=l.length:=by simp [ak]
 have G:=qu _ p.steps (q7 _) (by omega)
 refine Fn46.calls .frz ?_;unfold Fn46.ac;simp [Prog.av];refine ACalls.pure G fun h P=>?_;obtain ⟨a,t⟩:∃ a,a=upd m g (some (.row 2 [[row (p.arrays.map Array.cells),row (p.steps.map Step.cells)]] .live none)):=⟨_,rfl⟩;have e:Fr g m a (g+1):=by rw [t]; exact (Fr.refl _ _).upd (q5 _) (rv _)
 rw [<-t];simp [C];obtain ⟨d,v⟩:∃ d:ByteArray->Bool,d=fun k=>inL k (aX p.steps):=⟨_,rfl⟩;rw [<-v];refine bM 13 Fn46.W0 l (fun (i:Nat) r Y=>cg d l 0 l=cg d l i r) (by rfl) (by rfl) ?_ ?_ ?_
 ·simp
 ·intro K h f w b;simp [f,b,cg];exact e.retH
 ·intro i x xs K h u J U f w b;have H:=q0 (x:=(i:Int)+1)
  have y:(ak l)[i]?=some [.str x]:=by simp [ak,u,J]
  have D:=qK l i (by omega)
  simp only [cg] at b;simp [f,u,y];refine ACalls.pure (iK x) fun M Q=>?_;cases a:bO x
  ·simp [b,a];exact e.retH
  simp;refine ACalls.pure (dz (aX p.steps) x) fun N R=>?_;have c:d x=inL x (aX p.steps):=by rw [v]
  cases o:inL x (aX p.steps)
  ·rw [o] at c;simp [b,a,c];exact e.retH
  rw [o] at c;simp [D];refine ACalls.pure (dz (l.take i) x) fun O S=>?_;cases q:inL x (l.take i)
  ·simp [b,a,c,q,f,H];omega
  ·simp [b,a,c,q];exact e.retH
theorem mC (A:List Wb.Array):∀ (k:Nat) (b a:List Inst),(dC A b a).length=(cS A k a).length
 | k,b,[]=>rfl
 | k,b,c::xs=>by
  have:=mC A (k+1) (b++[c]) xs;simp only [dC,cS,s3,so,kw,s5,x5,this]
theorem vp (A:List Wb.Array) {l:List Inst} {i:Nat} (a:i<l.length):∃ post,dC A [] l=dC A [] (l.take i)++(((l[i].reads A).map (aE A (l.take i))++[-1])++post):=by
 have b:l=l.take i++l[i]::l.drop (i+1):=by rw [<-List.drop_eq_getElem_cons a,xa]
 refine ⟨dC A (l.take i++[l[i]]) (l.drop (i+1)),?_⟩
 conv=>lhs; rw [b]
 rw [tS];simp only [u5,dC]
theorem lM (A:List Wb.Array) {l:List Inst} {i:Nat} (a:i<l.length):dM A l i=(l[i].reads A).map (aE A (l.take i)):=by
 unfold dM;rw [q3 a]
theorem uR (A:List Wb.Array) {l:List Inst} {i k:Nat} (a:i<l.length) (d:k<(l[i].reads A).length+1):(dC A [] l)[(cS A 0 (l.take i)).length+k]?=(dM A l i++[-1])[k]?:=by
 obtain ⟨e,b⟩:=vp A a;have c:=mC A 0 [] (l.take i);rw [b,r1 (by omega),c,EO,sk (by simp; omega),lM A a]
theorem tl (A:List Wb.Array) {l:List Inst} {i:Nat} (b:i<l.length):(dX A 0 l)[i]?=some (((cS A 0 (l.take i)).length:Nat):Int):=by
 have c:l=l.take i++l[i]::l.drop (i+1):=by rw [<-List.drop_eq_getElem_cons b,xa]
 have a:(l.take i).length=i:=by rw [tm]; omega
 conv=>lhs; rw [c]
 rw [kC A 0 0,s7,r1 (by rw [dJ,a]; omega),dJ,a,x3]; rfl
theorem oB (A:List Wb.Array) (l:List Inst) (s:Wb.Spot):∀ n,n<=l.length->∀ i:Nat,aE A (l.take n) s=(i:Int)->∃ x,l[i]?=some x/\x.sets A=s
 | 0,_,i,a=>by simp [aE,iw] at a
 | n+1,c,i,a=>by
  rw [kR A (show n<l.length by omega) s] at a
  split at a
  ·rename_i b;have:n=i:=by omega
   subst this;exact ⟨l[n],q3 (by omega),b⟩
  ·exact oB A l s n (by omega) i a
theorem uk (A:List Wb.Array) (l:List Inst) (s:Wb.Spot) (i:Nat) (h:aE A l s=(i:Int)):i<l.length/\∃ x,l[i]?=some x/\x.sets A=s:=by
 have:=oB A l s l.length (q5 _) i (by rw [r0]; exact h)
 obtain ⟨x,a,b⟩:=this;exact ⟨(q4.1 a).1,x,a,b⟩
theorem yD (A:List Wb.Array) (l:List Inst) (k:List ByteArray) (m:List (Wb.Spot×Int)) (o:∀ s,aE A l s=(bw m s).getD (-1)) (p:(m.map (·.1)).Nodup) (v:∀ c∈m,0<=c.2) (j:Nat) :
  (m.any fun c=>decide (c.2=j)&&inL c.1.array k)=eA A l k j:=by
 cases a:eA A l k j with
 | true=>
  unfold eA at a;cases e:l[j]? with
  | none=>rw [e] at a; cases a
  | some f=>
   rw [e] at a;simp only [q9,decide_eq_true_eq] at a;rw [v8];have b:=o (f.sets A);rw [a.2] at b;cases h:bw m (f.sets A) with
   | none=>rw [h] at b; simp at b
   | some u=>
    rw [h] at b;simp at b;exact ⟨(f.sets A,u),fO h,by simp [b,a.1]⟩
 | false=>
  rw [wy];intro c q g;simp only [q9,decide_eq_true_eq] at g;have b:=lD p q;have d:=o c.1;rw [b] at d;simp only [ym] at d;rw [g.1] at d;obtain ⟨_,f,e,t⟩:=uk A l c.1 j d;unfold eA at a;rw [e] at a;simp only at a;rw [t,g.2,d] at a;simp at a
theorem An (A:List Wb.Array) (l:List Inst) (m:List (Wb.Spot×Int)) (d:∀ s,aE A l s=(bw m s).getD (-1)) (e:(m.map (·.1)).Nodup) (a:Wb.Spot×Int) (f:a∈m):-1<=a.2/\a.2<l.length:=by
 have c:=lD e f;have b:=d a.1;rw [c] at b;have:=eh A l a.1 l.length (q5 _);rw [r0] at this;simp only [ym] at b;omega
theorem gU (o:List Bool) (i:Nat) (b:Bool):(bz o).set i [.bool b]=bz (o.set i b):=by unfold bz; rw [List.map_set]
theorem fL (o:List Bool):(bz o).length=o.length:=by simp [bz]
theorem dA {o:List Bool} {i:Nat} (a:i<o.length):(bz o)[i]?=some [.bool (o.getD i false)]:=by
 unfold bz;rw [rb,q3 a,r9,q3 a]; rfl
theorem kc (A:List Wb.Array):∀ l:List Inst,(l.length:Int)<=cP A l
 | []=>by simp [cP]
 | a::xs=>by
  have:=kc A xs;simp only [cP,s9,Ey,s5] at this ⊢
  push_cast; omega
def pj (b:List (Wb.Spot×Int)) (d:List ByteArray) (j c:Nat):Bool:=match b[c]? with
 | some a=>decide (a.2=j)&&inL a.1.array d
 | none=>false
theorem Ag (c:List (Wb.Spot×Int)) (f:List ByteArray) (j:Nat) (D:List Nat) (h:∀ i,i<c.length->i∈D):D.any (pj c f j)=c.any fun a=>decide (a.2=j)&&inL a.1.array f:=by
 cases g:c.any fun a=>decide (a.2=j)&&inL a.1.array f with
 | true=>
  obtain ⟨a,m,b⟩:=v8.1 g;obtain ⟨d,k,l⟩:=List.mem_iff_getElem.1 m;exact v8.2 ⟨d,h d k,by unfold pj; rw [q3 k,l]; exact b⟩
 | false=>
  refine wy.2 fun d _ b=>?_;unfold pj at b;cases e:c[d]? with
  | none=>rw [e] at b; cases b
  | some a=>
   rw [e] at b;exact wy.1 g a (r8 e) b
theorem qZ (o:List Bool) (i j:Nat) (a:j<o.length):(o.set i true).getD j false=(o.getD j false||decide (i=j)):=by rw [iQ o i j a,Bool.or_comm]
theorem xH (p:Wb.Prog) (gs:aw p.steps<=300) (f6:aV p=0) (h:List ByteArray) (al ao am ai Q Y:AV) (go:Nat) (a4:Heap) (bt:Nat) (z:RanAt a4 bt go p al ao am ai Q Y) :
  ACalls Pg 183 [.ptr go 0 0,row (ak h)] ⟨a4,bt⟩ fun av s'=>av=row (bz (cI p.arrays (aB p).2.l h))/\s'.h=a4:=by
 obtain ⟨gg,hf,hg,cl⟩:=fB f6;obtain ⟨b,bb⟩:∃ b,b=(aB p).2.l:=⟨_,rfl⟩;have dp:=fun t v z=>sg p al ao am ai Q Y go cl t v z;have dl:=fun i x C t v z=>si p (ej gg) al ao am ai Q Y go i x C cl t v z;rw [<-bb] at dp dl cl ⊢;have g1:b.length<=200000:=by have:=kc p.arrays b; omega
 refine Fn183.calls .frz ?_;unfold Fn183.ac;simp;refine (dp a4 bt z).mono ?_;rintro av ⟨l,c⟩ c3 ⟨bN,cx,N,d,ver,rfl,ha,el,hb,em,en,cc,eo,es,et⟩;simp only at c3 bN el em en cc;have P:RanAt l c go p al ao am ai Q Y:=z.re c3 fun a e=>bN.h a (z.lt e);have fs:=P.obj;have b8:=fun s=>P.plo.hwhich.len s;rw [<-bb] at b8;have f3:(an (b.map fun i=>(i.num:Int))).length=b.length:=by simp [an]
 simp only [f3] at b8;have fb:msI 1 [.bool false] 1 (.int (b.length:Int)) (.int (b.length:Int)) ⟨l,c⟩=some (.row c 1 0 b.length,⟨upd l c (some (.row 1 (bz (List.replicate b.length false)) .live none)),c+1⟩):=by
  have U:bz (List.replicate b.length false)=List.replicate b.length [.bool false]:=by simp [bz]
  have ab:(b.length:Int)<=68719476736:=by omega
  simp [msI,newRow,U];omega
 have gb:¬N=c:=by omega
 simp [fs,b8,fb,rgI,cc,gb];obtain ⟨aa,a'⟩:∃ aa,aa=upd (upd l c (some (.row 1 (bz (List.replicate b.length false)) .live none))) (c+1) (some (.iter N ver [])):=⟨_,rfl⟩;rw [<-a'];have ga:∀ a,a<c->aa a=l a:=fun a e=>by rw [a',qv,qv]
 have f8:aa (c+1)=some (.iter N ver []):=by rw [a',ae]
 have gc:aa c=some (.row 1 (bz (List.replicate b.length false)) .live none):=by rw [a',qv,ae]
 have c8:(kvs aM AV.int d).length=d.length:=by simp [kvs]
 obtain ⟨ez,a6⟩:∃ ap:Nat->Slots->St->Prop,ap=fun (n:Nat) ch s'=>∃ (f:List Nat) (o:List Bool),f.Nodup/\(∀ i∈f,i<d.length)/\n=d.length-f.length/\s'.h (c+1)=some (.iter N ver f)/\o.length=b.length/\s'.h c=some (.row 1 (bz o) .live none)/\(∀ j,j<b.length->o.getD j false=f.any (pj d h j))/\(∀ a,a<c->s'.h a=l a)/\c+1+1<=s'.c:=⟨_,rfl⟩;refine cJ Fn183.W0 (by rfl) ez d.length ?_ ?_
 ·rw [a6];exact ⟨[],_,by simp,by simp,by simp,f8,by simp,gc,fun j g=>by simp [r9,g],ga,q5 _⟩
 ·intro n hc s' m;rw [a6] at m;obtain ⟨f,o,d1,d2,g8,d3,bk,b9,b',bl,f7⟩:=m;obtain ⟨t,v⟩:=s';simp only at d3 b9 bl f7;have di:=(bl N em).trans cc;have gl:=eN d.length f d1 d2;simp;show nxW _ _ _;simp only [nxW,d3,di];refine ⟨trivial,fun c2=>?_,fun i ea O fn=>?_⟩
  ·rw [c8] at c2;have e0:o=(List.range b.length).map (eA p.arrays b h):=by
    refine zi (by simp [bk]) fun j l aa=>?_
    have g:j<b.length:=by omega
    have:=b' j g;rw [Ag d h j f c2,yD p.arrays b h d eo es (fun ea O=>et ea O) j] at this;simpa [r9,l] using this
   have ds:=vt p.arrays b h o e0;have f4:IntKind.i64.wrap ((b.length:Int)-1)=(b.length:Int)-1:=ah (by omega) (by omega)
   simp [f4];obtain ⟨a3,c1⟩:∃ a3,a3=cI p.arrays b h:=⟨_,rfl⟩;have gm:a3.length=b.length:=by rw [c1,fF]
   rw [<-c1] at ds ⊢;obtain ⟨ey,a5⟩:∃ ap:Nat->Slots->St->Prop,ap=fun (a:Nat) ch s'=>∃ o:List Bool,ch 10=.int ((a:Int)-1)/\a<=b.length/\o.length=b.length/\s'.h c=some (.row 1 (bz o) .live none)/\jb (dM p.arrays b) a o=a3/\(∀ j,j<c->s'.h j=l j)/\c+1<=s'.c:=⟨_,rfl⟩;refine cJ Fn183.W1 (by rfl) ey b.length ?_ ?_
   ·rw [a5]; exact ⟨o,by simp,q5 _,bk,b9,ds,bl,by show c+1<=v; omega⟩
   ·intro a hd s' m;rw [a5] at m;obtain ⟨o,G,gi,bo,R,M,S,cn⟩:=m;obtain ⟨J,cp⟩:=s';simp at G;simp only at R S cn;cases a with
    | zero=>
     simp only [jb] at M;subst M;have fd:aP (List.take b.length (bz o))=bz o:=by rw [q8 (by rw [fL]; omega),oG]
     have fm:b.length<=(bz o).length:=by rw [fL]; omega
     simp at G;simp [G,R,fd,fm];exact aA fun j g=>by rw [qv,S j (by omega)]; exact bN.h j g
    | succ a=>
     have e:a<b.length:=by omega
     have e5:((a+1:Nat):Int)-1=(a:Int):=by omega
     rw [e5] at G;have d0:=q0 (x:=(a:Int)-1)
     have a9:=dA (o:=o) (i:=a) (by omega)
     have g0:a<o.length:=by omega
     simp only [jb] at M;cases a7:o.getD a false with
     | false=>
      rw [a7] at a9;have b6:fq (dM p.arrays b) a o=o:=by unfold fq; rw [a7]; rfl
      rw [b6] at M;simp [G,R,a9,e,d0];refine ⟨a,by omega,?_⟩
      rw [a5];exact ⟨o,by simp,by omega,bo,R,M,S,cn⟩
     | true=>
      rw [a7] at a9;have b6:fq (dM p.arrays b) a o=(dM p.arrays b a).foldl cj o:=by unfold fq; rw [a7]; rfl
      rw [b6] at M;have bi:RanAt J cp go p al ao am ai Q Y:=P.re (by omega) fun j g=>S j (P.lt g)
      have fx:=dl a b[a] (q3 e) J cp bi;simp [G,R,a9,e];refine fx.mono ?_;rintro av ⟨w,eM⟩ e1 ⟨rfl,gk,off,rfl,gn,g4⟩;simp only at e1;obtain ⟨k,bj⟩:∃ k,k=dM p.arrays b a++[-1]:=⟨_,rfl⟩;have dv:(jx p.arrays b[a]).length=k.length:=by rw [mI,bj,lM p.arrays e]; simp
      have e9:k.foldl cj o=(dM p.arrays b a).foldl cj o:=by rw [bj,xn]; rfl
      have g6:k.length=(b[a].reads p.arrays).length+1:=by rw [<-dv,mI]
      rw [dv];simp;have e4:∀ i,i<k.length->(dC p.arrays [] b)[(cS p.arrays 0 (b.take a)).length+i]?=k[i]?:=fun i y=>by rw [uR p.arrays e (by omega),bj]
      have g5:=mC p.arrays 0 [] b;have gp:=jR p.arrays 0 b;obtain ⟨Z,W,cs⟩:=bi.hfrm.at (i:=a) (by rw [<-bb]; simp [an,dJ]; exact e)
      rw [<-bb] at W cs;have gv:=bi.obj;have gy:=bi.fb Z (by rw [W]; exact aq.2 rfl)
      have gx:=P.fb Z (by rw [W]; exact aq.2 rfl)
      have gW:=P.plo.goc;have gw:=z.fb Z (by rw [W]; exact aq.2 rfl)
      have gN:=z.plo.goc;have c5:(an (dX p.arrays 0 b))[a]?=some [.int ((cS p.arrays 0 (b.take a)).length:Nat)]:=by unfold an; rw [rb,tl p.arrays e]; rfl
      have eP:(an (dX p.arrays 0 b)).length=b.length:=by simp [an,dJ]
      rw [eP] at W;obtain ⟨ex,ax⟩:∃ ap:Nat->List Int->Slots->St->Prop,ap=fun (i:Nat) r ch s'=>s'.h c=some (.row 1 (bz ((k.take i).foldl cj o)) .live none)/\(∀ j,j<c->s'.h j=l j)/\c+1<=s'.c:=⟨_,rfl⟩;refine aZ 54 Fn183.W2 k ex (by rfl) (by rfl) ?_ ?_ ?_
      ·rw [ax]; exact ⟨by simp,by simpa using R,S,by show c+1<=eM; omega⟩
      ·intro gf s' a1 m;rw [ax,r0,e9] at m;obtain ⟨T,H,ar⟩:=m;simp [a1,G,d0];refine ⟨a,by omega,?_⟩
       rw [a5];exact ⟨_,by simp,by omega,by rw [fX]; exact bo,T,M,H,ar⟩
      ·intro i D g' gf s' y b5 c9 a1 m;rw [ax] at m;obtain ⟨T,H,ar⟩:=m;obtain ⟨ab,bx⟩:=s';simp only at T H ar;have a8:=e4 i y;rw [q3 y,b5] at a8;obtain ⟨a2,fz⟩:∃ o,o=(cS p.arrays 0 (b.take a)).length:=⟨_,rfl⟩;rw [<-fz] at a8 c5;obtain ⟨da,e2⟩:=q4.1 a8;have dW:=q0 (x:=(i:Int)+1)
       have b7:=q0 (x:=(a2:Int)+i)
       have d':ab go=some (.row 6 [[al,ao,am,ai,Q,Y]] .live none):=(H go (by omega)).trans P.obj
       rw [W] at d';have eW:ab Z=_:=(H Z (by omega)).trans ((S Z (by omega)).symm.trans cs)
       have ge:ab cx=_:=(H cx el).trans en;have c6:(an (dC p.arrays [] b))[a2+i]?=some [.int D]:=by unfold an; rw [rb,a8]; rfl
       have bW:(a2:Int)+(i:Int)=((a2+i:Nat):Int):=by push_cast; rfl
       have a0:(k.take (i+1)).foldl cj o=cj ((k.take i).foldl cj o) D:=by
        rw [r7,q3 y,b5,xn]; rfl
       obtain ⟨K,dk⟩:∃ K,K=(k.take i).foldl cj o:=⟨_,rfl⟩;have g3:K.length=b.length:=by rw [dk,fX]; exact bo
       rw [<-dk] at T a0;rw [bW] at b7;obtain ⟨bm,dn⟩:∃ bm,bm=a2+i:=⟨_,rfl⟩;have e3:∀ (t:bm<(dC p.arrays [] b).length),(dC p.arrays [] b)[bm]=D:=fun t=>by subst dn; exact e2
       rw [<-dn] at b7 c6 da bW;have g2:D<b.length:=by
        have de:D∈k:=r8 (by rw [q3 y,b5])
        rw [bj,rd] at de;rcases de with bc | bc
        ·rw [lM p.arrays e] at bc;obtain ⟨r,_,rfl⟩:=rf.1 bc;have:=(eh p.arrays b r a (by omega)).2
         omega
        ·rw [sa] at bc; omega
       simp [a1,y,G,d',e,eW,c5,bW,b7,da,ge,c6,e3];by_cases c0:0<=D
       ·obtain ⟨ag,rfl⟩:∃ ag:Nat,D=ag:=⟨D.toNat,by omega⟩
        have e':ag<K.length:=by omega
        have fa:ag<b.length:=by omega
        have b3:cj K (ag:Int)=K.set ag true:=by unfold cj; rw [if_pos (by omega)]; simp
        rw [b3] at a0;simp [a1,T,fa,dA e',dW];rw [ax];refine ⟨?_,fun j g=>?_,ar⟩
        ·rw [a0];show upd ab c _ c=_;rw [ae,gU]
        ·show upd ab c _ j=_;rw [qv]; exact H j g
       ·have b3:cj K D=K:=by unfold cj; rw [if_neg c0]
        rw [b3] at a0;simp [a1,c0,dW];rw [ax];exact ⟨by rw [a0]; exact T,H,ar⟩
  ·have y:i<d.length:=by
    have:=(q4.1 O).1;rw [c8] at this; exact this
   obtain ⟨q,val,e6⟩:∃ q val,d[i]=(q,val):=⟨_,_,rfl⟩;have bf:d[i]?=some (q,val):=by rw [q3 y,e6]
   have cq:(kvs aM AV.int d)[i]?=some (aM q,.int val):=by unfold kvs; rw [rb,bf]; rfl
   rw [cq] at O;injection O with O;subst O;have f0:=et (q,val) (r8 bf);have dN:=(An p.arrays b d eo es (q,val) (r8 bf)).2;simp only at f0 dN;obtain ⟨u,rfl⟩:∃ u:Nat,val=u:=⟨val.toNat,by omega⟩
   have b4:(f++[i]).Nodup:=by
    rw [va];exact ⟨d1,by simp,fun x C he f5 U=>fn (by rw [sa.1 f5] at U; exact U▸C)⟩
   have b2:∀ x∈f++[i],x<d.length:=fun x C=>by
    rcases rd.1 C with C | C
    ·exact d2 x C
    ·rw [sa.1 C]; exact y
   have c9:=eN d.length _ b4 b2;simp only [s3,z8] at c9;obtain ⟨J,b0⟩:∃ J,J=upd t (c+1) (some (.iter N ver (f++[i]))):=⟨_,rfl⟩;have d4:=(congrFun b0 (c+1)).trans ae;have ca:∀ a,a≠c+1->J a=t a:=fun a e=>by rw [b0,ad e]
   have f9:=(ca N (by omega)).trans di
   have f':=(ca c (by omega)).trans b9
   rw [<-b0];obtain ⟨w,b1⟩:∃ w,w=upd J v (some (.row 2 [[.str q.array,.int q.cell]] .live none)):=⟨_,rfl⟩;have cb:∀ a,a<v->w a=J a:=fun a e=>by rw [b1,qv]
   have g9:w v=_:=(congrFun b1 v).trans ae;have eg:=(cb c (by omega)).trans f'
   have ef:=(cb (c+1) (by omega)).trans d4
   have c4:∀ j,(f++[i]).any (pj d h j)=(f.any (pj d h j)||(decide (u=j)&&inL q.array h)):=fun j=>by
    rw [yy];simp only [Ew,List.any_nil,Bool.or_false];congr 1;have U:decide ((u:Int)=(j:Int))=decide (u=j):=by congr 1; exact propext ⟨fun t=>by omega,fun t=>by omega⟩
    unfold pj;rw [bf,<-U]
   have c':∀ a,a<c->w a=l a:=fun a e=>by rw [cb a (by omega),ca a (by omega)]; exact bl a e
   simp [ntI,d4,f9,cq,aM,Spot.cells];rw [<-b1];refine ACalls.pure (dz h q.array) fun bx gr=>?_;cases c7:inL q.array h with
   | false=>
    simp;refine ⟨d.length-(f.length+1),by omega,?_⟩
    rw [a6];exact ⟨f++[i],o,b4,b2,by simp,ef,bk,eg,fun j g=>by rw [b' j g,c4 j,c7]; simp,c',by show c+1+1<=bx; omega⟩
   | true=>
    have g7:(u:Int)<b.length:=dN;have f1:u<o.length:=by omega
    have f2:u<b.length:=by omega
    simp [eg,f2,dA f1];refine ⟨d.length-(f.length+1),by omega,?_⟩
    rw [a6];refine ⟨f++[i],o.set u true,b4,b2,by simp,?_,by simp [bk],?_,fun j g=>?_,fun a e=>?_,by show c+1+1<=bx; omega⟩
    ·show upd w c _ (c+1)=_;rw [qv]; exact ef
    ·show upd w c _ c=_;rw [ae,gU]
    ·rw [qZ o u j (by omega),b' j g,c4 j,c7]; simp
    ·show upd w c _ a=_;rw [qv]; exact c' a e
theorem UsesN.frL {h h':Heap} {c c':Nat} {A:List Wb.Array} {x:AV} {l:List Inst} (e:UsesN h c A x l) (d:∀ k,au x k->k<c) (b:∀ k,k<c->h' k=h k) (a:c<=c'):UsesN h' c' A x l:=e.fr d ⟨a,b⟩
theorem qM (A:List Wb.Array) (i:Inst) (a:Nat):(cA A i a)[18]?=some (row ((i.reads A).map Spot.cells))/\(cA A i a)[19]?=some (.str (i.sets A).array)/\(cA A i a)[20]?=some (.int (i.sets A).cell)/\(cA A i a)[0]?=some (.str (Step.name i.step))/\(cA A i a).length=22/\List.take 2 (List.drop 19 (cA A i a))=[.str (i.sets A).array,.int (i.sets A).cell]:=by
 obtain ⟨l,⟨kind,name,low,h,c,body,array,subs,⟨m,k,g,d,f,b⟩⟩,e,o⟩:=i;unfold cA;simp only [Step.cells_mk];exact ⟨rfl,rfl,rfl,rfl,rfl,rfl⟩
theorem sj (A:List Wb.Array) (l:List Inst) (c5:l.length<=1000000) (dl:∀ i∈l,(i.reads A).length<=4096) (x:AV) (f:List ByteArray) (m:Heap) (a:Nat) (bk:UsesN m a A x l) (ao:∀ k,au x k->k<a) :
  ACalls Pg 127 [x,row (ak f)] ⟨m,a⟩ fun av s'=>av=row (bz (cI A l f))/\s'.h=m:=by
 refine Fn127.calls .frz ?_;unfold Fn127.ac;have c7:=fun s=>bk.len s;have c':msI 1 [.bool false] 1 (.int (l.length:Int)) (.int (l.length:Int)) ⟨m,a⟩=some (.row a 1 0 l.length,⟨upd m a (some (.row 1 (bz (List.replicate l.length false)) .live none)),a+1⟩):=by
  have cn:bz (List.replicate l.length false)=List.replicate l.length [.bool false]:=by simp [bz]
  have c:(l.length:Int)<=68719476736:=by omega
  simp [msI,newRow,cn];omega
 have dv:IntKind.i64.wrap ((l.length:Int)-1)=(l.length:Int)-1:=ah (by omega) (by omega)
 simp [c7,c',dv];obtain ⟨a0,a'⟩:∃ a0,a0=upd m a (some (.row 1 (bz (List.replicate l.length false)) .live none)):=⟨_,rfl⟩;rw [<-a'];have dN:∀ k,k<a->a0 k=m k:=fun k h=>by rw [a',qv]
 have dW:a0 a=_:=(congrFun a' a).trans ae;obtain ⟨S,a8⟩:∃ S,S=cI A l f:=⟨_,rfl⟩;have d3:S.length=l.length:=by rw [a8,fF]
 have dp:jz (dM A l) (eA A l f) l.length (List.replicate l.length false)=S:=by rw [a8]; rfl
 rw [<-a8];obtain ⟨cc,aa⟩:∃ a2:Nat->Slots->St->Prop,a2=fun (k:Nat) b7 s'=>∃ o:List Bool,b7 6=.int ((k:Int)-1)/\k<=l.length/\o.length=l.length/\s'.h a=some (.row 1 (bz o) .live none)/\jz (dM A l) (eA A l f) k o=S/\(∀ j,j<a->s'.h j=m j)/\a+1<=s'.c:=⟨_,rfl⟩;refine cJ Fn127.W0 (by rfl) cc l.length ?_ ?_
 ·rw [aa]; exact ⟨_,by simp,q5 _,by simp,dW,dp,dN,q5 _⟩
 ·intro k es s' G;rw [aa] at G;obtain ⟨o,d,d2,a3,T,q,v,ch⟩:=G;obtain ⟨Y,bt⟩:=s';simp at d;simp only at T v ch;cases k with
  | zero=>
   simp only [jz] at q;subst q;have de:aP (List.take l.length (bz o))=bz o:=by rw [q8 (by rw [fL]; omega),oG]
   have di:l.length<=(bz o).length:=by rw [fL]; omega
   simp at d;simp [d,T,de,di];exact aA fun j e=>v j e
  | succ k=>
   have h:k<l.length:=by omega
   have c4:((k+1:Nat):Int)-1=(k:Int):=by omega
   rw [c4] at d;have bl:=q0 (x:=(k:Int)-1)
   have bc:k<o.length:=by omega
   simp only [jz] at q;have ds:UsesN Y bt A x l:=bk.frL ao v (by omega)
   have em:∀ j,au x j->j<bt:=fun j e=>by have:=ao j e; omega
   obtain ⟨a7,u,cp,b8,Q,R⟩:=ds.at h;have M:u<a:=ao u (by rw [b8]; exact aq.2 rfl)
   obtain ⟨bm,bo,b9,et,b',ca⟩:=qM A l[k] cp;have a9:eA A l f k=(inL (l[k].sets A).array f&&decide (aE A l (l[k].sets A)=k)):=by unfold eA; rw [q3 h]
   subst b8;have b1:=fun n da d0 W cl c3 cq=>sq A l c5 (.row u 22 0 l.length) n da d0 W cl (bk.frL ao c3 cq) (fun j e=>by have:=ao j e; omega)
   have ea:=dA bc;simp [d,h,Q,R,bo];refine ACalls.pure (dz f (l[k].sets A).array) fun ap d4=>?_;have cx:(inL (l[k].sets A).array f=true/\aE A l (l[k].sets A)=k)\/(inL (l[k].sets A).array f=true/\¬aE A l (l[k].sets A)=k)\/inL (l[k].sets A).array f=false:=by
    cases inL (l[k].sets A).array f
    ·exact .inr (.inr rfl)
    ·rcases Classical.em (aE A l (l[k].sets A)=k) with W | W
     ·exact .inl ⟨rfl,W⟩
     ·exact .inr (.inl ⟨rfl,W⟩)
   have bf:=b1 l.length (q5 _) (l[k].sets A) Y ap v (by omega)
   simp only [Spot.cells,r0] at bf;rcases cx with ⟨H,ai⟩ | ⟨H,ai⟩ | H
   simp [H,d,h,Q,R,bo,b9,b',ca];refine ACalls.at bf fun z a1=>?_;have ab:eA A l f k=true:=by rw [a9,H,ai]; simp
   obtain ⟨c,g⟩:∃ c,c=upd Y a (some (.row 1 (bz (o.set k true)) .live none)):=⟨_,rfl⟩;have t:c a=_:=(congrFun g a).trans ae;have C:∀ j,j<a->c j=m j:=fun j e=>by rw [g,qv]; exact v j e
   have c1:=dA (o:=o) bc;simp [ai,d,T,h,c1,gU];rw [<-g];obtain ⟨b,p⟩:∃ b,b=o.set k true:=⟨_,rfl⟩;rw [<-p] at t;have K:b.length=l.length:=by rw [p]; simp [a3]
   rw [ab,if_pos rfl,<-p] at q;have ag:c u=some (.row 22 a7 .live none):=by rw [C u M,<-v u M]; exact Q
   have w:b.getD k false=true:=by rw [p,qZ o k k bc]; simp
   have c2:(bz (o.set k true))[k]?=some [.bool true]:=by rw [<-p,dA (by omega),w]
   simp [d,c2,h,ag,R,bm];clear g
   rotate_left
   simp [H,d,h,Q,R,bo,b9,b',ca];refine ACalls.at bf fun z a1=>?_;have ab:eA A l f k=false:=by rw [a9,H,decide_eq_false ai]; rfl
   simp [ai,d];obtain ⟨c,g⟩:∃ c,c=Y:=⟨_,rfl⟩;obtain ⟨b,p⟩:∃ b,b=o:=⟨_,rfl⟩;rw [<-g];have t:c a=_:=(congrFun g a).trans T;have C:∀ j,j<a->c j=m j:=fun j e=>by rw [g]; exact v j e
   rw [<-p] at t;have K:b.length=l.length:=by rw [p]; exact a3
   rw [ab,if_neg (by decide),<-p] at q
   have ag:c u=some (.row 22 a7 .live none):=by rw [C u M,<-v u M]; exact Q
   clear g;have y:=dA (o:=b) (i:=k) (by omega)
   cases w:b.getD k false
   ·rw [w] at y;have al:fq (dM A l) k b=b:=by unfold fq; rw [w]; rfl
    rw [al] at q;simp [d,t,y,h,bl];refine ⟨k,by omega,?_⟩
    rw [aa];exact ⟨b,by simp,by omega,K,t,q,C,by show a+1<=z; omega⟩
   rw [w] at y;simp [d,t,y,h,ag,R,bm]
   rotate_left
   obtain ⟨z,a1⟩:∃ z,ap<=z/\z=ap:=⟨ap,q5 _,rfl⟩;obtain ⟨a1,cs⟩:=a1;have ab:eA A l f k=false:=by rw [a9,H]; rfl
   simp [H];rw [<-cs];obtain ⟨c,g⟩:∃ c,c=Y:=⟨_,rfl⟩;obtain ⟨b,p⟩:∃ b,b=o:=⟨_,rfl⟩;rw [<-g];have t:c a=_:=(congrFun g a).trans T;have C:∀ j,j<a->c j=m j:=fun j e=>by rw [g]; exact v j e
   rw [<-p] at t;have K:b.length=l.length:=by rw [p]; exact a3
   rw [ab,if_neg (by decide),<-p] at q
   have ag:c u=some (.row 22 a7 .live none):=by rw [C u M,<-v u M]; exact Q
   clear g;have y:=dA (o:=b) (i:=k) (by omega)
   cases w:b.getD k false
   ·rw [w] at y;have al:fq (dM A l) k b=b:=by unfold fq; rw [w]; rfl
    rw [al] at q;simp [d,t,y,h,bl];refine ⟨k,by omega,?_⟩
    rw [aa];exact ⟨b,by simp,by omega,K,t,q,C,by show a+1<=z; omega⟩
   rw [w] at y;simp [d,t,y,h,ag,R,bm]
   all_goals
    have al:fq (dM A l) k b=(dM A l k).foldl cj b:=by unfold fq; rw [w]; rfl
    rw [al] at q;have b4:=lM A h;have el:=dl l[k] (u3 h);obtain ⟨cb,Z⟩:∃ a2:Nat->List Wb.Spot->Slots->St->Prop,a2=fun (i:Nat) r b7 s'=>s'.h a=some (.row 1 (bz (((dM A l k).take i).foldl cj b)) .live none)/\(∀ j,j<a->s'.h j=m j)/\a+1<=s'.c:=⟨_,rfl⟩;refine aZ 55 Fn127.W1 (l[k].reads A) cb (by rfl) (by rfl) ?_ ?_ ?_
    ·rw [Z]; exact ⟨by simp,by simpa using t,C,by show a+1<=z; omega⟩
    ·intro d1 s' am G;have c0:(dM A l k).take (l[k].reads A).length=dM A l k:=q8 (by rw [b4]; simp)
     rw [Z,c0] at G;obtain ⟨ar,ax,a6⟩:=G;simp [am,d,bl];refine ⟨k,by omega,?_⟩
     rw [aa];exact ⟨_,by simp,by omega,by rw [fX]; exact K,ar,q,ax,a6⟩
    ·intro i r eo d1 s' b0 b3 ef am G;rw [Z] at G;obtain ⟨ar,ax,a6⟩:=G;obtain ⟨bW,U⟩:=s';simp only at ar ax a6;have b5:=q0 (x:=(i:Int)+1)
     obtain ⟨D,bb⟩:∃ D,D=upd bW U (some (.row 2 [[.str r.array,.int r.cell]] .live none)):=⟨_,rfl⟩;have b6:∀ j,j<U->D j=bW j:=fun j e=>by rw [bb,qv]
     have en:D U=_:=(congrFun bb U).trans ae;have a4:=(b6 a (by omega)).trans ar
     have a5:∀ j,j<a->D j=m j:=fun j e=>(b6 j (by omega)).trans (ax j e)
     have bi:=b1 k (by omega) r D (U+1) a5 (by omega)
     simp only [Spot.cells] at bi;have dn:(dM A l k).take (i+1)=(dM A l k).take i++[aE A (l.take k) r]:=by
      rw [r7,b4,rb,q3 b0,b3]; rfl
     have N:((dM A l k).take (i+1)).foldl cj b=cj (((dM A l k).take i).foldl cj b) (aE A (l.take k) r):=by rw [dn,xn]; rfl
     obtain ⟨J,b2⟩:∃ J,J=((dM A l k).take i).foldl cj b:=⟨_,rfl⟩;have eg:J.length=l.length:=by rw [b2,fX]; exact K
     rw [<-b2] at a4 N;have c6:=eh A l r k (by omega)
     obtain ⟨P,dk⟩:∃ P,P=aE A (l.take k) r:=⟨_,rfl⟩;rw [<-dk] at bi N c6;simp [am,b0,b3,Spot.cells];rw [<-bb];simp [d];refine ACalls.at bi fun bx d'=>?_;by_cases bN:0<=P
     ·obtain ⟨O,rfl⟩:∃ O:Nat,P=O:=⟨P.toNat,by omega⟩
      have c8:O<J.length:=by omega
      have c9:O<l.length:=by omega
      have bj:cj J (O:Int)=J.set O true:=by unfold cj; rw [if_pos (by omega)]; simp
      rw [bj] at N;simp [am,a4,c9,dA c8,b5];rw [Z];refine ⟨?_,fun j e=>?_,by show a+1<=bx; omega⟩
      ·rw [N];show upd D a _ a=_;rw [ae,gU]
      ·show upd D a _ j=_;rw [qv]; exact a5 j e
     ·have bj:cj J P=J:=by unfold cj; rw [if_neg bN]
      rw [bj] at N;simp [am,bN,b5];rw [Z];exact ⟨by rw [N]; exact a4,a5,by show a+1<=bx; omega⟩
theorem zO (A:List Wb.Array) (l:List Inst) (Y:l.length<=1000000) (ag:∀ i∈l,(i.reads A).length<=4096) (x:AV) (ab:norm x=x) (z:List ByteArray) (g:Heap) (c:Nat) (al:UsesN g c A x l) (O:∀ k,au x k->k<c) :
  ACalls Pg 48 [x,row (ak z)] ⟨g,c⟩ fun av s'=>av=row (an (bJ 0 (cI A l z)))/\s'.h=g:=by
 refine Fn48.calls .frz ?_;unfold Fn48.ac;obtain ⟨a,H⟩:∃ a,a=cI A l z:=⟨_,rfl⟩;have ar:a.length=l.length:=by rw [H,fF]
 obtain ⟨m,G⟩:∃ m,m=upd g c (some (.row 1 [] .live none)):=⟨_,rfl⟩;have Q:∀ k,k<c->m k=g k:=fun k v=>by rw [G,qv]
 have am:m c=_:=(congrFun G c).trans ae;have M:=sj A l Y ag x z m (c+1) (al.frL O Q (rv _)) (fun j W=>by have:=O j W; omega)
 rw [<-H] at M ⊢;simp [ab];rw [<-G];refine ACalls.at M fun R ax=>?_;simp [fL];obtain ⟨C,p⟩:∃ C:Nat->List Bool->Slots->St->Prop,C=fun (i:Nat) r ao s'=>∃ go,ao 5=.row go 1 0 (bJ 0 (a.take i)).length/\c<=go/\go<s'.c/\s'.h go=some (.row 1 (an (bJ 0 (a.take i))) .live none)/\∀ k,k<c->s'.h k=g k:=⟨_,rfl⟩;refine aZ 12 Fn48.W0 a C (by rfl) (by rfl) ?_ ?_ ?_
 ·rw [p]; exact ⟨by simp,c,by simp [bJ],q5 _,by show c<R; omega,by simpa [bJ,an] using am,Q⟩
 ·intro ap s' w o;rw [p,r0] at o;obtain ⟨go,d,P,y,e,h⟩:=o;obtain ⟨t,f⟩:=s';simp at d;simp only at y e h;have U:(an (bJ 0 a)).length=(bJ 0 a).length:=by simp [an]
  have ai:List.take (bJ 0 a).length (an (bJ 0 a))=an (bJ 0 a):=q8 (by omega)
  simp [w,d,e,ai,U];exact aA fun k v=>by rw [qv]; exact h k v
 ·intro i b bs ap s' u J a0 w o;rw [p] at o;obtain ⟨go,d,P,y,e,h⟩:=o;obtain ⟨t,f⟩:=s';simp at d;simp only at y e h;have N:=q0 (x:=(i:Int)+1)
  have K:(bz a)[i]?=some [.bool b]:=by simp [bz,u,J]
  have aa:(a.take i).length=i:=by rw [tm]; omega
  have q:bJ 0 (a.take (i+1))=bJ 0 (a.take i)++(if b then [] else [(i:Int)]):=by
   rw [r7,q3 u,J,x4,nq,aa]; simp [bJ]
  have Z:=nv 0 (a.take i);obtain ⟨D,S⟩:∃ D,D=bJ 0 (a.take i):=⟨_,rfl⟩;rw [<-S] at d e q Z;cases b
  ·have T:=bE (sz:=1) (bytes:=8) (md:=.plain) (len:=D.length) (x:=[.int (i:Int)]) (b:=true) (s:=⟨t,f⟩) (by simp) e (by simp [an]) (by decide) (by decide) (by decide) rfl (by omega)
   simp [w,u,K,d,bsI,az,T,N];rw [p];refine ⟨f,by rw [q]; simp,by omega,q7 _,?_,fun k v=>?_⟩
   ·show upd (upd t go none) f _ f=_;rw [ae,q]; simp [an]
   ·show upd (upd t go none) f _ k=_;rw [qv,qv]; exact h k v
  ·simp [w,u,K,N];rw [p];exact ⟨go,by rw [q]; simp [d],P,y,by rw [q]; simpa using e,h⟩
end Go.Proofs.YtjhogglgkjcacaaGreat
