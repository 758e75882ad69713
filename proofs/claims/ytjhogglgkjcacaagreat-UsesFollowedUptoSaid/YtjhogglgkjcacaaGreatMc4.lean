/- Part of the claim: see its last text. -/
import Derived.Test.YtjhogglgkjcacaaGreatMc3
import Derived.Test.YtjhogglgkjcacaaGreatMc0
set_option linter.all false
set_option maxRecDepth 20000
set_option maxHeartbeats 8000000
namespace Go.Proofs.YtjhogglgkjcacaaGreat
open Go.AM Go.Wb
theorem lI {P:Program} {a:AC} {Q:Ex->Slots->St->Prop} {sl:Slots} {s:St} (W:List Nat) (f:iH a.wr W=true) (d:Slots->St->Prop) (h:acW P a (fun e b s'=>e=.normal/\d b s') sl s)
  (k:∀ v s',d (ov W sl v) s'->Q .normal (ov W sl v) s'):acW P a Q sl s:=by
 refine bT _ (ip _ h) fun e b s' c=>?_;obtain ⟨⟨rfl,c⟩,g⟩:=c;have e:ov W sl b=b:=rU fun m l=>g m (kN f l);have:=k b s' (by rw [e]; exact c)
 rwa [e] at this
theorem tZ:aG Pg 44 [] (.bool true):=vP vq 60 (by kernel_rfl)
theorem wP (a b:Int):aG Pg 12 [row (an [a,b])] (.int (if a=0 then b else a)):=by
 rintro ⟨v,u⟩;refine Fn12.calls .frz ?_;unfold Fn12.ac;simp;refine bM 7 Fn12.W0 [a,b] (fun (i:Nat) r y=>(if a=0 then b else a)=(r.find? (fun x=>decide (x≠0))).getD 0) (by rfl) (by rfl) ?_ ?_ ?_
 ·refine ⟨by simp,?_⟩
  by_cases f:a=0
  ·by_cases o:b=0 <;> simp [f,o,List.find?]
  ·simp [f,List.find?]
 ·intro t m d g c;simp at c;simp [d,c]
 ·intro i x xs t m p l w d g c;have h:i<2:=by simpa using p
  have k:(i:Int)<2:=by omega
  have q:=q0 (x:=(i:Int)+1)
  by_cases e:x=0
  ·simp [d,h,k,l,e,q];exact ⟨g,by simpa [List.find?,e] using c⟩
  ·simp [d,h,k,l,e];simpa [List.find?,e] using c.symm
theorem qJ {p:Wb.Prog} {a:Wb.Spot} (h:cw p.arrays a=0) (g:Right p):0<=a.cell/\a.cell<=20000:=by
 unfold cw at h;split at h
 ·cases h
 split at h
 ·cases h
 split at h
 ·rename_i b d;have e:=r8 d;have:=(g.arrays b e).cells;split at h
  ·omega
  ·cases h
 ·rename_i c q f;obtain ⟨o,k,_,l,m,_⟩:=lW c;rw [List.getElem?_eq_none_iff] at f;omega
theorem vy (L:List Int) (t:L.length<=1048576) (h:Heap) (e:Nat) :
  ACalls Pg 5 [row (an L)] ⟨h,e⟩ fun av s'=>av=.bool true/\s'.h=h:=by
 refine Fn5.calls .frz ?_;unfold Fn5.ac;simp [aH];obtain ⟨bk,e1⟩:∃ bk,bk=upd h e (some (.row 2 [[row (an L),.int 0]] .live none)):=⟨_,rfl⟩;have hl:SM bk e L 0:=by rw [e1]; exact ae
 have hm:∀ a,a<e->bk a=h a:=fun a b=>by rw [e1,qv]
 rw [<-e1];refine (vz L t 0 e bk (e+1) hl (by omega) (by omega) (by omega)).mono ?_
 rintro av ⟨i0,d⟩ jj ⟨⟨fn,rfl,j5⟩,ge,nF,nN,e5,e'⟩;simp only at jj e5 e';obtain ⟨bl,cq⟩:∃ bl,bl=upd i0 d (some (.row 2 [[row (fn.arrays.map Array.cells),row (fn.steps.map Step.cells)]] .live none)):=⟨_,rfl⟩;have gk:=(congrFun cq d).trans ae;have hE:SM bl e L ge:=by unfold SM; rw [cq,qv]; exact e5
 have hv:∀ a,a<e->bl a=h a:=fun a b=>by rw [cq,qv,e' a (by omega) (by omega),hm a b]
 simp [Prog.av];rw [<-cq];refine ACalls.draw (ek L ge 2 e bl (d+1) (by omega) hE (by omega) (by omega) t (by omega)) fun C g1 gr gf g n6 lg lm fz f0=>?_
 obtain ⟨h1,rfl⟩:=g;have d2:=(f0 d (by omega)).trans gk
 have fa:∀ a,a<e->g1 a=h a:=fun a b=>(f0 a (by omega)).trans (hv a b)
 simp [-jQ];obtain ⟨b8,cc⟩:∃ b8:Slots->St->Prop,b8=fun _ s'=>∃ (c:Wb.Prog) (a9:Int),aw c.steps<=32/\s'.h d=some (.row 2 [[row (c.arrays.map Array.cells),row (c.steps.map Step.cells)]] .live none)/\SM s'.h e L a9/\0<=a9/\a9<=40000/\d<s'.c/\∀ a,a<e->s'.h a=h a:=⟨_,rfl⟩;refine lI [35,36] (by rfl) b8 ?_ ?_
 ·cases h1
  ·simp;rw [cc];exact ⟨fn,gf,j5.steps,d2,fz,by omega,by omega,by show d<gr; omega,fa⟩
  ·simp;refine (zG L t gf e g1 gr fz (by omega) (by omega) (by omega)).mono ?_
   rintro av ⟨g2,h6⟩ j1 ⟨⟨c,rfl,j4⟩,a9,p6,p8,hS,ga⟩;simp only at j1 hS ga;have h4:=(ga d (by omega) (by omega)).trans d2
   simp [Prog.av,h4];rw [cc];refine ⟨c,a9,j4,ae,?_,by omega,by omega,by show d<h6; omega,fun a b=>?_⟩
   ·show upd g2 d _ e=_;rw [qv]; exact hS
   ·show upd g2 d _ a=_;rw [qv,ga a (by omega) (by omega)]; exact fa a b
 ·intro p2 lb bm;rw [cc] at bm;obtain ⟨c,ds,n7,b9,fs,n',ob,k0,fb⟩:=bm;obtain ⟨ef,D⟩:=lb;simp only at b9 fs k0 fb;clear fa d2 f0 fz lm lg hv hE gk e5 e' hl hm cc b8;have c1:=fun dk q w mm mS m2 m3=>zH c (by omega) L t dk e q w mm mS m2 m3
  simp only [Prog.av] at c1;simp;obtain ⟨di,a6⟩:∃ di:Slots->St->Prop,di=fun H s'=>∃ (f p:List ByteArray) (z:Wb.Spot) (M:Nat),H 5=row (ak f)/\H 6=row (ak p)/\H 7=.ptr M 0 0/\s'.h M=some (.row 2 [[.str z.array,.int z.cell]] .live none)/\d<M/\M<s'.c/\s'.h d=some (.row 2 [[row (c.arrays.map Array.cells),row (c.steps.map Step.cells)]] .live none)/\∀ a,a<e->s'.h a=h a:=⟨_,rfl⟩;refine roamW_cut [7,37,39,40,42,43,45,46,38,41,44,47,48,5,6] (by rfl) di ?_ ?_
  ·have nc:¬d=D:=by omega
   simp [roamW_t,roamW_f,roamW_n,b9,bsI,az,aH,nc];refine ⟨?_,?_⟩
   ·obtain ⟨Z,bN⟩:∃ Z,Z=upd ef D (some (.row 2 [[.str ⟨#[]⟩,.int 0]] .live none)):=⟨_,rfl⟩;have m4:=(congrFun bN D).trans ae;have ao:=(show Z d=ef d by rw [bN,qv]).trans b9
    have fx:SM Z e L ds:=by unfold SM; rw [bN,qv]; exact fs
    have c3:∀ a,a<e->Z a=h a:=fun a b=>by rw [bN,qv]; exact fb a b
    rw [<-bN];refine ACalls.draw (R:=fun k=>∃ m:List ByteArray,k=row (ak m)) (uy L t ds e Z (D+1) fx (by omega) (by omega) (by omega)) fun C g3 gs hZ g j2 u8 l0 hF gb=>?_
    obtain ⟨f,rfl⟩:=g;have gl:=(gb d (by omega)).trans ao
    have kv:∀ a,a<e->g3 a=h a:=fun a b=>(gb a (by omega)).trans (c3 a b)
    have hL:=(gb D (by omega)).trans m4
    simp [gl,hL,bsI,az,aH];refine ACalls.draw (R:=fun k=>∃ m:List ByteArray,k=row (ak m)) (c1 hZ g3 gs hF (by omega) (by omega) (by omega)) fun C g4 R h0 g j3 o9 l1 ld gc=>?_
    obtain ⟨p,rfl⟩:=g;have gm:=(gc d (by omega)).trans gl
    have kx:∀ a,a<e->g4 a=h a:=fun a b=>(gc a (by omega)).trans (kv a b)
    have hM:=(gc D (by omega)).trans hL
    simp [gm,hM,bsI,az,aH];refine ACalls.draw (R:=fun k=>∃ a,k=.str a/\a∈([⟨#[97]⟩,⟨#[97]⟩,⟨#[98]⟩,⟨#[122,122]⟩,⟨#[]⟩]:List ByteArray)) (eT [⟨#[97]⟩,⟨#[97]⟩,⟨#[98]⟩,⟨#[122,122]⟩,⟨#[]⟩] L h0 e g4 R (by simp) (by simp) ld (by omega) (by omega) t (by omega)) fun C ab h5 hV g nW oy lv k4 f3=>?_
    obtain ⟨nm,rfl,_⟩:=g;have a':=(f3 d (by omega)).trans gm
    have kd:∀ a,a<e->ab a=h a:=fun a b=>(f3 a (by omega)).trans (kx a b)
    have c9:=(f3 D (by omega)).trans hM
    simp [a',c9,bsI,az,aH];refine ACalls.draw (R:=fun k=>∃ a,k=.int a/\a∈([0,1,3,5,11,-1,200]:List Int)) (cC [0,1,3,5,11,-1,200] L hV e ab h5 (by simp) (by simp) k4 (by omega) (by omega) t (by omega)) fun C it P m' g i7 oN lw od f4=>?_
    obtain ⟨v,rfl,_⟩:=g;have dv:=(f4 d (by omega)).trans a'
    have hn:∀ a,a<e->it a=h a:=fun a b=>(f4 a (by omega)).trans (kd a b)
    have ms:=(f4 D (by omega)).trans c9
    simp [dv,ms,bsI,az,aH];rw [a6];refine ⟨f,p,⟨nm,v⟩,D,by simp,by simp,by simp,ae,by omega,by show D<P; omega,?_,fun a b=>?_⟩
    ·show upd _ D _ d=_
     first | (rw [qv]; exact dv) | (rw [qv,qv]; exact dv)
    ·show upd _ D _ a=_
     first | (rw [qv]; exact hn a b) | (rw [qv,qv]; exact hn a b)
   ·refine ACalls.draw (R:=fun k=>∃ m:List ByteArray,k=row (ak m)) (uy L t ds e ef D fs (by omega) (by omega) (by omega)) fun C S J dl g n0 oW lx hB hO=>?_
    obtain ⟨f,rfl⟩:=g;have aa:=(hO d (by omega)).trans b9
    have ho:∀ a,a<e->S a=h a:=fun a b=>(hO a (by omega)).trans (fb a b)
    have nc:¬d=J:=by omega
    simp [roamW_t,roamW_f,roamW_n,aa,bsI,az,aH,nc];refine ⟨?_,?_⟩
    ·obtain ⟨ap,bt⟩:∃ ap,ap=upd S J (some (.row 2 [[.str ⟨#[]⟩,.int 0]] .live none)):=⟨_,rfl⟩;have mu:=(congrFun bt J).trans ae;have h2:=(show ap d=S d by rw [bt,qv]).trans aa
     have k5:SM ap e L dl:=by unfold SM; rw [bt,qv]; exact hB
     have ki:∀ a,a<e->ap a=h a:=fun a b=>by rw [bt,qv]; exact ho a b
     rw [<-bt];refine ACalls.draw (R:=fun k=>∃ m:List ByteArray,k=row (ak m)) (c1 dl ap (J+1) k5 (by omega) (by omega) (by omega)) fun C gN d3 hW g i9 o0 o' k6 f5=>?_
     obtain ⟨p,rfl⟩:=g;have gg:=(f5 d (by omega)).trans h2
     have kk:∀ a,a<e->gN a=h a:=fun a b=>(f5 a (by omega)).trans (ki a b)
     have hI:=(f5 J (by omega)).trans mu
     simp [gg,hI,bsI,az,aH];refine ACalls.draw (R:=fun k=>∃ a,k=.str a/\a∈([⟨#[97]⟩,⟨#[97]⟩,⟨#[98]⟩,⟨#[122,122]⟩,⟨#[]⟩]:List ByteArray)) (eT [⟨#[97]⟩,⟨#[97]⟩,⟨#[98]⟩,⟨#[122,122]⟩,⟨#[]⟩] L hW e gN d3 (by simp) (by simp) k6 (by omega) (by omega) t (by omega)) fun C T Q hX g hf o1 pa k7 f6=>?_
     obtain ⟨nm,rfl,_⟩:=g;have bb:=(f6 d (by omega)).trans gg
     have c2:∀ a,a<e->T a=h a:=fun a b=>(f6 a (by omega)).trans (kk a b)
     have c':=(f6 J (by omega)).trans hI
     simp [bb,c',bsI,az,aH];refine ACalls.draw (R:=fun k=>∃ a,k=.int a/\a∈([0,1,3,5,11,-1,200]:List Int)) (cC [0,1,3,5,11,-1,200] L hX e T Q (by simp) (by simp) k7 (by omega) (by omega) t (by omega)) fun C ix d4 nb g hg o2 pd of f7=>?_
     obtain ⟨v,rfl,_⟩:=g;have dN:=(f7 d (by omega)).trans bb
     have hp:∀ a,a<e->ix a=h a:=fun a b=>(f7 a (by omega)).trans (c2 a b)
     have mF:=(f7 J (by omega)).trans c'
     simp [dN,mF,bsI,az,aH];rw [a6];refine ⟨f,p,⟨nm,v⟩,J,by simp,by simp,by simp,ae,by omega,by show J<d4; omega,?_,fun a b=>?_⟩
     ·show upd _ J _ d=_
      first | (rw [qv]; exact dN) | (rw [qv,qv]; exact dN)
     ·show upd _ J _ a=_
      first | (rw [qv]; exact hp a b) | (rw [qv,qv]; exact hp a b)
    ·refine ACalls.draw (R:=fun k=>∃ m:List ByteArray,k=row (ak m)) (c1 dl S J hB (by omega) (by omega) (by omega)) fun C ca l dn g i' o3 pe hC hP=>?_
     obtain ⟨p,rfl⟩:=g;have dW:=(hP d (by omega)).trans aa
     have hq:∀ a,a<e->ca a=h a:=fun a b=>(hP a (by omega)).trans (ho a b)
     have nc:¬d=l:=by omega
     simp [roamW_t,roamW_f,roamW_n,dW,bsI,az,aH,nc];refine ⟨?_,?_⟩
     ·obtain ⟨G,N⟩:∃ G,G=upd ca l (some (.row 2 [[.str ⟨#[]⟩,.int 0]] .live none)):=⟨_,rfl⟩;have f1:=(congrFun N l).trans ae;have bc:=(show G d=ca d by rw [N,qv]).trans dW
      have k8:SM G e L dn:=by unfold SM; rw [N,qv]; exact hC
      have kn:∀ a,a<e->G a=h a:=fun a b=>by rw [N,qv]; exact hq a b
      rw [<-N];refine ACalls.draw (R:=fun k=>∃ a,k=.str a/\a∈([⟨#[97]⟩,⟨#[97]⟩,⟨#[98]⟩,⟨#[122,122]⟩,⟨#[]⟩]:List ByteArray)) (eT [⟨#[97]⟩,⟨#[97]⟩,⟨#[98]⟩,⟨#[122,122]⟩,⟨#[]⟩] L dn e G (l+1) (by simp) (by simp) k8 (by omega) (by omega) t (by omega)) fun C cb d' hY g cn o4 ph k9 f8=>?_
      obtain ⟨nm,rfl,_⟩:=g;have gi:=(f8 d (by omega)).trans bc
      have ks:∀ a,a<e->cb a=h a:=fun a b=>(f8 a (by omega)).trans (kn a b)
      have hJ:=(f8 l (by omega)).trans f1
      simp [gi,hJ,bsI,az,aH];refine ACalls.draw (R:=fun k=>∃ a,k=.int a/\a∈([0,1,3,5,11,-1,200]:List Int)) (cC [0,1,3,5,11,-1,200] L hY e cb d' (by simp) (by simp) k9 (by omega) (by omega) t (by omega)) fun C a3 b' nd g cp o5 pn oi f9=>?_
      obtain ⟨v,rfl,_⟩:=g;have am:=(f9 d (by omega)).trans gi
      have hr:∀ a,a<e->a3 a=h a:=fun a b=>(f9 a (by omega)).trans (ks a b)
      have f2:=(f9 l (by omega)).trans hJ
      simp [am,f2,bsI,az,aH];rw [a6];refine ⟨f,p,⟨nm,v⟩,l,by simp,by simp,by simp,ae,by omega,by show l<b'; omega,?_,fun a b=>?_⟩
      ·show upd _ l _ d=_
       first | (rw [qv]; exact am) | (rw [qv,qv]; exact am)
      ·show upd _ l _ a=_
       first | (rw [qv]; exact hr a b) | (rw [qv,qv]; exact hr a b)
     ·refine ACalls.draw (R:=fun k=>∃ a,k=.str a/\a∈([⟨#[97]⟩,⟨#[97]⟩,⟨#[98]⟩,⟨#[122,122]⟩,⟨#[]⟩]:List ByteArray)) (eT [⟨#[97]⟩,⟨#[97]⟩,⟨#[98]⟩,⟨#[122,122]⟩,⟨#[]⟩] L dn e ca l (by simp) (by simp) hC (by omega) (by omega) t (by omega)) fun C ag x dp g eW o6 ps hD hQ=>?_
      obtain ⟨nm,rfl,_⟩:=g;have bf:=(hQ d (by omega)).trans dW
      have hs:∀ a,a<e->ag a=h a:=fun a b=>(hQ a (by omega)).trans (hq a b)
      have nc:¬d=x:=by omega
      simp [roamW_t,roamW_f,roamW_n,bf,bsI,az,aH,nc];refine ⟨?_,?_⟩
      ·obtain ⟨a4,bx⟩:∃ a4,a4=upd ag x (some (.row 2 [[.str ⟨#[]⟩,.int 0]] .live none)):=⟨_,rfl⟩;have m0:=(congrFun bx x).trans ae;have h3:=(show a4 d=ag d by rw [bx,qv]).trans bf
       have k':SM a4 e L dp:=by unfold SM; rw [bx,qv]; exact hD
       have kt:∀ a,a<e->a4 a=h a:=fun a b=>by rw [bx,qv]; exact hs a b
       rw [<-bx];refine ACalls.draw (R:=fun k=>∃ a,k=.int a/\a∈([0,1,3,5,11,-1,200]:List Int)) (cC [0,1,3,5,11,-1,200] L dp e a4 (x+1) (by simp) (by simp) k' (by omega) (by omega) t (by omega)) fun C gW gp nh g hh o7 p0 oo f'=>?_
       obtain ⟨v,rfl,_⟩:=g;have d0:=(f' d (by omega)).trans h3
       have ht:∀ a,a<e->gW a=h a:=fun a b=>(f' a (by omega)).trans (kt a b)
       have m1:=(f' x (by omega)).trans m0
       simp [d0,m1,bsI,az,aH];rw [a6];refine ⟨f,p,⟨nm,v⟩,x,by simp,by simp,by simp,ae,by omega,by show x<gp; omega,?_,fun a b=>?_⟩
       ·show upd _ x _ d=_
        first | (rw [qv]; exact d0) | (rw [qv,qv]; exact d0)
       ·show upd _ x _ a=_
        first | (rw [qv]; exact ht a b) | (rw [qv,qv]; exact ht a b)
      ·refine ACalls.draw (R:=fun k=>∃ a,k=.int a/\a∈([0,1,3,5,11,-1,200]:List Int)) (cC [0,1,3,5,11,-1,200] L dp e ag x (by simp) (by simp) hD (by omega) (by omega) t (by omega)) fun C g0 bi nk g hi o8 p1 op hR=>?_
       obtain ⟨v,rfl,_⟩:=g;have d1:=(hR d (by omega)).trans bf
       have hu:∀ a,a<e->g0 a=h a:=fun a b=>(hR a (by omega)).trans (hs a b)
       have nc:¬d=bi:=by omega
       simp [roamW_t,roamW_f,roamW_n,d1,bsI,az,aH,nc];rw [a6];refine ⟨f,p,⟨nm,v⟩,bi,by simp,by simp,by simp,ae,by omega,q7 _,?_,fun a b=>?_⟩
       ·show upd _ bi _ d=_
        first | (rw [qv]; exact d1) | (rw [qv,qv]; exact d1)
       ·show upd _ bi _ a=_
        first | (rw [qv]; exact hu a b) | (rw [qv,qv]; exact hu a b)
  ·intro p3 fx bm;rw [a6] at bm;obtain ⟨f,p,z,M,u,K,y,hN,oc,k1,ao,c3⟩:=bm;obtain ⟨Z,nA⟩:=fx;simp at u K y;simp only at hN k1 ao c3;have el:=zI c (by omega) f
   have ez:=zJ c (by omega) p
   have es:=zK c (by omega) f
   obtain ⟨Y,ex⟩:∃ Y,Y=(if ed c p=0 then fw c p else noProg):=⟨_,rfl⟩
   obtain ⟨W,eo⟩:∃ W,W=(if ce c f=0 then fw c (fu c f) else noProg):=⟨_,rfl⟩
   obtain ⟨b5,e6⟩:∃ b5,b5=(if ce c f=0 then ((fu c f).length:Int) else 0):=⟨_,rfl⟩
   obtain ⟨I,eg⟩:∃ I,I=(if ce c f=0 then bJ 0 (cI c.arrays (aB c).2.l f) else []):=⟨_,rfl⟩
   have i5:(if ce c f=0 then an (bJ 0 (cI c.arrays (aB c).2.l f)) else [])=an I:=by rw [eg]; split <;> rfl
   rw [i5] at el;rw [<-ex] at ez;rw [<-eo,<-e6] at es;have g':=fun q w=>zL c (by omega) z q w
   have ha:=ux c (by omega)
   have hb:=fun q w=>vA c (by omega) q w
   have g7:=zM c f;have g8:=zN c (by omega) p
   simp only [Prog.av,aM,Spot.cells] at el ez es g' ha hb g7 g8;simp [ao,u,K,y];refine ACalls.pure el fun gs j2=>?_;simp [ao,u,K,y];refine ACalls.pure ez fun R j3=>?_;obtain ⟨ab,e2⟩:∃ ab,ab=upd Z R (some (.row 2 [[row (Y.arrays.map Array.cells),row (Y.steps.map Step.cells)]] .live none)):=⟨_,rfl⟩;have fm:∀ a,a<R->ab a=Z a:=fun a b=>by rw [e2,qv]
   have l2:=(congrFun e2 R).trans ae;have a':=(fm d (by omega)).trans ao
   have c9:=(fm M (by omega)).trans hN
   simp [ao,u,K,y];rw [<-e2];simp [a',u,K,y];refine ACalls.pure es fun P i7=>?_;obtain ⟨S,e3⟩:∃ S,S=upd ab P (some (.row 2 [[row (W.arrays.map Array.cells),row (W.steps.map Step.cells)]] .live none)):=⟨_,rfl⟩;have c4:∀ a,a<P->S a=ab a:=fun a b=>by rw [e3,qv]
   have li:=(congrFun e3 P).trans ae;have l3:=(c4 R (by omega)).trans l2
   have aa:=(c4 d (by omega)).trans a'
   have hH:=(c4 M (by omega)).trans c9
   simp;rw [<-e3];simp [aa,hH,u,K,y];refine (g' S (P+1)).mono ?_;rintro av ⟨ap,no⟩ i8 ⟨ea,F,rfl,g5,i3⟩;simp only at ea i8;have h8:=ea.symm;clear ea;subst h8;simp [aa];refine ACalls.pure ha fun d3 i9=>?_;simp [aa];refine (hb S d3).mono ?_;rintro av ⟨T,Q⟩ hf ⟨U,rfl,a5,hk,al⟩;simp only at hf a5 hk al;have lj:=(a5.h P (by omega)).trans li
   have l4:=(a5.h R (by omega)).trans l3
   have bb:=(a5.h d (by omega)).trans aa
   have c':=(a5.h M (by omega)).trans hH
   have c2:∀ a,a<e->T a=h a:=fun a b=>by rw [a5.h a (by omega),c4 a (by omega),fm a (by omega)]; exact c3 a b
   simp [-uB];rw [uB];obtain ⟨m,ai⟩:∃ m,m=(aB c).2.l:=⟨_,rfl⟩;have hj:aV c=0->∀ s,eL 1 U s=some (.int m.length):=fun o s=>by
    rw [if_pos o,<-ai] at al;exact qp al s
   by_cases eP:aV c=0/\300<(m.length:Int)
   ·obtain ⟨o,eM⟩:=eP;simp [o,hj o,eM];refine ACalls.pure tZ fun d4 hg=>?_;simp;exact aA c2
   refine lI [81,82,83,84,85,86,87,88,2] (by rfl) (fun H s'=>s'=⟨T,Q⟩) ?_ ?_
   ·by_cases o:aV c=0
    ·have eM:¬300<(m.length:Int):=fun q=>eP ⟨o,q⟩;simp [o,hj o,eM]
    ·simp [o]
   rintro l0 hF rfl;have he:aV c=0->m.length<=300/\UsesN T Q c.arrays (norm U) m/\norm (norm U)=norm U/\(∀ a,au (norm U) a->a<Q)/\((∃ bj,norm U=.row bj 22 0 m.length)\/norm U=.sl [] false)/\Right c/\(∀ i∈m,(i.reads c.arrays).length<=4096)/\∀ i∈m,∀ s∈i.reads c.arrays,0<=s.cell/\s.cell<=1000000000:=fun o=>by
    rw [if_pos o,<-ai] at al;obtain ⟨m5,p9,hT,p'⟩:=fB o;have c0:=ej m5;have e4:=fE c0;rw [<-ai] at e4 hT;refine ⟨by have:¬300<(m.length:Int):=fun q=>eP ⟨o,q⟩; omega,al.n,?_,?_,?_,c0,fun i cs=>ru (e4 i cs),fun i cs s j9=>?_⟩
    ·rcases al with ⟨gy,⟨rfl,rfl⟩ | ⟨bj,rfl,_⟩,_⟩ <;> rfl
    ·intro a b;rcases al with ⟨gy,⟨rfl,rfl⟩ | ⟨bj,rfl,_⟩,_⟩
     ·exact absurd b aL
     ·exact (hk a b).2
    ·rcases al with ⟨gy,⟨rfl,rfl⟩ | ⟨bj,rfl,_⟩,h7,_⟩
     ·exact .inr rfl
     ·rw [h7]; exact .inl ⟨bj,rfl⟩
    ·obtain ⟨dk,i6,_,nl,nn⟩:=(Inst.ok_in c0.arrays (e4 i cs) (hT i cs)).1 s j9;have:=(c0.arrays dk i6).cells;omega
   have e0:=wP (aV c) (cg (fun a=>decide (0<=bp c.arrays a)) f 0 f);have j6:(if aV c=0 then cg (fun a=>decide (0<=bp c.arrays a)) f 0 f else aV c)=ce c f:=rfl
   rw [j6] at e0;simp only [an,s9,EE] at e0;simp [bb,u];refine ACalls.pure g7 fun d4 hg=>?_;simp [bsI,az];refine ACalls.pure e0 fun l i'=>?_;simp [-jQ];obtain ⟨G,N⟩:∃ G,G=upd (upd T l (some (.row 2 [[.nil,.nil]] .live none))) (l+1) (some (.row 2 [[.nil,.nil]] .live none)):=⟨_,rfl⟩;have b0:∀ a,a<l->G a=T a:=fun a b=>by rw [N,qv,qv]
   have hx:G l=some (.row 2 [[.nil,.nil]] .live none):=by rw [N,qv,ae]
   have k3:G (l+1)=some (.row 2 [[.nil,.nil]] .live none):=by rw [N,ae]
   have bc:=(b0 d (by omega)).trans bb
   have f1:=(b0 M (by omega)).trans c'
   have l5:=(b0 R (by omega)).trans l4
   have lk:=(b0 P (by omega)).trans lj
   rw [<-N];clear N;refine lI [99,100,101,21] (by rfl) (fun H s'=>H 21=.int (ed c p)/\s'.h=G/\l+1+1<=s'.c) ?_ ?_
   ·by_cases a7:aR c=0
    ·simp [a7,bc,u,K,y];refine ACalls.pure g8 fun d' cn=>?_;simp;exact ⟨by unfold ed; rw [if_pos a7],by omega⟩
    ·simp [a7];unfold ed; rw [if_neg a7]
   rintro l1 ⟨cb,d'⟩ ⟨a8,gv,cn⟩;simp at a8;simp only at gv cn;subst gv;simp [-jQ,a8];refine lI [104,105,106] (by rfl) (fun H s'=>(∃ b6 b7,s'.h l=some (.row 2 [[b6,b7]] .live none)/\norm b6=row (Y.arrays.map Array.cells)/\norm b7=row (Y.steps.map Step.cells))/\(∀ a,a≠l->s'.h a=cb a)/\l+1+1<=s'.c) ?_ ?_
   ·by_cases ax:ed c p=0
    ·have a7:aR c=0:=by
      unfold ed at ax;by_cases q:aR c=0
      ·exact q
      ·rw [if_neg q] at ax; exact absurd ax q
     have ey:=uz c (by omega) (j8 (ej a7).steps) p
     have cl:Y=fw c p:=by rw [ex,if_pos ax]
     rw [<-cl] at ey;simp only [Prog.av] at ey;simp [ax,bc,u,K,y];refine ACalls.pure ey fun b' cp=>?_;simp [hx];refine ⟨⟨_,_,⟨rfl,rfl⟩,by simp,by simp⟩,fun a b=>ad b,by omega⟩
    ·have cl:Y=noProg:=by rw [ex,if_neg ax]
     simp [ax];refine ⟨⟨_,_,hx,?_,?_⟩,cn⟩
     ·rw [cl]; rfl
     ·rw [cl]; rfl
   rintro lv ⟨a3,b'⟩ ⟨⟨p4,p5,hy,mb,me⟩,a0,cp⟩;simp only at hy a0 cp;have hz:=(a0 (l+1) (by omega)).trans k3
   have am:=(a0 d (by omega)).trans bc
   have f2:=(a0 M (by omega)).trans f1
   have l6:=(a0 R (by omega)).trans l5
   have ln:=(a0 P (by omega)).trans lk
   have fd:∀ a,a<Q->a3 a=T a:=fun a b=>(a0 a (by omega)).trans (b0 a (by omega))
   simp [-jQ];refine lI [109,110,111,23,113,114,115,116,112,117,118,26] (by rfl) (fun H s'=>(∃ v,H 23=v/\norm v=row (an I))/\H 26=.int b5/\(∃ b6 b7,s'.h (l+1)=some (.row 2 [[b6,b7]] .live none)/\norm b6=row (W.arrays.map Array.cells)/\norm b7=row (W.steps.map Step.cells))/\(∀ a,a≠l+1->s'.h a=a3 a)/\l+1+1<=s'.c) ?_ ?_
   ·by_cases O:ce c f=0
    ·have o:aV c=0:=by
      unfold ce at O;by_cases q:aV c=0
      ·exact q
      ·rw [if_neg q] at O; exact absurd O q
     obtain ⟨ls,c5,c6,a2,hG,c7,c8,u8⟩:=he o;have g6:=fun (w:Nat) (bo:Q<=w)=>zO c.arrays m (by omega) c8 (norm U) c6 f a3 w (c5.frL a2 fd bo) (fun a b=>by have:=a2 a b; omega)
     have et:=fun (w:Nat) (bo:Q<=w)=>zP c (by omega) (j8 c7.steps) (by rw [<-ai]; omega) (by rw [<-ai]; exact c8) (norm U) c6 f a3 w (by rw [<-ai]; exact c5.frL a2 fd bo) (fun a b=>by have:=a2 a b; omega)
     have ch:W=fw c (fu c f):=by rw [eo,if_pos O]
     have e9:b5=((fu c f).length:Int):=by rw [e6,if_pos O]
     have em:I=bJ 0 (cI c.arrays m f):=by rw [eg,if_pos O,ai]
     rw [<-ch,<-e9] at et;rw [<-em] at g6;simp only [Prog.av] at et;simp [O,u,am];refine ACalls.at (g6 b' (by omega)) fun x eW=>?_
     simp [u,am];refine ACalls.at (et x (by omega)) fun gn j0=>?_
     simp [hz];refine ⟨⟨_,_,⟨rfl,rfl⟩,by simp,by simp⟩,fun a b=>ad b,by omega⟩
    ·have ch:W=noProg:=by rw [eo,if_neg O]
     have e9:b5=0:=by rw [e6,if_neg O]
     have em:I=[]:=by rw [eg,if_neg O]
     simp [O,e9,em];refine ⟨rfl,⟨_,_,hz,?_,?_⟩,cp⟩
     ·rw [ch]; rfl
     ·rw [ch]; rfl
   rintro lw ⟨ag,x⟩ ⟨⟨qs,b2,de⟩,b3,⟨os,ox,hA,lp,lr⟩,a1,eW⟩;simp at b2 b3;simp only at hA a1 eW;have k2:=(a1 l (by omega)).trans hy
   have bf:=(a1 d (by omega)).trans am
   have hK:=(a1 M (by omega)).trans f2
   have l':=(a1 R (by omega)).trans l6
   have lo:=(a1 P (by omega)).trans ln
   have hw:∀ a,a<Q->ag a=T a:=fun a b=>(a1 a (by omega)).trans (fd a b)
   simp [-jQ];refine lI [121,122,123,22,124,125,126,127,128,27] (by rfl) (fun H s'=>H 22=.int (df c z)/\(∃ v,H 27=v/\norm v=row (F.map Spot.cells))/\s'.h=ag/\x<=s'.c) ?_ ?_
   ·by_cases o:aV c=0
    ·obtain ⟨ls,c5,c6,a2,hG,c7,c8,u8⟩:=he o;have en:=zQ c c7 z;simp only [Prog.av,aM,Spot.cells] at en;have bW:df c z=cw c.arrays z:=by unfold df; rw [if_pos o]
     rw [<-bW] at en;simp [o,y,bf,hK];refine ACalls.pure en fun gn j0=>?_;by_cases ar:df c z=0
     ·obtain ⟨m6,h9,h',ia⟩:=i3 ar;have j':0<=z.cell/\z.cell<=1000000000:=by
       have:=qJ (bW.symm.trans ar) c7;omega
      have g9:=fun (w:Nat) (bo:Q<=w)=>zR c.arrays m (by omega) c8 u8 (norm U) c6 hG z j' ag w (c5.frL a2 hw bo) (fun a b=>by have:=a2 a b; omega)
      simp only [aM,Spot.cells] at g9;simp [ar,y,hK];refine (g9 gn (by omega)).mono ?_
      rintro av ⟨gW,gp⟩ hh ⟨gw,hU,ih,ik,rfl⟩;simp only at gw hh;subst gw;have i4:bK hU=F:=by rw [ia]; exact tP ih h9 fun s=>(ik s).trans (by rw [ai]; exact (h' s).symm)
      simp [i4,cu];omega
     ·simp [ar,g5 ar];omega
    ·have bW:df c z=aV c:=by unfold df; rw [if_neg o]
     have ar:df c z≠0:=by rw [bW]; exact o
     simp [o,bW,g5 ar]
   rintro lx ⟨g0,bi⟩ ⟨b1,⟨qi,b4,da⟩,gx,hi⟩;simp at b1 b4;simp only at gx hi;subst gx;have i1:=pM I;have i2:=ju F;have cx:aP (F.map Spot.cells)=F.map Spot.cells:=cu (fun _=>rfl) F;have hd:=gj Y;have hc:=gj W;simp only [Prog.av] at hd hc;simp [cx,a8,b1,b2,b3,b4,u,K,y,de,da];refine ACalls.pure i1 fun nr n1=>?_;simp [cx,a8,b1,b2,b3,b4,u,K,y,de,da,l',k2,mb,me];refine ACalls.pure hd fun ns n2=>?_;simp [cx,a8,b1,b2,b3,b4,u,K,y,de,da,lo,hA,lp,lr];refine ACalls.pure hc fun nt n3=>?_;simp [cx,a8,b1,b2,b3,b4,u,K,y,de,da];refine ACalls.pure i2 fun nu n4=>?_;simp;refine ACalls.pure tZ fun nx n5=>?_;simp;exact aA fun a b=>(hw a (by omega)).trans (c2 a b)
end Go.Proofs.YtjhogglgkjcacaaGreat
