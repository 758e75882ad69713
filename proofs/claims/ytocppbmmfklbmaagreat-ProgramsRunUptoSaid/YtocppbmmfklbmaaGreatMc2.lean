/- Part of the claim: see its last text. -/
import Derived.Test.YtocppbmmfklbmaaGreatMc1
import Derived.Test.YtocppbmmfklbmaaGreatMa33
import Derived.Test.YtocppbmmfklbmaaGreatMc0
import Derived.Test.YtocppbmmfklbmaaGreatMa35
set_option linter.all false
set_option maxRecDepth 20000
set_option maxHeartbeats 4000000
namespace Go.Proofs.YtocppbmmfklbmaaGreat
open Go.AM Go.Wb
theorem ul (l:List Wb.Form) (f:Nat) (a b:List AV) (p:Wb.Form→Bool) (h:Heap) (c:Nat) (hp:m8 f a b Wb.Form.av h c p l) :
  ACalls Pg Fn166.n [row (l.map Form.cells),.fn (.func f) a b] ⟨h,c⟩ fun av s'=>av=.int (aP p l 0)∧s'.h=h:=by
 refine ACalls.small fun hs=>?_
 have hlen:l.length≤68719476736:=by simpa using hs.1.1
 refine Fn166.calls .frz ?_
 unfold Fn166.ac
 simp
 refine bR 8 Fn166.W0 l (fun i r sl=>aP p l 0=aP p r i) (by rfl) (by rfl) ?_ ?_ ?_
 ·simp
 ·intro v c1 hv hc hI
  simp [hv,hI,aP]
 ·intro i x xs v c1 hi hx hl hv hc hI
  have hw:=ae (x:=(i:Int)+1) (by omega) (by omega)
  simp [hv,hi,hx,Form.cells]
  refine ACalls.at (hp x (aM hl) c1 hc) fun c2 hc2=>?_
  by_cases hpx:p x=true
  ·simp [hpx,hI,aP]
  ·simp [hpx,hv,hw,hI,aP]; omega
theorem tO (l:List Wb.Form) (f:Nat) (a b:List AV) (p:Wb.Form→Bool) (h:Heap) (c:Nat) (hp:m8 f a b Wb.Form.av h c p l) :
  ACalls Pg Fn108.n [row (l.map Form.cells),.fn (.func f) a b] ⟨h,c⟩ fun av s'=>av=.bool (l.any p)∧s'.h=h:=by
 refine Fn108.calls .frz ?_
 unfold Fn108.ac
 simp
 refine ACalls.at (ul l f a b p h c hp) fun c2 hc2=>?_
 simp [jt]
def jI (L:List Int) (c0:Nat) (h0:Heap) (av:AV) (s':St):Prop:=
 Fr c0 h0 s'.h s'.c∧((av=.sl [] true∧L=[])∨∃ g,c0≤g∧g<s'.c∧av=.row g 1 0 L.length∧s'.h g=some (.row 1 (aj L) .live none))
theorem qI (L:List Int) (h0:Heap) (c0:Nat):ACalls Pg Fn107.n [row (aj L)] ⟨h0,c0⟩ (jI L c0 h0):=by
 refine ACalls.small fun hs=>?_
 have hlen:L.length≤68719476736:=by simpa [aj] using hs.1.1
 refine Fn107.calls .keep ?_
 unfold Fn107.ac
 simp
 refine jF (fun h=>?_) ?_
 ·have hL:L=[]:=by simpa [aj] using h
  simp [jI,hL]
  exact Fr.refl _ _
 ·simp [bsI,au]
  have hap:=cJ (sz:=1) (bytes:=8) (md:=.plain) (es:=[]) (xs:=aj L) (b:=false) (s:=⟨h0,c0⟩) (by decide) (by decide) (by decide) (by simp) (fun e he=>by
   obtain ⟨x,_,rfl⟩:=List.mem_map.1 he; rfl) (by simpa [aj] using hlen) (.inr rfl)
  have hsl:(aj L).length=L.length:=by simp [aj]
  simp [hap,jI,hsl]
  exact ⟨(Fr.refl h0 c0).upd (Nat.le_refl _) (Nat.le_succ _),c0,Nat.le_refl _,Nat.lt_succ_self _,rfl,by simp⟩
theorem nO {L:List Int} {c4 c5:Nat} {h1 h2:Heap} {av:AV} (hF1:Fr c4 h1 h2 c5) (hav:(av=.sl [] true∧L=[])∨∃ g,c4≤g∧g<c5∧av=.row g 1 0 L.length∧h2 g=some (.row 1 (aj L) .live none)) (name:Int) (hL:(L.length:Int)≤1000000) :
  ∃ g2 c6 h3,apI 1 8 .fz av (.sl [[.int name]] true) ⟨h2,c5⟩=some (.row g2 1 0 (L.length+1),⟨h3,c6⟩)∧h3 g2=some (.row 1 (aj (L++[name])) .live none)∧Fr c4 h1 h3 c6∧c4≤g2:=by
 have hs:aj (L++[name])=aj L++[[.int name]]:=by simp [aj]
 have hcc:=hF1.c
 rcases hav with ⟨rfl,rfl⟩ | ⟨g,hg,hgc,rfl,hh⟩
 ·have:=cJ (sz:=1) (bytes:=8) (md:=.fz) (es:=[]) (xs:=[[.int name]]) (b:=true) (s:=⟨h2,c5⟩) (by decide) (by decide) (by decide) (by simp) (fun e he=>by simp at he; subst he; rfl) (by simp) (.inr rfl)
  exact ⟨c5,c5+1,_,this,by simp [aj],hF1.upd hcc (Nat.le_succ _),hcc⟩
 ·have:=bH (sz:=1) (bytes:=8) (len:=L.length) (md:=.fz) (x:=[.int name]) (b:=true) (s:=⟨h2,c5⟩) (by simp) hh (by simp [aj]) (by decide) (by decide) (by decide) rfl (by omega)
  exact ⟨c5,c5+1,_,this,by rw [hs]; simp,(hF1.upd hg (Nat.le_refl _)).upd hcc (Nat.le_succ _),hcc⟩
@[simp] theorem _root_.Go.AM.finW_fz_re {P:Program} {d:Option Nat} {q:Nat×Option (Nat×Bool)×I} {re:List (Nat×Option (Nat×Bool)×I)} {r:List AO} {K:Slots→St→Prop} {sl:Slots} {v:AV} {s:St} :
  aX P d .fz (q::re) r K sl v s=@dz (fzI v s) ⟨fun v' s'=>(∀ x∈q::re,fc x sl s')∧aO P r K (put sl d v') s'⟩:=Eq.trans rfl rfl
theorem tJ (f:Wb.Form) (hf:OkForm f) (e:Env) (he:ed e) (g gb:Nat) (h0:Heap) (c0:Nat) (hb:h0 gb=some (.row 1 [[.map g]] .live none)) (hgb:gb<c0) (hg:cO h0 g e) (hgc:g<c0) :
  ACalls Pg Fn109.n [f.av,.ptr gb 0 0] ⟨h0,c0⟩ fun av s'=>av=.bool (decide (aG (aw e) f<0))∧s'.h=h0:=by
 refine Fn109.calls .frz ?_
 unfold Fn109.ac
 have h1:¬gb=c0:=by omega
 simp [Form.av,Form.cells,hb,h1]
 have hg':cO (upd h0 c0 (some (.row 2 [[.int f.const,row (f.terms.map Term.cells)]] .live none))) g e:=by
  obtain ⟨ver,hg⟩:=hg
  exact ⟨ver,by rw [ad (by omega)]; exact hg⟩
 refine ACalls.at (jn f hf e he g _ _ hg' (by omega)) fun c2 hc2=>?_
 simp
def fu (A:List Wb.Array) (i:Inst) (ge:Nat):List AV:=
 [.str (Step.name i.step),row (aj (i.env.map (·.2)))]++i.step.cells++[.map ge,row ((i.reads A).map Spot.cells),.str (i.sets A).array,.int (i.sets A).cell,row (aj i.way)]
def UsesAt (h:Heap) (c:Nat) (A:List Wb.Array) (x:AV) (l:List Inst):Prop:=
 ∃ es,RowAt h 22 x es∧es.length=l.length∧∀ (k:Nat) (e:List AV) (i:Inst),es[k]?=some e→l[k]?=some i→∃ ge,ge<c∧cO h ge i.env∧e=fu A i ge
structure WInv (h:Heap) (c g:Nat) (A:List Wb.Array) (S:List Wb.Step) (lx:AV) (fault:Int) (s:RS):Prop where
 at_:dw h g A S s.rounds lx (s.l.any fun i=>!i.ok A) fault
 uses:UsesAt h c A lx s.l
 row:∀ k,an lx k→k<c∧k≠g
 gc:g<c
 len:s.l.length≤50000
 rounds:0≤s.rounds∧s.rounds≤200001∧(fault=0→s.rounds≤200000)
theorem UsesAt.frame {h h':Heap} {c c':Nat} {A:List Wb.Array} {x:AV} {l:List Inst} (u:UsesAt h c A x l) (hc:c≤c') (hh:∀ k,(an x k∨(k<c∧∃ kv ver,h k=some (.map kv ver)))→h' k=h k):UsesAt h' c' A x l:=by
 obtain ⟨es,h1,h2,h3⟩:=u
 refine ⟨es,h1.frame fun k hk=>hh k (.inl hk),h2,fun k e i he hi=>?_⟩
 obtain ⟨ge,g1,⟨ver,g2⟩,g3⟩:=h3 k e i he hi
 exact ⟨ge,by omega,⟨ver,(hh ge (.inr ⟨g1,_,_,g2⟩)).trans g2⟩,g3⟩
theorem WInv.frame {h h':Heap} {c c' g:Nat} {A:List Wb.Array} {S:List Wb.Step} {lx:AV} {fault:Int} {s:RS} (w:WInv h c g A S lx fault s) (hc:c≤c') (hh:∀ k,k<c→h' k=h k):WInv h' c' g A S lx fault s:=
 ⟨by unfold dw; rw [hh g w.gc]; exact w.at_,w.uses.frame hc fun k hk=>hh k (hk.elim (fun h=>(w.row k h).1) fun h=>h.1),fun k hk=>⟨by have:=w.row k hk; omega,(w.row k hk).2⟩,by have:=w.gc; omega,w.len,w.rounds⟩
theorem WInv.cell {h:Heap} {c g:Nat} {A:List Wb.Array} {S:List Wb.Step} {lx:AV} {fault:Int} {s:RS} (w:WInv h c g A S lx fault s):lx.cell=true:=by
 obtain ⟨es,h1,_⟩:=w.uses; exact h1.cell
structure WFp (c0 g:Nat) (lx lx':AV) (h0 h:Heap):Prop where
 same:∀ k,k<c0→k≠g→¬an lx k→h k=h0 k
 rows:∀ k,an lx' k→an lx k∨c0≤k
theorem WFp.trans {c0 c1 g:Nat} {a b d:AV} {h0 h1 h2:Heap} (x:WFp c0 g a b h0 h1) (y:WFp c1 g b d h1 h2) (hc:c0≤c1):WFp c0 g a d h0 h2:=
 ⟨fun k hk hkg hka=>by
  rw [y.same k (by omega) hkg fun hb=>(x.rows k hb).elim hka fun h=>by omega]; exact x.same k hk hkg hka,
  fun k hk=>(y.rows k hk).elim (x.rows k) fun h=>.inr (by omega)⟩
theorem WFp.ext {c0 c1 g:Nat} {a b:AV} {h0 h1 h2:Heap} (x:WFp c0 g a b h0 h1) (hh:∀ k,k<c1→h2 k=h1 k) (hc:c0≤c1):WFp c0 g a b h0 h2:=
 ⟨fun k hk hkg hka=>by rw [hh k (by omega)]; exact x.same k hk hkg hka,x.rows⟩
theorem WFp.refl {c0 g:Nat} {a:AV} {h:Heap}:WFp c0 g a a h h:=⟨fun _ _ _ _=>rfl,fun _ h=>.inl h⟩
theorem WInv.set {h:Heap} {c g:Nat} {A:List Wb.Array} {S:List Wb.Step} {lx:AV} {fault:Int} {s:RS} (w:WInv h c g A S lx fault s) (r f:Int) (hr:0≤r∧r≤200001∧(f=0→r≤200000)) :
  WInv (upd h g (some (.row 6 [[.sl (A.map Array.cells) false,.sl (S.map Step.cells) false,.int r,lx,.bool (s.l.any fun i=>!i.ok A),.int f]] .live none))) c g A S lx f ⟨r,s.l⟩:=by
 have hat:=w.at_
 refine ⟨af,w.uses.frame (Nat.le_refl _) fun k hk=>ad ?_,w.row,w.gc,w.len,hr⟩
 rintro rfl
 rcases hk with hk | ⟨_,kv,ver,hk⟩
 ·exact (w.row k hk).2 rfl
 ·unfold dw at hat; rw [hk] at hat; cases hat
theorem WFp.self {c0 g:Nat} {lx:AV} {h0 h:Heap} {b:Option Body} {lx':AV} (x:WFp c0 g lx lx' h0 h):WFp c0 g lx lx' h0 (AM.upd h g b):=
 ⟨fun k hk hkg hka=>by rw [ad hkg]; exact x.same k hk hkg hka,x.rows⟩
theorem tI {e:Env} {name:ByteArray} {v:Int} (h:inL name (e.map (·.1))=false):dI e name v=e++[(name,v)]:=by
 induction e with
 | nil=>rfl
 | cons p e ih=>
  simp [inL] at h
  simp only [dI,if_neg h.1]
  rw [ih (by simp [inL]; exact h.2)]; rfl
theorem vY (A:List Wb.Array) (hA:∀ a∈A,OkArray a) (S:List Wb.Step) (gw:Nat):∀ (N:Nat) (l:List Wb.Step),aC l≤N→∀ (num:Nat) (e:Env) (way:List Int) (s:RS) (lx:AV) (ge:Nat) (h0:Heap) (c0:Nat),
  cT A (e.map (·.1)) l→ed e→e.length+N≤100000→way.length+N≤100000→WInv h0 c0 gw A S lx 0 s→cO h0 ge e→ge<c0→ge≠gw →
  ACalls Pg Fn65.n [.ptr gw 0 0,row (l.map Step.cells),.map ge,row (aj (e.map (·.2))),row (aj way)] ⟨h0,c0⟩ fun av s'=>∃ lx',av=.bool (decide ((aS num e way 0 l s).1=0))∧WInv s'.h s'.c gw A S lx' (aS num e way 0 l s).1 (aS num e way 0 l s).2∧WFp c0 gw lx lx' h0 s'.h:=by
 intro N
 induction N with
 | zero=>
  intro l hl
  have:l=[]:=by
   cases l with
   | nil=>rfl
   | cons x xs=>obtain ⟨_,_,_,_,_,body,_,_,_⟩:=x; simp [aC,count] at hl
  subst this
  intro num e way s lx ge h0 c0 hok he hel hwl hw hge hgec hgg
  refine Fn65.calls .keep ?_
  unfold Fn65.ac
  simp
  refine aY 23 Fn65.W0 ([]:List Wb.Step) (fun i r sl s'=>s'=⟨upd h0 c0 (some (.row 1 [[.map ge]] .live none)),c0+1⟩) (by rfl) (by rfl) ?_ ?_ ?_
  ·simp
  ·intro v s' hv hI
   simp at hv
   subst hI
   simp [hv,aS]
   exact ⟨lx,hw.frame (by omega) fun k hk=>ad (by omega),WFp.refl.ext (c1:=c0) (fun k hk=>ad (by omega)) (Nat.le_refl _)⟩
  ·intro i x xs v s' hi; simp at hi
 | succ N ih=>
  intro l hl num e way s lx ge h0 c0 hok he hel hwl hw hge hgec hgg
  refine ACalls.small fun hsm=>?_
  have hlen:l.length≤68719476736:=by simp at hsm; omega
  refine Fn65.calls .keep ?_
  unfold Fn65.ac
  simp
  have hgwc:=hw.gc
  obtain ⟨Inv,hInv⟩:∃ Inv:Nat→List Wb.Step→Slots→St→Prop,Inv=fun i r sl s'=>∃ (s1:RS) (lx1:AV) (num1:Nat),WInv s'.h s'.c gw A S lx1 0 s1∧WFp c0 gw lx lx1 h0 s'.h∧(∀ k,an lx1 k→an lx k∨c0<k)∧s'.h c0=some (.row 1 [[.map ge]] .live none)∧c0<s'.c∧aS num e way 0 l s=aS num1 e way i r s1:=⟨_,rfl⟩
  refine aY 23 Fn65.W0 l Inv (by rfl) (by rfl) ?_ ?_ ?_
  ·rw [hInv]
   exact ⟨by simp,s,lx,num,hw.frame (by show c0≤c0+1; omega) fun k hk=>ad (by omega),WFp.refl.ext (c1:=c0) (fun k hk=>ad (by omega)) (Nat.le_refl _),fun k hk=>.inl hk,af,by show c0<c0+1; omega,rfl⟩
  ·intro v s' hv hI
   rw [hInv] at hI
   obtain ⟨s1,lx1,num1,i1,i2,i3,i4,i5,i6⟩:=hI
   have hr:aS num e way 0 l s=(0,s1):=by rw [i6]; rfl
   simp [hv,hr]
   exact ⟨lx1,i1,i2⟩
  ·intro i x xs v s' hi hx hl2 hv hI
   rw [hInv] at hI
   obtain ⟨s1,lx1,num1,i1,i2,i3,i4,i5,i6⟩:=hI
   obtain ⟨h,c⟩:=s'
   simp only at i1 i2 i4 i5
   have hwi:=ae (x:=(i:Int)+1) (by omega) (by omega)
   have hxok:=jm hok x (aM hl2)
   have hcut:=ew hl2
   obtain ⟨kind,name,low,high,conds,body,array,subs,⟨op,n,form,ea,es,args⟩⟩:=x
   have hbody:aC body≤N:=by simp [count] at hcut; omega
   have hlenw:(way.length:Int)≤1000000:=by omega
   obtain ⟨h1,hh1⟩:∃ h1,h1=upd h c (some (.row 15 [(Wb.Step.mk kind name low high conds body array subs (.mk op n form ea es args)).cells] .live none)):=⟨_,rfl⟩
   simp [hv,hi,hx,Step.cells_mk]
   rw [Step.cells_mk] at hh1
   rw [←hh1]
   refine (qI way h1 (c+1)).mono ?_
   rintro av ⟨h2,c2⟩ hc2 ⟨hF2,hav2⟩
   simp only at hc2 hF2 hav2
   obtain ⟨g3,c3,h3,hap3,hg3,hF3,hg3c⟩:=nO hF2 hav2 (i:Int) hlenw
   have hsl3:(aj (way++[(i:Int)])).length=way.length+1:=by simp [aj]
   have hfz3:=cY (s:=⟨h3,c3⟩) (z:=1) hg3 hsl3
   obtain ⟨h4,hh4⟩:∃ h4,h4=upd h3 g3 (some (.row 1 (aj (way++[(i:Int)])) .frz none)):=⟨_,rfl⟩
   have hF4:Fr (c+1) h1 h4 c3:=by rw [hh4]; exact hF3.upd hg3c (Nat.le_refl _)
   have hcc:=hF4.c
   have hlow:∀ k,k<c→h4 k=h k:=fun k hk=>by rw [hF4.h k (by omega),hh1,ad (by omega)]
   have hbox:h4 c=some (.row 15 [[.int kind,.str name,row (low.map Bound.cells),row (high.map Bound.cells),row (conds.map Form.cells),row (body.map Step.cells),.str array,row (subs.map Form.cells),.int op,.int n,.int form.const,row (form.terms.map Term.cells),.str ea,row (es.map Form.cells),row (args.map Expr.cells)]] .live none):=by rw [hF4.h c (by omega),hh1,af]
   have hbe:h4 c0=some (.row 1 [[.map ge]] .live none):=(hlow c0 (by omega)).trans i4
   have hw4:WInv h4 c3 gw A S lx1 0 s1:=i1.frame (by omega) hlow
   have hge4:cO h4 ge e:=by
    obtain ⟨ver,hge⟩:=hge
    refine ⟨ver,?_⟩
    rw [hlow ge (by omega),i2.same ge hgec hgg ?_]
    ·exact hge
    ·intro hr
     obtain ⟨es',h1',_⟩:=hw.uses
     rcases h1' with ⟨e1,_⟩ | ⟨g',e1,e2⟩
     ·rw [e1] at hr; exact aJ hr
     ·rw [e1] at hr; have:=aq.1 hr; subst this; rw [hge] at e2; cases e2
   have hfp4:WFp c0 gw lx lx1 h0 h4:=i2.ext hlow (by omega)
   simp [hbox,bsI,au,hap3,hfz3,-dP,←hh4]
   obtain ⟨X,hX⟩:∃ X:Wb.Step,X=.mk kind name low high conds body array subs (.mk op n form ea es args):=⟨_,rfl⟩
   rw [←hX] at hxok i6 hl2
   have hnc0:∀ k,k<c3→k≠gw→¬an lx1 k→True:=fun _ _ _ _=>trivial
   have hc0r:¬an lx1 c0:=fun hr=>by
    rcases i3 c0 hr with hr | hr
    ·have:=(hw.row c0 hr).1; omega
    ·omega
   have hcont:∀ h5 c5 lx5 s5,c3≤c5→WInv h5 c5 gw A S lx5 0 s5→WFp c3 gw lx1 lx5 h4 h5→bF num1 e (way++[(i:Int)]) X s1=(0,s5)→∀ sl',Inv (i+1) xs sl' ⟨h5,c5⟩:=by
    intro h5 c5 lx5 s5 hc5 hw5 hf5 hr5 sl'
    rw [hInv]
    refine ⟨s5,lx5,num1+cZ X,hw5,hfp4.trans hf5 (by omega),fun k hk=>?_,?_,by show c0<c5; omega,?_⟩
    ·rcases hf5.rows k hk with hk | hk
     ·exact i3 k hk
     ·exact .inr (by omega)
    ·exact (hf5.same c0 (by omega) (by omega) hc0r).trans hbe
    ·rw [i6]; simp only [aS,hr5,if_true]
   have hfail:∀ h5 c5 lx5 f s5,c3≤c5→f≠0→WInv h5 c5 gw A S lx5 f s5→WFp c3 gw lx1 lx5 h4 h5→bF num1 e (way++[(i:Int)]) X s1=(f,s5) →
     ¬(aS num e way 0 l s).1=0∧∃ lx',WInv h5 c5 gw A S lx' (aS num e way 0 l s).1 (aS num e way 0 l s).2∧WFp c0 gw lx lx' h0 h5:=by
    intro h5 c5 lx5 f s5 hc5 hf0 hw5 hf5 hr5
    have hr:aS num e way 0 l s=(f,s5):=by rw [i6]; simp [aS,hr5,hf0]
    rw [hr]
    exact ⟨hf0,lx5,hw5,hfp4.trans hf5 (by omega)⟩
   rw [hX] at hxok
   by_cases k2:kind=2
   ·subst k2
    have hok2:(∀ f∈conds,OkForm f)∧cT A (e.map (·.1)) body:=by
     simp only [eh] at hxok
     rcases hxok with hx | hx | hx
     ·exact absurd hx.1 (by decide)
     ·exact hx.2
     ·exact absurd hx.1 (by decide)
    have hrun:bF num1 e (way++[(i:Int)]) X s1=if conds.all (fun f=>decide (0≤aG (aw e) f))=true then aS num1 e (way++[(i:Int)]) 0 body s1 else (0,s1):=by rw [hX]; simp [bF]
    simp [hbox]
    have hcl:m8 Fn109.n [] [.ptr c0 0 0] Wb.Form.av h4 c3 (fun f=>decide (aG (aw e) f<0)) conds:=fun f hf c' hc'=>tJ f (hok2.1 f hf) e he ge c0 h4 c' hbe (by omega) hge4 (by omega)
    refine ACalls.at (tO conds _ _ _ _ h4 c3 hcl) fun c4 hc4=>?_
    by_cases hall:conds.all (fun f=>decide (0≤aG (aw e) f))=true
    ·have hany:conds.any (fun f=>decide (aG (aw e) f<0))=false:=by
      rw [List.any_eq_false]
      intro f hf
      have:=List.all_eq_true.1 hall f hf
      simp at this ⊢; omega
     rw [if_pos hall] at hrun
     simp [hany,hbox,hbe]
     have hstep:=ih body hbody num1 e (way++[(i:Int)]) s1 lx1 ge h4 c4 hok2.2 he (by omega) (by simp; omega) (hw4.frame (by omega) fun _ _=>rfl) hge4 (by omega) hgg
     refine hstep.mono ?_
     rintro av ⟨h5,c5⟩ hc5 ⟨lx5,rfl,j1,j2⟩
     simp only at hc5 j1 j2
     have j2':WFp c3 gw lx1 lx5 h4 h5:=⟨fun k hk a b=>j2.same k (by omega) a b,fun k hk=>(j2.rows k hk).imp id fun h=>by omega⟩
     by_cases hz:(aS num1 e (way++[(i:Int)]) 0 body s1).1=0
     ·simp [hz,hv,hwi]
      rw [hz] at j1
      exact hcont h5 c5 lx5 _ (by omega) j1 j2' (by rw [hrun]; exact Prod.ext hz rfl) _
     ·simp [hz]
      exact hfail h5 c5 lx5 _ _ (by omega) hz j1 j2' hrun
    ·have hany:conds.any (fun f=>decide (aG (aw e) f<0))=true:=by
      rw [List.any_eq_true]
      have:¬∀ f∈conds,decide (0≤aG (aw e) f)=true:=fun h=>hall (List.all_eq_true.2 h)
      refine Classical.byContradiction fun h=>this fun f hf=>?_
      refine Classical.byContradiction fun h2=>h ⟨f,hf,?_⟩
      simp at h2 ⊢; omega
     rw [if_neg hall] at hrun
     simp [hany,hv,hwi]
     exact hcont h4 c4 lx1 s1 (by omega) (hw4.frame (by omega) fun _ _=>rfl) WFp.refl hrun _
   by_cases k1:kind=1
   ·subst k1
    have hok1:inL name (e.map (·.1))=false∧low≠[]∧high≠[]∧(∀ b∈low,cA b)∧(∀ b∈high,cA b)∧cT A (e.map (·.1)++[name]) body:=by
     simp only [eh] at hxok
     rcases hxok with hx | hx | hx
     ·exact hx.2
     ·exact absurd hx.1 (by decide)
     ·exact absurd hx.1 (by decide)
    obtain ⟨hnm,hl0,hh0,hlb,hhb,hbd⟩:=hok1
    have hends:=tS (.mk 1 name low high conds body array subs (.mk op n form ea es args)) low high ⟨_,_,_,_,_,_,_,rfl⟩ hlb hhb hl0 hh0 e he ge h4 c3 hge4 (by omega)
    rw [Step.av_mk] at hends
    simp [hbox,hbe]
    refine ACalls.at hends fun c4 hc4=>?_
    have hlo:=mt (cw he) hlb
    have hhi:=lG (cw he) hhb
    obtain ⟨lo,hlo'⟩:∃ lo,lo=eF (aw e) low:=⟨_,rfl⟩
    obtain ⟨hi',hhi'⟩:∃ hi',hi'=eI (aw e) high:=⟨_,rfl⟩
    obtain ⟨F,hF⟩:∃ F:Int→RS→Int×RS,F=fun v s=>aS num1 (e++[(name,v)]) (way++[(i:Int)]) 0 body s:=⟨_,rfl⟩
    have hrun:bF num1 e (way++[(i:Int)]) X s1=cm F (hi'-lo+1).toNat lo s1:=by rw [hX,hlo',hhi',hF]; simp [bF]
    rw [←hlo'] at hlo
    rw [←hhi'] at hhi
    simp [←hlo',←hhi']
    have hcr:¬an lx1 c:=fun hr=>by have:=(i1.row c hr).1; omega
    obtain ⟨Inv2,hInv2⟩:∃ Inv:Nat→Slots→St→Prop,Inv=fun (m:Nat) sl s'=>∃ (v:Int) (s2:RS) (lx2:AV),sl 16=.int v∧m=(hi'-v+1).toNat ∧ -12001000000≤v∧v≤12001000001∧WInv s'.h s'.c gw A S lx2 0 s2∧WFp c3 gw lx1 lx2 h4 s'.h∧c3≤s'.c∧bF num1 e (way++[(i:Int)]) X s1=cm F m v s2:=⟨_,rfl⟩
    refine cD Fn65.W1 (by rfl) Inv2 (hi'-lo+1).toNat ?_ ?_
    ·rw [hInv2]
     exact ⟨lo,s1,lx1,by simp,rfl,by omega,by omega,hw4.frame (by show c3≤c4; omega) fun _ _=>rfl,WFp.refl,by show c3≤c4; omega,hrun⟩
    ·intro m v' s' hI
     rw [hInv2] at hI
     obtain ⟨vv,s2,lx2,q1,q2,q3,q4,q5,q6,q7,q8⟩:=hI
     obtain ⟨h5,c5⟩:=s'
     simp at q1
     simp only at q5 q6 q7
     have hbe5:h5 c0=some (.row 1 [[.map ge]] .live none):=(q6.same c0 (by omega) (by omega) hc0r).trans hbe
     have hbox5:=(q6.same c (by omega) (by omega) hcr).trans hbox
     by_cases hle:vv≤hi'
     case neg=>
      have hm0:m=0:=by omega
      subst hm0
      simp [q1,hle,hv,hwi]
      exact hcont h5 c5 lx2 s2 q7 q5 q6 q8 _
     obtain ⟨m',rfl⟩:∃ m',m=m'+1:=⟨m-1,by omega⟩
     have hat5:=q5.at_
     unfold dw at hat5
     have hrd:=q5.rounds
     simp [q1,hle]
     refine ACalls.pure (ca _ _ _) fun c6 hc6=>?_
     by_cases hin:-1000000≤vv∧vv≤1000000
     case neg=>
      simp [hin,hat5]
      refine hfail _ c6 lx2 1 s2 (by omega) (by decide) ((q5.set s2.rounds 1 ⟨hrd.1,hrd.2.1,fun h=>by cases h⟩).frame hc6 fun _ _=>rfl) q6.self ?_
      rw [q8]; simp only [cm]; rw [if_pos hin]
     have hw1:=ae (x:=s2.rounds+1) (by omega) (by omega)
     simp [hin,hat5,hw1]
     have hrd3:=hrd.2.2 rfl
     have hgc0:¬c0=gw:=by omega
     by_cases hr2:200000<s2.rounds+1
     ·simp [hr2]
      refine hfail _ c6 lx2 12 ⟨s2.rounds+1,s2.l⟩ (by omega) (by decide) ((q5.set (s2.rounds+1) 12 ⟨by omega,by omega,fun h=>by cases h⟩).frame hc6 fun _ _=>rfl) q6.self ?_
      rw [q8]; simp only [cm]; rw [if_neg (not_not_intro hin),if_pos hr2]
     simp [hr2,hbe5,hgc0]
     obtain ⟨h6,hh6⟩:∃ h6,h6=upd h5 gw (some (.row 6 [[.sl (A.map Array.cells) false,.sl (S.map Step.cells) false,.int (s2.rounds+1),lx2,.bool (s2.l.any fun i=>!i.ok A),.int 0]] .live none)):=⟨_,rfl⟩
     have hw6:WInv h6 c6 gw A S lx2 0 ⟨s2.rounds+1,s2.l⟩:=by rw [hh6]; exact (q5.set (s2.rounds+1) 0 ⟨by omega,by omega,fun _=>by omega⟩).frame hc6 fun _ _=>rfl
     have hf6:WFp c3 gw lx1 lx2 h4 h6:=by rw [hh6]; exact q6.self
     have hgel:¬an lx1 ge:=fun hr=>by
      obtain ⟨es',h1',_⟩:=hw4.uses
      obtain ⟨ver,hge4⟩:=hge4
      rcases h1' with ⟨e1,_⟩ | ⟨g',e1,e2⟩
      ·rw [e1] at hr; exact aJ hr
      ·rw [e1] at hr; have:=aq.1 hr; subst this; rw [hge4] at e2; cases e2
     obtain ⟨ver,hgev⟩:=hge4
     have hge6:h6 ge=some (.map (kvs AV.str AV.int e) ver):=(hf6.same ge (by omega) hgg hgel).trans hgev
     have hbe6:h6 c0=some (.row 1 [[.map ge]] .live none):=(hf6.same c0 (by omega) (by omega) hc0r).trans hbe
     have hbox6:=(hf6.same c (by omega) (by omega) hcr).trans hbox
     rw [←hh6]
     refine (pp ge _ ver h6 c6 hge6).mono ?_
     rintro av s7 hc7 ⟨rfl,rfl⟩
     have hmu:=kP eJ (f:=AV.int) (g:=c6) (ver:=c6) (m:=e) (s:=⟨upd h6 c6 (some (.map (kvs AV.str AV.int e) c6)),c6+1⟩) af name vv
     rw [tI hnm] at hmu
     have hcc6:¬c=c6:=by omega
     simp [hbox6,hcc6,q1,hmu]
     obtain ⟨h7,hh7⟩:∃ h7,h7=upd h6 c6 (some (.map (kvs AV.str AV.int (e++[(name,vv)])) (c6+1))):=⟨_,rfl⟩
     have hlow7:∀ k,k<c6→h7 k=h6 k:=fun k hk=>by rw [hh7,ad (by omega)]
     rw [←hh7]
     have hlenv:((e.map (·.2)).length:Int)≤1000000:=by simp; omega
     have hbox7:=(hlow7 c (by omega)).trans hbox6
     simp [hbox7,bsI,au,q1]
     refine (qI (e.map (·.2)) h7 (c6+1+1)).mono ?_
     rintro av ⟨h8,c8⟩ hc8 ⟨hF8,hav8⟩
     simp only at hc8 hF8 hav8
     obtain ⟨g9,c9,h9,hap9,hg9,hF9,hg9c⟩:=nO hF8 hav8 vv hlenv
     have hsl9:(aj (e.map (·.2)++[vv])).length=(e.map (·.2)).length+1:=by simp [aj]
     have hfz9:=cY (s:=⟨h9,c9⟩) (z:=1) hg9 hsl9
     obtain ⟨h10,hh10⟩:∃ h10,h10=upd h9 g9 (some (.row 1 (aj (e.map (·.2)++[vv])) .frz none)):=⟨_,rfl⟩
     have hF10:Fr (c6+1+1) h7 h10 c9:=by rw [hh10]; exact hF9.upd hg9c (Nat.le_refl _)
     have hc9:=hF10.c
     have hbox8:=(hF8.h c (by omega)).trans hbox7
     have hbox10:=(hF10.h c (by omega)).trans hbox7
     have hlow10:∀ k,k<c6→h10 k=h6 k:=fun k hk=>(hF10.h k (by omega)).trans (hlow7 k hk)
     rw [List.length_map] at hap9 hfz9
     simp [hbox7,hbox8,q1,bsI,au,hap9,hfz9,-dP,←hh10,hbox10]
     have hen10:cO h10 c6 (e++[(name,vv)]):=⟨_,by rw [hF10.h c6 (by omega),hh7,af]⟩
     have hw10:WInv h10 c9 gw A S lx2 0 ⟨s2.rounds+1,s2.l⟩:=hw6.frame (by omega) hlow10
     have heok:ed (e++[(name,vv)]):=fun p hp=>by
      rcases List.mem_append.1 hp with hp | hp
      ·exact he p hp
      ·simp at hp; subst hp; exact hin
     have hstep:=ih body hbody num1 (e++[(name,vv)]) (way++[(i:Int)]) ⟨s2.rounds+1,s2.l⟩ lx2 c6 h10 c9 (by rw [List.map_append]; exact hbd) heok (by simp; omega) (by simp; omega) hw10 hen10 (by omega) (by omega)
     rw [List.map_append] at hstep
     refine hstep.mono ?_
     rintro av ⟨h11,c11⟩ hc11 ⟨lx11,rfl,j1,j2⟩
     simp only at hc11 j1 j2
     have hFv:F vv ⟨s2.rounds+1,s2.l⟩=aS num1 (e++[(name,vv)]) (way++[(i:Int)]) 0 body ⟨s2.rounds+1,s2.l⟩:=by rw [hF]
     rw [←hFv] at j1 ⊢
     have hf11:WFp c3 gw lx1 lx11 h4 h11:=(hf6.ext hlow10 (by omega)).trans j2 (by omega)
     by_cases hz:(F vv ⟨s2.rounds+1,s2.l⟩).1=0
     ·have hwv:=ae (x:=vv+1) (by omega) (by omega)
      simp [hz,q1,hwv]
      refine ⟨m',by omega,?_⟩
      rw [hInv2]
      rw [hz] at j1
      refine ⟨vv+1,(F vv ⟨s2.rounds+1,s2.l⟩).2,lx11,by simp,by omega,by omega,by omega,j1,hf11,by show c3≤c11; omega,?_⟩
      rw [q8]; simp only [cm]; rw [if_neg (not_not_intro hin),if_neg hr2,if_pos hz]
     ·simp [hz]
      refine hfail h11 c11 lx11 _ (F vv ⟨s2.rounds+1,s2.l⟩).2 (by omega) hz j1 hf11 ?_
      rw [q8]; simp only [cm]; rw [if_neg (not_not_intro hin),if_neg hr2,if_neg hz]
   have hok3:kind=3∧body=[]∧eH A array subs∧cr A (.mk op n form ea es args)∧aR (.mk op n form ea es args)≤4096:=by
    simp only [eh] at hxok
    rcases hxok with hx | hx | hx
    ·exact absurd hx.1 k1
    ·exact absurd hx.1 k2
    ·exact hx
   obtain ⟨rfl,rfl,hsubs,hexpr,hnr⟩:=hok3
   have hat4:=hw4.at_
   have hxc:=hw4.cell
   obtain ⟨us,hu1,hu2,hu3⟩:=hw4.uses
   have hul:=hu1.len ⟨h4,c3⟩
   unfold dw at hat4
   have hrun:bF num1 e (way++[(i:Int)]) X s1=if s1.l.length=50000 then (12,s1) else (0,{ s1 with l:=s1.l++[⟨num1,X,e,way++[(i:Int)]⟩] }):=by rw [hX]; simp [bF]
   simp [hbox,hbe,hat4,hul]
   by_cases hfull:us.length=50000
   ·have hfi:(us.length:Int)=50000:=by omega
    simp [hfi,hat4]
    have hrd:=hw4.rounds
    refine hfail _ c3 lx1 12 s1 (by omega) (by decide) (hw4.set s1.rounds 12 ⟨hrd.1,hrd.2.1,fun h=>by cases h⟩) WFp.refl.self ?_
    rw [hrun,if_pos (by omega)]
   have hfi:¬(us.length:Int)=50000:=by omega
   have hcc3:¬c=c3:=by omega
   have hc03:¬c0=c3:=by omega
   have hgw3:¬gw=c3:=by omega
   simp [hfi,hbox,hbe,aK,hcc3,hc03]
   have hge4':=hge4
   obtain ⟨ver,hgev⟩:=hge4
   have hgel:¬an lx1 ge:=fun hr=>by
    rcases hu1 with ⟨e1,_⟩ | ⟨g',e1,e2⟩
    ·rw [e1] at hr; exact aJ hr
    ·rw [e1] at hr; have:=aq.1 hr; subst this; rw [hgev] at e2; cases e2
   have hre:=fun B=>uf A hA S s1.rounds lx1 hxc 0 gw e he ge _ (.mk op n form ea es args) (Nat.le_refl _) hexpr hnr (s1.l.any fun i=>!i.ok A) (upd h4 c3 B) (c3+1) (by unfold dw; rw [ad hgw3]; exact hat4) (by omega) ⟨ver,by rw [ad (by omega)]; exact hgev⟩ (by omega) hgg
   rw [Expr.av_mk] at hre
   refine (hre _).mono ?_
   rintro av ⟨h5,c5⟩ hc5 ⟨rfl,j1,j2⟩
   simp only at hc5 j1 j2
   have hb5:=(j2 c3 (by omega)).trans af
   have hbox5:h5 c=_:=(j2 c (by omega)).trans ((ad hcc3).trans hbox)
   have hbe5:h5 c0=_:=(j2 c0 (by omega)).trans ((ad hc03).trans hbe)
   obtain ⟨rd,hrd⟩:∃ rd:List (List AV),rd=(cE A (aw e) (.mk op n form ea es args)).1.map Spot.cells:=⟨_,rfl⟩
   obtain ⟨ro,hro⟩:∃ ro:Bool,ro=(cE A (aw e) (.mk op n form ea es args)).2:=⟨_,rfl⟩
   rw [←hro] at j1
   rw [←hrd]
   simp [hb5,hbox5,hbe5,hcc3,hc03]
   obtain ⟨so,hso⟩:∃ so,so=bT A (aw e) array subs:=⟨_,rfl⟩
   have hgwc:gw<c3:=hw4.gc
   have hsp:=fun B=>pX A hA S s1.rounds lx1 ((s1.l.any fun i=>!i.ok A)||!ro) 0 gw array subs hsubs e he ge (upd h5 c3 B) c5 (by unfold dw; rw [ad hgw3]; exact j1) (by omega) ⟨ver,by rw [ad (by omega),j2 ge hgg,ad (by omega)]; exact hgev⟩ (by omega)
   rw [←hso] at hsp
   refine ACalls.at (hsp _) fun c6 hc6=>?_
   unfold dw at j1
   have h36:¬c3=c6:=by omega
   have h63:¬c6=c3:=by omega
   have hgw6:¬gw=c6:=by omega
   have h6gw:¬c6=gw:=by omega
   have h3gw:¬c3=gw:=by omega
   have hxl:RowAt h5 22 lx1 us:=hu1.frame fun k hk=>by rw [j2 k (hw4.row k hk).2,ad (by have:=(hw4.row k hk).1; omega)]
   have huok:∀ y∈us,az 22 y=true:=fun y hy=>by
    obtain ⟨k,hk,rfl⟩:=List.getElem_of_mem hy
    obtain ⟨gy,_,_,hy⟩:=hu3 k _ s1.l[k] (List.getElem?_eq_getElem hk) (List.getElem?_eq_getElem (by omega))
    rw [hy]
    obtain ⟨nu,st,en,wa⟩:=s1.l[k]
    obtain ⟨_,_,_,_,_,_,_,_,⟨_,_,_,_,_,_⟩⟩:=st
    rfl
   obtain ⟨uc,huc⟩:∃ uc:List AV,uc=[.str name,row (aj (e.map (·.2))),.int 3,.str name,row (low.map Bound.cells),row (high.map Bound.cells),row (conds.map Form.cells),row [],.str array,row (subs.map Form.cells),.int op,.int n,.int form.const,row (form.terms.map Term.cells),.str ea,row (es.map Form.cells),row (args.map Expr.cells),.map ge,row rd,.str so.1.array,.int so.1.cell,.sl (aj (way++[(i:Int)])) false]:=⟨_,rfl⟩
   have huc1:az 22 uc=true:=by rw [huc]; rfl
   obtain ⟨inst,hinst⟩:∃ inst:Inst,inst=⟨num1,X,e,way++[(i:Int)]⟩:=⟨_,rfl⟩
   have huc2:uc=fu A inst ge:=by
    rw [huc,hinst,hX,hrd,hso]; simp [fu,Step.cells_mk,Step.name,Inst.reads,Inst.sets,Step.expr,Step.array,Step.subs]
   have hio:inst.ok A=(ro&&so.2):=by rw [hinst,hX,hro,hso]; simp [Inst.ok,Step.expr,Step.array,Step.subs]
   have hul5:us.length≤50000:=by have:=hw4.len; omega
   obtain ⟨o,ho⟩:∃ o:Bool,o=((s1.l.any fun i=>!i.ok A)||!ro):=⟨_,rfl⟩
   rw [←ho] at j1
   cases o
   case false=>
    have ho':(s1.l.any fun i=>!i.ok A)=false∧ro=true:=by
     have:=ho.symm
     simp only [Bool.or_eq_false_iff] at this
     exact ⟨this.1,by simpa using this.2⟩
    simp [Spot.cells,hb5,hbox5,hbe5,hcc3,hc03,h36,h63,hgw6,hgw3,h6gw,h3gw,j1]
    rw [←huc]
    obtain ⟨h9,hh9⟩:∃ h9,h9=upd (upd (upd (upd h5 c3 (some (.row 22 [[.str name,row (aj (e.map (·.2))),.int 3,.str name,row (low.map Bound.cells),row (high.map Bound.cells),row (conds.map Form.cells),row [],.str array,row (subs.map Form.cells),.int op,.int n,.int form.const,row (form.terms.map Term.cells),.str ea,row (es.map Form.cells),row (args.map Expr.cells),.map ge,row rd,.str ⟨#[]⟩,.int 0,.sl (aj (way++[(i:Int)])) false]] .live none))) c6 (some (.row 2 [[.str so.1.array,.int so.1.cell]] .live none))) c3 (some (.row 22 [uc] .live none))) gw (some (.row 6 [[row (A.map Array.cells),row (S.map Step.cells),.int s1.rounds,lx1,.bool (!so.2),.int 0]] .live none)):=⟨_,rfl⟩
    rw [←hh9]
    have hgw9:h9 gw=some (.row 6 [[row (A.map Array.cells),row (S.map Step.cells),.int s1.rounds,lx1,.bool (!so.2),.int 0]] .live none):=by rw [hh9,af]
    have hlow9:∀ k,k<c3→k≠gw→h9 k=h4 k:=fun k hk hkg=>by rw [hh9,ad hkg,ad (by omega),ad (by omega),ad (by omega),j2 k hkg,ad (by omega)]
    have hxl9:RowAt h9 22 lx1 us:=hu1.frame fun k hk=>hlow9 k (hw4.row k hk).1 (hw4.row k hk).2
    obtain ⟨h10,hap,hp1,hp2,hp3⟩:=hxl9.push (bytes:=392) (md:=.plain) (c:=c6+1) (e:=uc) (b:=true) (by simp) (by decide) (by decide) (by decide) huc1 huok (by omega) (fun k hk=>by have:=(hw4.row k hk).1; omega)
    have hgwl:¬an lx1 gw:=fun hk=>(hw4.row gw hk).2 rfl
    have hgw10:=(hp3 gw (by omega) hgwl).trans hgw9
    have hbs:=dM (sz:=22) (zs:=[.str ⟨#[]⟩,.nil,.int 0,.str ⟨#[]⟩,.nil,.nil,.nil,.nil,.str ⟨#[]⟩,.nil,.int 0,.int 0,.int 0,.nil,.str ⟨#[]⟩,.nil,.nil,.sc (.map none),.nil,.str ⟨#[]⟩,.int 0,.nil]) (by rfl) (by decide) huc1 ⟨h9,c6+1⟩
    have hgwc6:¬gw=c6+1:=by omega
    simp [hbs,hap,hgw10,hv,hwi]
    refine hcont _ (c6+1+1) (.row (c6+1) 22 0 (us.length+1)) ⟨s1.rounds,s1.l++[inst]⟩ (by omega) ⟨?_,⟨us++[uc],?_,by simp [hu2],fun k y z hy hz=>?_⟩,fun k hk=>?_,by omega,?_,hw4.rounds⟩ ⟨fun k hk hkg hkl=>?_,fun k hk=>?_⟩ ?_ _
    ·unfold dw
     rw [af]
     simp [List.any_append,hio,ho']
    ·exact hp2.frame fun k hk=>by rw [ad]; have:=aq.1 hk; omega
    ·have hfr:∀ gx,gx<c3→gx≠gw→¬an lx1 gx→upd h10 gw (some (.row 6 [[row (A.map Array.cells),row (S.map Step.cells),.int s1.rounds,.row (c6+1) 22 0 (us.length+1),.bool (!so.2),.int 0]] .live none)) gx=h4 gx:=fun gx h1 h2 h3=>by rw [ad h2,hp3 gx (by omega) h3,hlow9 gx h1 h2]
     have hmap:∀ gx en,gx<c3→cO h4 gx en→gx≠gw∧¬an lx1 gx:=fun gx en hgx ⟨vr,hgx2⟩=>by
      refine ⟨fun e=>?_,fun hr=>?_⟩
      ·subst e; rw [hat4] at hgx2; cases hgx2
      ·rcases hu1 with ⟨e1,_⟩ | ⟨g',e1,e2⟩
       ·rw [e1] at hr; exact aJ hr
       ·rw [e1] at hr; have:=aq.1 hr; subst this; rw [hgx2] at e2; cases e2
     by_cases hkl:k<us.length
     ·rw [List.getElem?_append_left hkl] at hy
      rw [List.getElem?_append_left (by omega)] at hz
      obtain ⟨gx,g1,g2,g3⟩:=hu3 k y z hy hz
      obtain ⟨m1,m2⟩:=hmap gx _ g1 g2
      obtain ⟨vr,g2'⟩:=g2
      exact ⟨gx,by omega,⟨vr,(hfr gx g1 m1 m2).trans g2'⟩,g3⟩
     ·have hk2:k=us.length:=by
       have:=(List.getElem?_eq_some_iff.1 hy).1
       simp at this; omega
      subst hk2
      rw [List.getElem?_append_right (Nat.le_refl _),Nat.sub_self] at hy
      rw [hu2,List.getElem?_append_right (Nat.le_refl _),Nat.sub_self] at hz
      simp at hy hz
      subst hy; subst hz
      have hien:inst.env=e:=by rw [hinst]
      refine ⟨ge,by omega,⟨ver,?_⟩,huc2⟩
      rw [hien]
      exact (hfr ge (by omega) hgg hgel).trans hgev
    ·have:=aq.1 hk; omega
    ·have:=hw4.len
     simp; omega
    ·rw [ad hkg,hp3 k (by omega) hkl,hlow9 k hk hkg]
    ·have:=aq.1 hk; exact .inr (by omega)
    ·rw [hrun,if_neg (by omega),hinst]
   case true=>
    have ho':((s1.l.any fun i=>!i.ok A)||!ro)=true:=ho.symm
    simp [Spot.cells,hb5,hbox5,hbe5,hcc3,hc03,h36,h63,hgw6,hgw3,h6gw,h3gw,j1]
    rw [←huc]
    obtain ⟨h9,hh9⟩:∃ h9,h9=upd (upd (upd (upd h5 c3 (some (.row 22 [[.str name,row (aj (e.map (·.2))),.int 3,.str name,row (low.map Bound.cells),row (high.map Bound.cells),row (conds.map Form.cells),row [],.str array,row (subs.map Form.cells),.int op,.int n,.int form.const,row (form.terms.map Term.cells),.str ea,row (es.map Form.cells),row (args.map Expr.cells),.map ge,row rd,.str ⟨#[]⟩,.int 0,.sl (aj (way++[(i:Int)])) false]] .live none))) c6 (some (.row 2 [[.str so.1.array,.int so.1.cell]] .live none))) c3 (some (.row 22 [uc] .live none))) gw (some (.row 6 [[row (A.map Array.cells),row (S.map Step.cells),.int s1.rounds,lx1,.bool true,.int 0]] .live none)):=⟨_,rfl⟩
    rw [←hh9]
    have hgw9:h9 gw=some (.row 6 [[row (A.map Array.cells),row (S.map Step.cells),.int s1.rounds,lx1,.bool true,.int 0]] .live none):=by rw [hh9,af]
    have hlow9:∀ k,k<c3→k≠gw→h9 k=h4 k:=fun k hk hkg=>by rw [hh9,ad hkg,ad (by omega),ad (by omega),ad (by omega),j2 k hkg,ad (by omega)]
    have hxl9:RowAt h9 22 lx1 us:=hu1.frame fun k hk=>hlow9 k (hw4.row k hk).1 (hw4.row k hk).2
    obtain ⟨h10,hap,hp1,hp2,hp3⟩:=hxl9.push (bytes:=392) (md:=.plain) (c:=c6+1) (e:=uc) (b:=true) (by simp) (by decide) (by decide) (by decide) huc1 huok (by omega) (fun k hk=>by have:=(hw4.row k hk).1; omega)
    have hgwl:¬an lx1 gw:=fun hk=>(hw4.row gw hk).2 rfl
    have hgw10:=(hp3 gw (by omega) hgwl).trans hgw9
    have hbs:=dM (sz:=22) (zs:=[.str ⟨#[]⟩,.nil,.int 0,.str ⟨#[]⟩,.nil,.nil,.nil,.nil,.str ⟨#[]⟩,.nil,.int 0,.int 0,.int 0,.nil,.str ⟨#[]⟩,.nil,.nil,.sc (.map none),.nil,.str ⟨#[]⟩,.int 0,.nil]) (by rfl) (by decide) huc1 ⟨h9,c6+1⟩
    have hgwc6:¬gw=c6+1:=by omega
    simp [hbs,hap,hgw10,hv,hwi]
    refine hcont _ (c6+1+1) (.row (c6+1) 22 0 (us.length+1)) ⟨s1.rounds,s1.l++[inst]⟩ (by omega) ⟨?_,⟨us++[uc],?_,by simp [hu2],fun k y z hy hz=>?_⟩,fun k hk=>?_,by omega,?_,hw4.rounds⟩ ⟨fun k hk hkg hkl=>?_,fun k hk=>?_⟩ ?_ _
    ·unfold dw
     rw [af]
     simp [List.any_append,hio,ho']
     simp at ho'
     exact ho'.imp id .inl
    ·exact hp2.frame fun k hk=>by rw [ad]; have:=aq.1 hk; omega
    ·have hfr:∀ gx,gx<c3→gx≠gw→¬an lx1 gx→upd h10 gw (some (.row 6 [[row (A.map Array.cells),row (S.map Step.cells),.int s1.rounds,.row (c6+1) 22 0 (us.length+1),.bool true,.int 0]] .live none)) gx=h4 gx:=fun gx h1 h2 h3=>by rw [ad h2,hp3 gx (by omega) h3,hlow9 gx h1 h2]
     have hmap:∀ gx en,gx<c3→cO h4 gx en→gx≠gw∧¬an lx1 gx:=fun gx en hgx ⟨vr,hgx2⟩=>by
      refine ⟨fun e=>?_,fun hr=>?_⟩
      ·subst e; rw [hat4] at hgx2; cases hgx2
      ·rcases hu1 with ⟨e1,_⟩ | ⟨g',e1,e2⟩
       ·rw [e1] at hr; exact aJ hr
       ·rw [e1] at hr; have:=aq.1 hr; subst this; rw [hgx2] at e2; cases e2
     by_cases hkl:k<us.length
     ·rw [List.getElem?_append_left hkl] at hy
      rw [List.getElem?_append_left (by omega)] at hz
      obtain ⟨gx,g1,g2,g3⟩:=hu3 k y z hy hz
      obtain ⟨m1,m2⟩:=hmap gx _ g1 g2
      obtain ⟨vr,g2'⟩:=g2
      exact ⟨gx,by omega,⟨vr,(hfr gx g1 m1 m2).trans g2'⟩,g3⟩
     ·have hk2:k=us.length:=by
       have:=(List.getElem?_eq_some_iff.1 hy).1
       simp at this; omega
      subst hk2
      rw [List.getElem?_append_right (Nat.le_refl _),Nat.sub_self] at hy
      rw [hu2,List.getElem?_append_right (Nat.le_refl _),Nat.sub_self] at hz
      simp at hy hz
      subst hy; subst hz
      have hien:inst.env=e:=by rw [hinst]
      refine ⟨ge,by omega,⟨ver,?_⟩,huc2⟩
      rw [hien]
      exact (hfr ge (by omega) hgg hgel).trans hgev
    ·have:=aq.1 hk; omega
    ·have:=hw4.len
     simp; omega
    ·rw [ad hkg,hp3 k (by omega) hkl,hlow9 k hk hkg]
    ·have:=aq.1 hk; exact .inr (by omega)
    ·rw [hrun,if_neg (by omega),hinst]
end Go.Proofs.YtocppbmmfklbmaaGreat
set_option maxRecDepth 20000
set_option maxHeartbeats 4000000
namespace Go.Proofs.YtocppbmmfklbmaaGreat
open Go.AM Go.Wb
def isLoop (s:Wb.Step):Bool:=decide (Step.kind s=1)
mutual
def hJ (around:List Wb.Step):Wb.Step→List (Wb.Step×List Wb.Step)
 | .mk kind name low high conds body array subs expr=>(if kind=3 then [(.mk kind name low high conds body array subs expr,around.filter isLoop)] else [])++bw (around++[.mk kind name low high conds body array subs expr]) body
def bw (around:List Wb.Step):List Wb.Step→List (Wb.Step×List Wb.Step)
 | []=>[]
 | s::ss=>hJ around s++bw around ss
end
mutual
theorem jK (around:List Wb.Step):∀ s:Wb.Step,(hJ around s).length=cZ s
 | .mk kind name low high conds body array subs expr=>by
  simp only [hJ,cZ,List.length_append,jM _ body]
  split <;> simp
theorem jM (around:List Wb.Step):∀ l:List Wb.Step,(bw around l).length=fX l
 | []=>rfl
 | s::ss=>by simp only [bw,fX,List.length_append,jK around s,jM around ss]
end
structure InstOk (A:List Wb.Array) (all:List (Wb.Step×List Wb.Step)) (i:Inst):Prop where
 env:ed i.env
 nd:(i.env.map (·.1)).Nodup
 kind:Step.kind i.step=3
 subs:eH A (Step.array i.step) (Step.subs i.step)
 expr:cr A (Step.expr i.step)
 nr:aR (Step.expr i.step)≤4096
 at_:∃ lps:List Wb.Step,all[i.num]?=some (i.step,lps)∧lps.map Step.name=i.env.map (·.1)
theorem rL {x:ByteArray} {l:List ByteArray} (h:inL x l=false):x∉l:=by
 intro hx
 unfold inL at h
 have:=List.any_eq_false.1 h x hx
 simp at this
theorem ma {F:Int→RS→Int×RS} {Q:RS→Prop} (hF:∀ v s,-1000000≤v∧v≤1000000→Q s→Q (F v s).2) (hr:∀ s r,Q s→Q { s with rounds:=r }):∀ (k:Nat) (v:Int) (s:RS),Q s→Q (cm F k v s).2
 | 0,_,_,h=>h
 | k+1,v,s,h=>by
  simp only [cm]
  split
  ·exact h
  ·rename_i hin
   have hin:=Classical.not_not.1 hin
   split
   ·exact hr _ _ h
   ·have h2:=hF v { s with rounds:=s.rounds+1 } hin (hr _ _ h)
    split
    ·exact ma hF hr k (v+1) _ h2
    ·exact h2
theorem qA (A:List Wb.Array) (all:List (Wb.Step×List Wb.Step)):∀ (N:Nat) (l:List Wb.Step),aC l≤N→∀ (num:Nat) (e:Env) (way:List Int) (i:Nat) (s:RS) (around:List Wb.Step),cT A (e.map (·.1)) l→ed e→(e.map (·.1)).Nodup→(around.filter isLoop).map Step.name=e.map (·.1) →
  (∀ (j:Nat) (y:Wb.Step×List Wb.Step),(bw around l)[j]?=some y→all[num+j]?=some y)→(∀ x∈s.l,InstOk A all x)→∀ x∈(aS num e way i l s).2.l,InstOk A all x:=by
 intro N
 induction N with
 | zero=>
  intro l hl
  cases l with
  | nil=>intro num e way i s around _ _ _ _ _ h; exact h
  | cons x xs=>obtain ⟨_,_,_,_,_,body,_,_,_⟩:=x; simp [aC,count] at hl
 | succ N ih=>
  intro l
  induction l with
  | nil=>intro _ num e way i s around _ _ _ _ _ h; exact h
  | cons x xs ihl=>
   intro hl num e way i s around hok he hnd har hall hs
   obtain ⟨hx,hxs⟩:=hok
   have hstep:∀ y∈(bF num e (way++[(i:Int)]) x s).2.l,InstOk A all y:=by
    obtain ⟨kind,name,low,high,conds,body,array,subs,expr⟩:=x
    have hbody:aC body≤N:=by simp [aC,count] at hl; omega
    have hsub:kind≠3→∀ (j:Nat) (y:Wb.Step×List Wb.Step),(bw (around++[.mk kind name low high conds body array subs expr]) body)[j]?=some y→all[num+j]?=some y:=by
     intro hk j y hy
     refine hall j y ?_
     simp only [bw,hJ,if_neg hk,List.nil_append]
     rw [List.getElem?_append_left (List.getElem?_eq_some_iff.1 hy).1]; exact hy
    simp only [eh] at hx
    rcases hx with ⟨hk,hn,_,_,_,_,hb⟩ | ⟨hk,_,hb⟩ | ⟨hk,hb,h1,h2,h3⟩
    ·subst hk
     simp only [bF,if_true]
     refine ma (Q:=fun s=>∀ y∈s.l,InstOk A all y) (fun v s hv hq=>?_) (fun s r h=>h) _ _ _ hs
     refine ih body hbody num (e++[(name,v)]) _ 0 s (around++[.mk 1 name low high conds body array subs expr]) (by rw [List.map_append]; exact hb) ?_ ?_ ?_ (hsub (by decide)) hq
     ·intro p hp
      rcases List.mem_append.1 hp with hp | hp
      ·exact he p hp
      ·simp at hp; subst hp; exact hv
     ·rw [List.map_append,List.nodup_append]
      refine ⟨hnd,by simp,fun a ha b hb=>?_⟩
      simp at hb; subst hb
      intro e; subst e
      exact rL hn ha
     ·rw [List.filter_append,List.map_append,List.map_append,har]
      rfl
    ·subst hk
     simp only [bF,show ¬((2:Int)=1) by decide,if_false,if_true]
     split
     ·refine ih body hbody num e _ 0 s (around++[.mk 2 name low high conds body array subs expr]) hb he hnd ?_ (hsub (by decide)) hs
      rw [List.filter_append,List.map_append,har]
      simp [isLoop,Step.kind]
     ·exact hs
    ·subst hk; subst hb
     simp only [bF,show ¬((3:Int)=1) by decide,show ¬((3:Int)=2) by decide,if_false]
     split
     ·exact hs
     ·intro y hy
      rcases List.mem_append.1 hy with hy | hy
      ·exact hs y hy
      ·simp at hy; subst hy
       refine ⟨he,hnd,rfl,h1,h2,h3,around.filter isLoop,hall 0 _ ?_,har⟩
       simp [bw,hJ]
   simp only [aS]
   split
   ·refine ihl (by simp [aC] at hl; omega) _ e way (i+1) _ around hxs he hnd har (fun j y hy=>?_) hstep
    have:=hall (cZ x+j) y (by
     simp only [bw]
     rw [List.getElem?_append_right (by rw [jK]; omega),jK,Nat.add_sub_cancel_left]; exact hy)
    rw [←Nat.add_assoc] at this
    exact this
   ·exact hstep
theorem dY {p:Wb.Prog} (hp:Right p):∀ x∈(aA p).2.l,InstOk p.arrays (bw [] p.steps) x:=
 qA p.arrays _ _ p.steps (Nat.le_refl _) 0 [] [] 0 ⟨0,[]⟩ [] hp.steps (by intro p hp; simp at hp) (by simp) rfl (fun j y hy=>by rw [Nat.zero_add]; exact hy) (by simp)
def ci (A:List Wb.Array) (l:List Inst):Int:=(l.map fun i=>((i.reads A).length:Int)+1).sum
def cg (A:List Wb.Array) (l:List Inst):Int:=if (l.any fun i=>!i.ok A)=true then 16 else if 200000<ci A l then 2 else 0
def bq (p:Wb.Prog):Int:=if aW p=0 then if (aA p).1=0 then cg p.arrays (aA p).2.l else (aA p).1 else aW p
end Go.Proofs.YtocppbmmfklbmaaGreat
set_option maxRecDepth 20000
set_option maxHeartbeats 4000000
namespace Go.Proofs.YtocppbmmfklbmaaGreat
open Go.AM Go.Wb
theorem sT {A:List Wb.Array} {l:List Inst} {i:Nat} (hi:i<l.length):ci A (l.take (i+1))=ci A (l.take i)+((l[i].reads A).length+1):=by
 unfold ci
 rw [List.take_add_one,List.getElem?_eq_getElem hi,List.map_append,List.sum_append_int]
 simp
theorem sy {A:List Wb.Array} {all:List (Wb.Step×List Wb.Step)} {x:Inst} (h:InstOk A all x):(x.reads A).length≤4096:=by
 unfold Inst.reads; rw [dS]; exact h.nr
structure UsesOut (p:Wb.Prog) (h0:Heap) (c0:Nat) (lx:AV) (h:Heap) (c:Nat):Prop where
 uses:UsesAt h c p.arrays lx (aA p).2.l
 rows:∀ k,an lx k→c0≤k∧k<c
 fr:Fr c0 h0 h c
theorem vW (p:Wb.Prog) (hp:Right p) (hcnt:aC p.steps≤300) (h0:Heap) (c0:Nat):ACalls Pg Fn24.n [p.av] ⟨h0,c0⟩ fun av s'=>
  if (aA p).1=0 then ∃ lx,av=.tup [lx,.int (aA p).2.rounds,.int 0,.int (cg p.arrays (aA p).2.l)]∧UsesOut p h0 c0 lx s'.h s'.c
  else av=.tup [.sl [] true,.int 0,.int (aA p).1,.int (aA p).1]∧Fr c0 h0 s'.h s'.c:=by
 refine Fn24.calls .keep ?_
 unfold Fn24.ac
 simp [Prog.av,aK]
 have h1:¬c0=c0+1:=by omega
 have h2:¬c0=c0+2:=by omega
 have h3:¬c0+1=c0+2:=by omega
 obtain ⟨h2',hh2⟩:∃ h2',h2'=upd (upd (upd h0 c0 (some (.row 2 [[row (p.arrays.map Array.cells),row (p.steps.map Step.cells)]] .live none))) (c0+1) (some (.row 6 [[row (p.arrays.map Array.cells),row (p.steps.map Step.cells),.int 0,.nil,.bool false,.int 0]] .live none))) (c0+1+1) (some (.map [] (c0+1+1))):=⟨_,rfl⟩
 have hfr2:Fr c0 h0 h2' (c0+1+1+1):=by rw [hh2]; exact ((((Fr.refl h0 c0).upd (Nat.le_refl _) (Nat.le_succ _)).upd (by omega) (Nat.le_succ _)).upd (by omega) (Nat.le_succ _))
 rw [←hh2]
 have hw:WInv h2' (c0+1+1+1) (c0+1) p.arrays p.steps (.sl [] true) 0 ⟨0,[]⟩:=by
  refine ⟨?_,⟨[],.inl ⟨rfl,rfl⟩,rfl,fun k e i he=>by simp at he⟩,fun k hk=>absurd hk aJ,by omega,by simp,by simp⟩
  unfold dw
  rw [hh2,ad (by omega),af]; rfl
 have hen:cO h2' (c0+1+1) []:=⟨c0+1+1,by rw [hh2,af]; rfl⟩
 have hst:=vY p.arrays hp.arrays p.steps (c0+1) (aC p.steps) p.steps (Nat.le_refl _) 0 [] [] ⟨0,[]⟩ (.sl [] true) (c0+1+1) h2' (c0+1+1+1) hp.steps (by intro p hp; simp at hp) (by simp; omega) (by simp; omega) hw hen (by omega) (by omega)
 refine hst.mono ?_
 rintro av ⟨h5,c5⟩ hc5 ⟨lx,rfl,j1,j2⟩
 simp only at hc5 j1 j2
 have hrp:aS 0 [] [] 0 p.steps ⟨0,[]⟩=aA p:=rfl
 rw [hrp] at j1 ⊢
 have hat:=j1.at_
 unfold dw at hat
 have hfr5:Fr c0 h0 h5 c5:=⟨by omega,fun k hk=>by rw [j2.same k (by omega) (by omega) aJ]; exact hfr2.h k hk⟩
 by_cases hz:(aA p).1=0
 case neg=>
  simp [hz,hat]
  exact hfr5
 have hinv:=dY hp
 obtain ⟨us,hu1,hu2,hu3⟩:=j1.uses
 have hul:=hu1.len ⟨h5,c5⟩
 have hl5:=j1.len
 have hxc:=j1.cell
 simp [hz,hat,hul]
 have hrows:∀ k,an lx k→c0≤k∧k<c5∧k≠c0+1:=fun k hk=>⟨by
  rcases j2.rows k hk with h | h
  ·exact absurd h aJ
  ·omega,(j1.row k hk)⟩
 obtain ⟨Inv,hInv⟩:∃ Inv:Nat→List (List AV)→Slots→St→Prop,Inv=fun i r sl s'=>sl 7=.int (ci p.arrays ((aA p).2.l.take i))∧0≤ci p.arrays ((aA p).2.l.take i)∧ci p.arrays ((aA p).2.l.take i)≤4097*i:=⟨_,rfl⟩
 refine bh 32 Fn24.W0 us Inv (by rfl) (by rfl) ?_ ?_ ?_
 ·rw [hInv]; exact ⟨by simp,by simp [ci],by simp [ci],by simp [ci]⟩
 ·intro v h c hv hF hI
  rw [hInv] at hI
  obtain ⟨h7,i1,i2⟩:=hI
  simp at h7
  have hcc:=hF.c
  have htk:(aA p).2.l.take us.length=(aA p).2.l:=by rw [hu2,List.take_length]
  rw [htk] at h7 i1 i2
  have hat':=(hF.h (c0+1) (by omega)).trans hat
  have hout:UsesOut p h0 c0 lx h c:=by
   refine ⟨⟨us,hu1.frame fun k hk=>hF.h k (hrows k hk).2.1,hu2,fun k e i he hi=>?_⟩,fun k hk=>⟨(hrows k hk).1,by have:=hrows k hk; omega⟩,hfr5.trans hF⟩
   obtain ⟨ge,g1,⟨vr,g2⟩,g3⟩:=hu3 k e i he hi
   exact ⟨ge,by omega,⟨vr,(hF.h ge g1).trans g2⟩,g3⟩
  cases hany:(aA p).2.l.any fun i=>!i.ok p.arrays
  ·rw [hany] at hat'
   by_cases hm:200000<ci p.arrays (aA p).2.l
   ·simp [hv,h7,hat',hm,cg,hany]
    exact hout
   ·simp [hv,h7,hat',hm,cg,hany]
    exact hout
  ·rw [hany] at hat'
   simp [hv,h7,hat',cg,hany]
   exact hout
 ·intro i x xs v h c hi hx hl hv hF hI
  rw [hInv] at hI
  obtain ⟨h7,i1,i2⟩:=hI
  simp at h7
  have hcc:=hF.c
  have hw:=ae (x:=(i:Int)+1) (by omega) (by omega)
  have hil:i<(aA p).2.l.length:=by omega
  rcases hu1 with ⟨_,e1⟩ | ⟨gl,e1,e2⟩
  ·rw [e1] at hi; simp at hi
  have hgl:=(hrows gl (by rw [e1]; exact aq.2 rfl)).2.1
  have hgx:=(hF.h gl hgl).trans e2
  obtain ⟨ge,_,_,hxe⟩:=hu3 i us[i] (aA p).2.l[i] (List.getElem?_eq_getElem hi) (List.getElem?_eq_getElem hil)
  have hge:us[i]=fu p.arrays (aA p).2.l[i] ge:=hxe
  have hio:=hinv _ (List.getElem_mem hil)
  have hrl:=sy hio
  have hmt:=sT (A:=p.arrays) hil
  have hw1:=ae (x:=(((aA p).2.l[i].reads p.arrays).length:Int)+1) (by omega) (by omega)
  have hw2:=ae (x:=ci p.arrays ((aA p).2.l.take i)+((((aA p).2.l[i].reads p.arrays).length:Int)+1)) (by omega) (by omega)
  obtain ⟨inst,hinst⟩:∃ inst,inst=(aA p).2.l[i]:=⟨_,rfl⟩
  rw [←hinst] at hge hw1 hw2 hmt hrl
  obtain ⟨inum,⟨ik,inm,ilo,ihi,ico,ibo,iar,isu,⟨xo,xn,xf,xa,xs',xg⟩⟩,ien,iwa⟩:=inst
  rw [fu,Step.cells_mk] at hge
  simp [hv,hi,e1,hgx,hge,h7,hw,hw1,hw2]
  refine ⟨hF.upd hcc (Nat.le_succ _),?_⟩
  rw [hInv]
  refine ⟨?_,?_,?_⟩
  ·rw [hmt]; simp
  ·rw [hmt]; omega
  ·rw [hmt]; omega
theorem wF (p:Wb.Prog) (hcnt:aC p.steps≤300) (h0:Heap) (c0:Nat):ACalls Pg Fn8.n [p.av] ⟨h0,c0⟩ fun av s'=>
  ∃ lx,av=.tup [lx,.int (bq p)]∧Fr c0 h0 s'.h s'.c∧(∀ k,an lx k→c0≤k∧k<s'.c)∧if bq p=0 then UsesAt s'.h s'.c p.arrays lx (aA p).2.l else lx=.sl [] true:=by
 refine Fn8.calls .keep ?_
 unfold Fn8.ac
 simp [Prog.av]
 have hpf:=s8 p (by omega)
 have hus:=vW p
 rw [Prog.av] at hpf hus
 refine ACalls.pure hpf fun c1 hc1=>?_
 have hfr:Fr c0 h0 (upd h0 c0 (some (.row 2 [[row (p.arrays.map Array.cells),row (p.steps.map Step.cells)]] .live none))) c1:=(Fr.refl h0 c0).upd (Nat.le_refl _) (by omega)
 by_cases hz:aW p=0
 case neg=>
  simp [hz,bq]
  exact ⟨hfr,fun k hk=>absurd hk aJ⟩
 simp [hz]
 refine (hus (fy hz) hcnt _ c1).mono ?_
 rintro av ⟨h2,c2⟩ hc2 hR
 simp only at hc2 hR
 by_cases hz2:(aA p).1=0
 case neg=>
  rw [if_neg hz2] at hR
  obtain ⟨rfl,hF⟩:=hR
  simp [hz,hz2,bq]
  exact ⟨hfr.trans hF,fun k hk=>absurd hk aJ⟩
 rw [if_pos hz2] at hR
 obtain ⟨lx,rfl,hO⟩:=hR
 have hrw:∀ k,an lx k→c0≤k∧k<c2:=fun k hk=>by have:=hO.rows k hk; omega
 by_cases hz3:cg p.arrays (aA p).2.l=0
 ·simp [hz,hz2,hz3,bq]
  exact ⟨hfr.trans hO.fr,hrw,hO.uses⟩
 ·simp [hz,hz2,hz3,bq]
  exact ⟨hfr.trans hO.fr,fun k hk=>absurd hk aJ⟩
end Go.Proofs.YtocppbmmfklbmaaGreat
set_option maxRecDepth 20000
set_option maxHeartbeats 4000000
namespace Go.Proofs.YtocppbmmfklbmaaGreat
open Go.AM Go.Wb
def SaysI (f:Nat) (a b:List AV) (h0:Heap) (c0:Nat) (φ:ByteArray→Int):Prop:=∀ x h c,Fr c0 h0 h c→ACalls Pg f (a++.str x::b) ⟨h,c⟩ fun r s'=>r=.int (φ x)∧s'.h=h
theorem SaysI.more {f:Nat} {a b:List AV} {h0 h1:Heap} {c0 c1:Nat} {φ:ByteArray→Int} (s:SaysI f a b h0 c0 φ) (hF:Fr c0 h0 h1 c1):SaysI f a b h1 c1 φ:=fun x h c h1=>s x h c (hF.trans h1)
theorem pS (f:Wb.Form) (hf:OkForm f) (fn:Nat) (a b:List AV) (φ:ByteArray→Int) (hφ:∀ n,-1000000≤φ n∧φ n≤1000000) (h0:Heap) (c0:Nat) (hs:SaysI fn a b h0 c0 φ) :
  ACalls Pg Fn186.n [f.av,.fn (.func fn) a b] ⟨h0,c0⟩ fun av s'=>av=.int (aG φ f)∧s'.h=h0:=by
 refine Fn186.calls .frz ?_
 unfold Fn186.ac
 have hlen:=hf.len
 simp [Form.av,Form.cells]
 obtain ⟨Inv,hInv⟩:∃ Inv:Nat→List Wb.Term→Slots→St→Prop,Inv=fun (i:Nat) r sl s'=>∃ n:Int,sl 5=.int n∧d5 φ r n=aG φ f ∧ -(1000000+(i:Int)*1000000000)≤n∧n≤1000000+(i:Int)*1000000000:=⟨_,rfl⟩
 refine bh 13 Fn186.W0 f.terms Inv (by rfl) (by rfl) ?_ ?_ ?_
 ·rw [hInv]
  exact ⟨by simp,f.const,by simp,rfl,by have:=hf.const; omega,by have:=hf.const; omega⟩
 ·intro v h c hv hF hI
  rw [hInv] at hI
  obtain ⟨n,h5,hI,_⟩:=hI
  simp at h5
  simp [hv,h5]
  refine ⟨by simpa [d5] using hI,?_⟩
  exact aE fun k hk=>by rw [hF.h k (by omega),ad (by omega)]
 ·intro i t ts v h c hi hx hl hv hF hI
  rw [hInv] at hI
  obtain ⟨n,h5,hI,hn1,hn2⟩:=hI
  simp at h5
  have hw:=ae (x:=(i:Int)+1) (by omega) (by omega)
  have hcc:=hF.c
  have hm:=lD (hf.coef t (aM hl)) (hφ t.name)
  have hw1:=ae (x:=t.coef*φ t.name) (by omega) (by omega)
  have hw2:=ae (x:=n+t.coef*φ t.name) (by omega) (by omega)
  have hfr:Fr c0 h0 (upd h c (some (.row 2 [[.str t.name,.int t.coef]] .live none))) (c+1):=⟨by omega,fun k hk=>by rw [ad (by omega),hF.h k (by omega),ad (by omega)]⟩
  simp [hv,hi,hx,Term.cells,h5]
  refine ACalls.at (hs t.name _ _ hfr) fun c2 hc2=>?_
  simp [hw1,hw2,hw,h5,hv]
  refine ⟨hF.upd hcc (by omega),?_⟩
  rw [hInv]
  exact ⟨n+t.coef*φ t.name,by simp,hI,by push_cast; omega,by push_cast; omega⟩
theorem _root_.Go.AM.RowPre.at {h:Heap} {sz:Nat} {x:AV} {es:List (List AV)} (r:RowPre h sz x es) {i:Nat} (hi:i<es.length):∃ g all,x=.row g sz 0 es.length∧h g=some (.row sz all .live none)∧all[i]?=es[i]?:=by
 rcases r with ⟨_,rfl⟩ | ⟨g,full,rfl,hg⟩
 ·simp at hi
 ·exact ⟨g,es++full,rfl,hg,by rw [List.getElem?_append_left hi]⟩
structure NowAt (h:Heap) (c gr:Nat) (e:Env) (go:Nat) (nx:Int) (names now:AV):Prop where
 at_:h gr=some (.row 4 [[.ptr go 0 0,.int nx,names,now]] .live none)
 hnames:RowPre h 1 names (aB (e.map (·.1)))
 hnow:RowPre h 1 now (aj (e.map (·.2)))
 gr:gr<c
 nb:∀ k,an names k→k<c
 wb:∀ k,an now k→k<c
theorem NowAt.fr {h h':Heap} {c c' gr:Nat} {e:Env} {go:Nat} {nx:Int} {names now:AV} (n:NowAt h c gr e go nx names now) (hF:Fr c h h' c'):NowAt h' c' gr e go nx names now:=
 ⟨(hF.h gr n.gr).trans n.at_,n.hnames.frame fun k hk=>hF.h k (n.nb k hk),n.hnow.frame fun k hk=>hF.h k (n.wb k hk),by have:=n.gr; have:=hF.c; omega,fun k hk=>by have:=n.nb k hk; have:=hF.c; omega,fun k hk=>by have:=n.wb k hk; have:=hF.c; omega⟩
theorem rE:∀ {e:Env},(e.map (·.1)).Nodup→∀ {i:Nat} {x:ByteArray} {v:Int},e[i]?=some (x,v)→bL e x=some v
 | [],_,i,x,v,h=>by simp at h
 | p::e,hn,0,x,v,h=>by
  simp at h; subst h
  simp [bL]
 | p::e,hn,i+1,x,v,h=>by
  simp only [List.map_cons,List.nodup_cons] at hn
  have h':e[i]?=some (x,v):=by simpa using h
  have hx:x∈e.map (·.1):=List.mem_map.2 ⟨(x,v),List.mem_of_getElem? h',rfl⟩
  simp only [bL]
  rw [if_neg (show ¬x=p.1 from fun e2=>hn.1 (e2▸hx))]
  exact rE hn.2 h'
theorem pO:∀ {e:Env} {x:ByteArray},(∀ (i:Nat) (p:ByteArray×Int),e[i]?=some p→p.1≠x)→bL e x=none
 | [],_,_=>rfl
 | p::e,x,h=>by
  simp only [bL]
  rw [if_neg fun e2=>h 0 p rfl e2.symm]
  exact pO fun i q hq=>h (i+1) q (by simpa using hq)
theorem tv (e:Env) (hn:(e.map (·.1)).Nodup) (hlen:e.length≤100000) (x:ByteArray) (gr go:Nat) (nx:Int) (names now:AV) (h0:Heap) (c0:Nat) (hr:NowAt h0 c0 gr e go nx names now) :
  ACalls Pg Fn214.n [.ptr gr 0 0,.str x] ⟨h0,c0⟩ fun av s'=>av=.int (aw e x)∧s'.h=h0:=by
 obtain ⟨r1,r2,r3,r4,r5,r6⟩:=hr
 refine Fn214.calls .frz ?_
 unfold Fn214.ac
 have hl:=r2.len ⟨h0,c0⟩
 have hsl:(aB (e.map (·.1))).length=e.length:=by simp [aB]
 rw [hsl] at hl
 have hw:=ae (x:=(e.length:Int)-1) (by omega) (by omega)
 simp [r1,hl,hw]
 obtain ⟨Inv,hInv⟩:∃ Inv:Nat→Slots→St→Prop,Inv=fun (m:Nat) sl s'=>sl 5=.int ((m:Int)-1)∧m≤e.length∧s'=⟨h0,c0⟩∧∀ (i:Nat) (p:ByteArray×Int),m≤i→e[i]?=some p→p.1≠x:=⟨_,rfl⟩
 refine cD Fn214.W0 (by rfl) Inv e.length ?_ ?_
 ·rw [hInv]
  exact ⟨by simp,Nat.le_refl _,rfl,fun i p hi hp=>by have:=(List.getElem?_eq_some_iff.1 hp).1; omega⟩
 ·intro m v s' hI
  rw [hInv] at hI
  obtain ⟨h5,hm,rfl,hno⟩:=hI
  simp at h5
  cases m with
  | zero=>
   simp [h5,aw,pO fun i p hp=>hno i p (Nat.zero_le _) hp]
  | succ m=>
   have hm':m<e.length:=by omega
   have hz:((m+1:Nat):Int)-1=m:=by omega
   rw [hz] at h5
   have hms:m<(aB (e.map (·.1))).length:=by rw [hsl]; exact hm'
   have hmi:m<(aj (e.map (·.2))).length:=by simp [aj]; exact hm'
   obtain ⟨g1,all1,n1,n2,n3⟩:=r2.at hms
   obtain ⟨g2,all2,m1,m2,m3⟩:=r3.at hmi
   rw [hsl] at n1
   have hil:(aj (e.map (·.2))).length=e.length:=by simp [aj]
   rw [hil] at m1
   have hn3:all1[m]?=some [.str e[m].1]:=by rw [n3]; simp [aB,hm']
   have hm3:all2[m]?=some [.int e[m].2]:=by rw [m3]; simp [aj,hm']
   have hw2:=ae (x:=(m:Int)-1) (by omega) (by omega)
   simp [h5,r1,n1,hm',n2,hn3]
   by_cases hx:e[m].1=x
   ·simp [hx,h5,r1,m1,hm',m2,hm3]
    have:=rE hn (i:=m) (x:=x) (v:=e[m].2) (by rw [List.getElem?_eq_getElem hm',←hx])
    simp [aw,this]
   ·simp [hx,h5,hw2]
    refine ⟨m,by omega,?_⟩
    rw [hInv]
    refine ⟨by simp,by omega,rfl,fun i p hi hp=>?_⟩
    by_cases him:i=m
    ·subst him
     rw [List.getElem?_eq_getElem hm'] at hp
     injection hp with hp; rw [←hp]; exact hx
    ·exact hno i p (by omega) hp
theorem vm (e:Env) (hn:(e.map (·.1)).Nodup) (hlen:e.length≤100000) (gr go:Nat) (nx:Int) (names now:AV) (h0:Heap) (c0:Nat) (hr:NowAt h0 c0 gr e go nx names now):SaysI Fn214.n [.ptr gr 0 0] [] h0 c0 (aw e):=
 fun x h c hF=>tv e hn hlen x gr go nx names now h c (hr.fr hF)
theorem pI (f:Wb.Form) (hf:OkForm f) (e:Env) (he:ed e) (hn:(e.map (·.1)).Nodup) (hlen:e.length≤100000) (gr go:Nat) (nx:Int) (names now:AV) (h0:Heap) (c0:Nat) (hr:NowAt h0 c0 gr e go nx names now) :
  ACalls Pg Fn196.n [.ptr gr 0 0,f.av] ⟨h0,c0⟩ fun av s'=>av=.int (aG (aw e) f)∧s'.h=h0:=by
 refine Fn196.calls .frz ?_
 unfold Fn196.ac
 simp [Form.av,Form.cells]
 have hF:Fr c0 h0 (upd h0 c0 (some (.row 2 [[.int f.const,row (f.terms.map Term.cells)]] .live none))) (c0+1):=(Fr.refl h0 c0).upd (Nat.le_refl _) (Nat.le_succ _)
 refine ACalls.at (pS f hf Fn214.n [.ptr gr 0 0] [] (aw e) (cw he) _ (c0+1) (vm e hn hlen gr go nx names now _ _ (hr.fr hF))) fun c2 hc2=>?_
 simp
theorem uJ (l:List Wb.Form) (hl:∀ f∈l,OkForm f) (e:Env) (he:ed e) (hn:(e.map (·.1)).Nodup) (hlen:e.length≤100000) (gr go:Nat) (nx:Int) (names now:AV) (h0:Heap) (c0:Nat) (hr:NowAt h0 c0 gr e go nx names now) :
  ACalls Pg Fn164.n [.ptr gr 0 0,row (l.map Form.cells)] ⟨h0,c0⟩ fun av s'=>av=.bool (l.all fun f=>decide (0≤aG (aw e) f))∧s'.h=h0:=by
 refine ACalls.small fun hsm=>?_
 have hll:l.length≤68719476736:=by simp at hsm; omega
 refine Fn164.calls .frz ?_
 unfold Fn164.ac
 simp
 obtain ⟨Inv,hInv⟩:∃ Inv:Nat→List Wb.Form→Slots→St→Prop,Inv=fun i r sl s'=>(l.all fun f=>decide (0≤aG (aw e) f))=(r.all fun f=>decide (0≤aG (aw e) f)):=⟨_,rfl⟩
 refine bh 9 Fn164.W0 l Inv (by rfl) (by rfl) ?_ ?_ ?_
 ·rw [hInv]; exact ⟨by simp,rfl⟩
 ·intro v h c hv hF hI
  rw [hInv] at hI
  rw [hI]
  simp [hv]
  exact hF.retH
 ·intro i f fs v h c hi hx hl2 hv hF hI
  rw [hInv] at hI
  have hw:=ae (x:=(i:Int)+1) (by omega) (by omega)
  have hcc:=hF.c
  have hF2:Fr c0 h0 (upd h c (some (.row 2 [[.int f.const,row (f.terms.map Term.cells)]] .live none))) (c+1):=hF.upd hcc (Nat.le_succ _)
  have hva:=pI f (hl f (aM hl2)) e he hn hlen gr go nx names now _ _ (hr.fr hF2)
  rw [Form.av,Form.cells] at hva
  rw [hI]
  simp [hv,hi,hx,Form.cells]
  refine ACalls.at hva fun c2 hc2=>?_
  by_cases hneg:aG (aw e) f<0
  ·have:¬0≤aG (aw e) f:=by omega
   simp [hneg,this]
   exact hF2.retH
  ·have:0≤aG (aw e) f:=by omega
   simp [hneg,this,hw,hv]
   refine ⟨hF.upd hcc (by omega),?_⟩
   rw [hInv]
   rw [hI]; simp [this]
def xA (f:Nat) (a b:List AV) (h0:Heap) (c0:Nat) (φ:ByteArray→Int):Prop:=∀ x:Wb.Form,OkForm x→∀ h c,Fr c0 h0 h c→ACalls Pg f (a++x.av::b) ⟨h,c⟩ fun r s'=>r=.int (aG φ x)∧s'.h=h
theorem uQ (st:Wb.Step) (low high:List Wb.Bound) (hst:∃ kind name conds body array subs expr,st=.mk kind name low high conds body array subs expr) (hl:∀ b∈low,cA b) (hh:∀ b∈high,cA b) (hl0:low≠[]) (hh0:high≠[]) (fn:Nat) (a b:List AV) (φ:ByteArray→Int) (hφ:∀ n,-1000000≤φ n∧φ n≤1000000) (h0:Heap) (c0:Nat) (hs:xA fn a b h0 c0 φ) :
  ACalls Pg Fn195.n [st.av,.fn (.func fn) a b] ⟨h0,c0⟩ fun av s'=>av=.tup [.int (eF φ low),.int (eI φ high)]∧s'.h=h0:=by
 refine ACalls.small fun hsm=>?_
 obtain ⟨kind,name,conds,body,array,subs,⟨op,n,form,ea,es,args⟩,rfl⟩:=hst
 rw [Step.av_mk] at hsm ⊢
 have hlen:low.length≤68719476736∧high.length≤68719476736:=by simp at hsm; omega
 have hlp:=List.length_pos_iff.2 hl0
 have hhp:=List.length_pos_iff.2 hh0
 refine Fn195.calls .frz ?_
 unfold Fn195.ac
 simp
 obtain ⟨hb0,hhb⟩:∃ hb,hb=upd h0 c0 (some (.row 15 [[.int kind,.str name,row (low.map Bound.cells),row (high.map Bound.cells),row (conds.map Form.cells),row (body.map Step.cells),.str array,row (subs.map Form.cells),.int op,.int n,.int form.const,row (form.terms.map Term.cells),.str ea,row (es.map Form.cells),row (args.map Expr.cells)]] .live none)):=⟨_,rfl⟩
 rw [←hhb]
 have hFb:Fr c0 h0 hb0 (c0+1):=by rw [hhb]; exact (Fr.refl h0 c0).upd (Nat.le_refl _) (Nat.le_succ _)
 have hbx:hb0 c0=_:=(congrFun hhb c0).trans af
 obtain ⟨Inv,hInv⟩:∃ Inv:Nat→List Wb.Bound→Slots→St→Prop,Inv=fun i r sl s'=>∃ n:Int,sl 6=.int n∧(if i=0 then r=low∧n=0 else dL φ r n=eF φ low):=⟨_,rfl⟩
 refine bh 17 Fn195.W0 low Inv (by rfl) (by rfl) ?_ ?_ ?_
 ·rw [hInv]; exact ⟨by simp,0,by simp,rfl,rfl⟩
 ·intro v h c hv hF hI
  rw [hInv] at hI
  obtain ⟨nl,h6,hI⟩:=hI
  rw [if_neg (by omega)] at hI
  simp only [dL] at hI
  simp at h6
  have hcc:=hF.c
  have hFx:Fr c0 h0 h c:=hFb.trans hF
  have hbox:=(hF.h c0 (by omega)).trans hbx
  simp [hv,hbox]
  obtain ⟨Inv2,hInv2⟩:∃ Inv:Nat→List Wb.Bound→Slots→St→Prop,Inv=fun i r sl s'=>∃ n:Int,sl 7=.int n∧sl 6=.int (eF φ low)∧(if i=0 then r=high∧n=0 else dr φ r n=eI φ high):=⟨_,rfl⟩
  refine bh 41 Fn195.W1 high Inv2 (by rfl) (by rfl) ?_ ?_ ?_
  ·rw [hInv2]; exact ⟨by simp,0,by simp,by simp [h6,hI],rfl,rfl⟩
  ·intro v2 h2 c2 hv2 hF2 hI2
   rw [hInv2] at hI2
   obtain ⟨nh,h7,h6',hI2⟩:=hI2
   rw [if_neg (by omega)] at hI2
   simp only [dr] at hI2
   simp at h7 h6'
   simp [hv2,h7,h6',hI2]
   exact (hFx.trans hF2).retH
  ·intro i b bs v2 h2 c2 hi hx hl2 hv2 hF2 hI2
   rw [hInv2] at hI2
   have hFx2:Fr c0 h0 h2 c2:=hFx.trans hF2
   obtain ⟨n2,h62,h6l,hI2⟩:=hI2
   simp at h62 h6l
   have hw:=ae (x:=(i:Int)+1) (by omega) (by omega)
   have hcc:=hF2.c
   obtain ⟨bf,bd⟩:=b
   have hb:=hh _ (aM hl2)
   have hfb:-12001000000≤aG φ bf∧aG φ bf≤12001000000:=cy hφ hb.1
   have hbd:1≤bd:=hb.2.1
   have hfr:Fr c0 h0 (upd h2 c2 (some (.row 3 [[.int bf.const,row (bf.terms.map Term.cells),.int bd]] .live none))) (c2+1):=⟨by have:=hFx2.c; omega,fun k hk=>by rw [ad (by have:=hFx2.c; omega),hFx2.h k hk]⟩
   have hsf:=hs bf hb.1 _ _ hfr
   rw [Form.av,Form.cells] at hsf
   simp [hv2,hi,hx,Bound.cells]
   refine ACalls.at hsf fun c2 hc2=>?_
   simp
   refine ACalls.pure (pK _ bd (by omega) (by omega) (by omega)) fun c3 hc3=>?_
   obtain ⟨u,hu⟩:∃ u,u=aG φ bf / bd:=⟨_,rfl⟩
   rw [←hu]
   by_cases hi0:i=0
   ·subst hi0
    have hw1:IntKind.i64.wrap 1=1:=by decide
    simp [hv2,hw1,h6l]
    refine ⟨hF2.upd hcc (by omega),?_⟩
    rw [hInv2]
    refine ⟨u,by simp,by simp [h6l],?_⟩
    simp only [if_true] at hI2
    simp only [Nat.zero_add,show ¬(1=0) by decide,if_false]
    rw [←hI2.1,hu]; rfl
   ·simp only [hi0,if_false] at hI2
    by_cases hgt:u<n2
    ·simp [hv2,hi0,hgt,hw,h62,h6l]
     refine ⟨hF2.upd hcc (by omega),?_⟩
     rw [hInv2]
     refine ⟨u,by simp,by simp [h6l],?_⟩
     rw [if_neg (by omega),←hI2]
     simp only [dr,mnI]
     rw [if_pos (by rw [←hu]; exact hgt),←hu]
    ·simp [hv2,hi0,hgt,hw,h62,h6l]
     refine ⟨hF2.upd hcc (by omega),?_⟩
     rw [hInv2]
     refine ⟨n2,by simp [h62],by simp [h6l],?_⟩
     rw [if_neg (by omega),←hI2]
     simp only [dr,mnI]
     rw [if_neg (by rw [←hu]; exact hgt)]
 ·intro i b bs v h c hi hx hl2 hv hF hI
  rw [hInv] at hI
  have hFx:Fr c0 h0 h c:=hFb.trans hF
  obtain ⟨n,h6,hI⟩:=hI
  simp at h6
  have hw:=ae (x:=(i:Int)+1) (by omega) (by omega)
  have hcc:=hF.c
  obtain ⟨bf,bd⟩:=b
  have hb:=hl _ (aM hl2)
  have hfb:-12001000000≤aG φ bf∧aG φ bf≤12001000000:=cy hφ hb.1
  have hbd:1≤bd:=hb.2.1
  have hfr:Fr c0 h0 (upd h c (some (.row 3 [[.int bf.const,row (bf.terms.map Term.cells),.int bd]] .live none))) (c+1):=⟨by have:=hFx.c; omega,fun k hk=>by rw [ad (by have:=hFx.c; omega),hFx.h k hk]⟩
  have hsf:=hs bf hb.1 _ _ hfr
  rw [Form.av,Form.cells] at hsf
  simp [hv,hi,hx,Bound.cells]
  refine ACalls.at hsf fun c2 hc2=>?_
  simp
  refine ACalls.pure (uy _ bd (by omega) (by omega) (by omega)) fun c3 hc3=>?_
  obtain ⟨u,hu⟩:∃ u,u=upI (aG φ bf) bd:=⟨_,rfl⟩
  rw [←hu]
  by_cases hi0:i=0
  ·subst hi0
   have hw1:IntKind.i64.wrap 1=1:=by decide
   simp [hv,hw1]
   refine ⟨hF.upd hcc (by omega),?_⟩
   rw [hInv]
   refine ⟨u,by simp,?_⟩
   simp only [if_true] at hI
   simp only [Nat.zero_add,show ¬(1=0) by decide,if_false]
   rw [←hI.1,hu]; rfl
  ·simp only [hi0,if_false] at hI
   by_cases hgt:n<u
   ·simp [hv,hi0,hgt,hw,h6]
    refine ⟨hF.upd hcc (by omega),?_⟩
    rw [hInv]
    refine ⟨u,by simp,?_⟩
    rw [if_neg (by omega),←hI]
    simp only [dL,mxI]
    rw [if_pos (by rw [←hu]; exact hgt),←hu]
   ·simp [hv,hi0,hgt,hw,h6]
    refine ⟨hF.upd hcc (by omega),?_⟩
    rw [hInv]
    refine ⟨n,by simp [h6],?_⟩
    rw [if_neg (by omega),←hI]
    simp only [dL,mxI]
    rw [if_neg (by rw [←hu]; exact hgt)]
end Go.Proofs.YtocppbmmfklbmaaGreat
set_option maxRecDepth 20000
set_option maxHeartbeats 4000000
namespace Go.Proofs.YtocppbmmfklbmaaGreat
open Go.AM Go.Wb
theorem pg {α:Type} (p:α→Bool):∀ (l:List α) (i:Int),0≤i→(aP p l i = -1∧l.filter (fun x=>!p x)=l)∨∃ (k:Nat) (hk:k<l.length),aP p l i=i+k∧(l.take k).filter (fun x=>!p x)=l.take k∧p l[k]=true
 | [],i,_=>.inl ⟨rfl,rfl⟩
 | x::l,i,hi=>by
  unfold aP
  by_cases h:p x=true
  ·exact .inr ⟨0,by simp,by simp [h],by simp,by simpa using h⟩
  ·simp only [h]
   rcases pg p l (i+1) (by omega) with ⟨h1,h2⟩ | ⟨k,hk,h1,h2,h3⟩
   ·exact .inl ⟨by simpa using h1,by simp [h,h2]⟩
   ·refine .inr ⟨k+1,by simp; exact hk,?_,?_,by simpa using h3⟩
    ·simp; rw [h1]; omega
    ·simp [h,h2]
def uX (f:Nat) (p:Wb.Step→Bool):Prop:=∀ x:Wb.Step,aN Pg f [x.av] (.bool (p x))
theorem lz (x:Wb.Step):az 15 x.cells=true:=by
 obtain ⟨_,_,_,_,_,_,_,_,⟨_,_,_,_,_,_⟩⟩:=x; rfl
theorem df (x:Wb.Step):x.cells.length=15:=by
 obtain ⟨_,_,_,_,_,_,_,_,⟨_,_,_,_,_,_⟩⟩:=x; rfl
theorem iL (l:List Wb.Step) (f:Nat) (p:Wb.Step→Bool) (hp:uX f p) (h:Heap) (g c:Nat) (hg:h g=some (.row 15 (l.map Step.cells) .live none)) (hl:l.length≤68719476736) :
  ACalls Pg Fn193.n [.row g 15 0 l.length,.fn (.func f) [] []] ⟨h,c⟩ fun av s'=>av=.int (aP p l 0)∧s'.h=h:=by
 refine Fn193.calls .frz ?_
 unfold Fn193.ac
 simp
 refine bR 8 Fn193.W0 l (fun i r sl=>aP p l 0=aP p r i) (by rfl) (by rfl) ?_ ?_ ?_
 ·simp
 ·intro v c1 hv hc hI
  simp [hv,hI,aP]
 ·intro i x xs v c1 hi hx hl2 hv hc hI
  have hw:=ae (x:=(i:Int)+1) (by omega) (by omega)
  have hge:(l.map Step.cells)[i]?=some x.cells:=by simp [hi,hx]
  have h15:x.cells.take 15=x.cells:=List.take_of_length_le (by rw [df]; omega)
  have hpx:=hp x
  rw [Step.av] at hpx
  simp [hv,hi,hg,hx,df,h15]
  refine ACalls.pure hpx fun c2 hc2=>?_
  by_cases hpx:p x=true
  ·simp [hpx,hI,aP]
  ·simp [hpx,hv,hw,hI,aP]; omega
theorem mw {p:Wb.Step→Bool} {l:List Wb.Step} {j:Nat} (hj:j<l.length):(l.take (j+1)).filter p=(l.take j).filter p++if p l[j]=true then [l[j]] else []:=by
 rw [List.take_add_one,List.getElem?_eq_getElem hj,List.filter_append]
 cases h:p l[j] <;> simp [h]
theorem io (l:List Wb.Step) (f:Nat) (p:Wb.Step→Bool) (hp:uX f p) (h0:Heap) (g c0:Nat) (hg:h0 g=some (.row 15 (l.map Step.cells) .live none)) (hgc:g<c0) (hl:l.length≤1000000) :
  ACalls Pg Fn159.n [.row g 15 0 l.length,.fn (.func f) [] []] ⟨h0,c0⟩ fun av s'=>∃ all,av=.row g 15 0 (l.filter fun x=>!p x).length∧s'.h g=some (.row 15 all .live none)∧all.take (l.filter fun x=>!p x).length=(l.filter fun x=>!p x).map Step.cells∧(l.filter fun x=>!p x).length≤all.length∧∀ k,k<c0→k≠g→s'.h k=h0 k:=by
 refine Fn159.calls .keep ?_
 unfold Fn159.ac
 simp
 refine ACalls.at (iL l f p hp h0 g c0 hg (by omega)) fun c1 hc1=>?_
 simp
 rcases pg p l 0 (Int.le_refl 0) with ⟨e1,e2⟩ | ⟨i,hi,e1,e2,e3⟩
 ·simp [e1]
  rw [e2]
  exact ⟨rfl,l.map Step.cells,hg,by rw [←List.length_map (f:=Step.cells),List.take_length],by simp⟩
 ·rw [Int.zero_add] at e1
  have hi1:¬(i:Int) = -1:=by omega
  have hw:=ae (x:=(i:Int)+1) (by omega) (by omega)
  simp [e1,hi1,hw]
  obtain ⟨Inv,hInv⟩:∃ Inv:Nat→Slots→St→Prop,Inv=fun n sl s'=>∃ (m:List Wb.Step) (i j:Nat),i<j∧j+n=l.length∧sl 5=.int i∧sl 6=.int j∧m.length=l.length∧m.take i=(l.take j).filter (fun x=>!p x)∧m.drop j=l.drop j∧s'.h g=some (.row 15 (m.map Step.cells) .live none)∧(∀ k,k<c0→k≠g→s'.h k=h0 k)∧c0≤s'.c:=⟨_,rfl⟩
  refine cD Fn159.W0 (by rfl) Inv (l.length-(i+1)) ?_ ?_
  ·rw [hInv]
   refine ⟨l,i,i+1,by omega,by omega,by simp,by simp,rfl,?_,rfl,hg,fun _ _ _=>rfl,hc1⟩
   rw [mw hi,e2,e3]; simp
  ·intro n v s' hI
   rw [hInv] at hI
   obtain ⟨m,i,j,hij,hj,h5,h6,hml,hmt,hmd,hg',hfr,hcc⟩:=hI
   obtain ⟨h,c⟩:=s'
   simp at h5 h6
   simp only at hg' hfr hcc
   by_cases hlt:j<l.length
   case neg=>
    have hlt':¬(j:Int)<l.length:=by omega
    have hjl:i≤l.length:=by omega
    have hs1:=srI_row_from (sz:=15) (g:=g) (off:=0) hjl
    have hs2:=srI_row_to (sz:=15) (g:=g) (off:=0) hjl
    have hcl:=clI_row (sz:=15) (zs:=[.int 0,.str ⟨#[]⟩,.nil,.nil,.nil,.nil,.str ⟨#[]⟩,.nil,.int 0,.int 0,.int 0,.nil,.str ⟨#[]⟩,.nil,.nil]) (off:=i) (len:=l.length-i) (s:=⟨h,c⟩) hg' (by decide) (by decide) (by simp; omega)
    have hft:(l.filter fun x=>!p x)=m.take i:=by rw [hmt,List.take_of_length_le (by omega)]
    have hfl:(l.filter fun x=>!p x).length=i:=by rw [hft,List.length_take]; omega
    simp [h5,h6,hlt,hs1,hs2,hcl,hfl]
    refine ⟨?_,?_,fun k hk hkg=>by rw [ad hkg]; exact hfr k hk hkg⟩
    ·rw [hft]
     rw [List.take_append_of_le_length (by simp; omega),List.take_take,Nat.min_self,List.map_take]
    ·omega
   have hlt':(j:Int)<l.length:=by omega
   have hjm:j<m.length:=by omega
   have hmj:m[j]=l[j]:=by
    have:=congrArg (·[0]?) hmd
    simp only [List.getElem?_drop,Nat.add_zero] at this
    rw [List.getElem?_eq_getElem hjm,List.getElem?_eq_getElem hlt] at this
    exact Option.some.inj this
   have hpx:=hp l[j]
   have hgc':¬g=c:=by omega
   have hcg':¬c=g:=by omega
   have hw1:=ae (x:=(j:Int)+1) (by omega) (by omega)
   have hw2:=ae (x:=(i:Int)+1) (by omega) (by omega)
   have hft:=mw (p:=fun x=>!p x) hlt
   obtain ⟨X,hX⟩:∃ X,X=l[j]:=⟨_,rfl⟩
   rw [←hX] at hmj hpx hft
   have hXc:=Step.av
   have hge:(m.map Step.cells)[j]?=some X.cells:=by simp [hjm,hmj]
   obtain ⟨kind,name,low,high,conds,body,array,subs,⟨op,n2,form,ea,es,args⟩⟩:=X
   rw [Step.cells_mk] at hge
   rw [Step.av_mk] at hpx
   simp [h6,hlt,hg',hmj,hjm,Step.cells_mk]
   refine ACalls.pure hpx fun c2 hc2=>?_
   by_cases hpj:p (.mk kind name low high conds body array subs (.mk op n2 form ea es args))=true
   ·simp [hpj,h6,hw1]
    refine ⟨n-1,by omega,?_⟩
    rw [hInv]
    refine ⟨m,i,j+1,by omega,by omega,by simp [h5],by simp,hml,?_,?_,?_,fun k hk hkg=>?_,by show c0≤c2; omega⟩
    ·rw [hft,hmt]; simp [hpj]
    ·have:=congrArg (·.drop 1) hmd
     simpa [List.drop_drop] using this
    ·show upd h c _ g=_
     rw [ad hgc']; exact hg'
    ·show upd h c _ k=_
     rw [ad (by omega)]; exact hfr k hk hkg
   ·have hil:i<l.length:=by omega
    have him:i<m.length:=by omega
    simp [hpj,h5,h6,hw1,hw2,hil,hg',hgc',him,df]
    refine ⟨n-1,by omega,?_⟩
    rw [hInv]
    refine ⟨m.set i (.mk kind name low high conds body array subs (.mk op n2 form ea es args)),i+1,j+1,by omega,by omega,by simp,by simp,by simp [hml],?_,?_,?_,fun k hk hkg=>?_,by show c0≤c2; omega⟩
    ·rw [hft,←hmt,List.take_add_one,List.take_set_of_le (Nat.le_refl _),List.getElem?_set_self him]
     simp [hpj]
    ·rw [List.drop_set_of_lt (by omega)]
     have:=congrArg (·.drop 1) hmd
     simpa [List.drop_drop] using this
    ·show upd _ g _ g=_
     rw [af,List.map_set,Step.cells_mk,List.drop_of_length_le (by rw [df]; omega)]
    ·show upd (upd h c _) g _ k=_
     rw [ad hkg,ad (by omega)]; exact hfr k hk hkg
theorem _root_.Go.AM.slnW_row {g sz off len:Nat} {s:St} {F:Bx (AV→St→Prop)} (h:len=0→F.v (.bool true) s) (h':F.v (.bool false) s):@tX .eql (.row g sz off len) s F:=by
 show (BinOp.eql=.eql∨BinOp.eql=.neq)∧_
 refine ⟨.inl rfl,?_⟩
 cases len with
 | zero=>exact ⟨h rfl,h'⟩
 | succ n=>exact h'
def fK (h:Heap) (x:AV) (l:List Wb.Step):Prop:=(l=[]∧∃ b,x=.sl [] b)∨∃ ga st par,x=.row ga 15 0 l.length∧h ga=some (.row 15 (l.map Step.cells) st par)
theorem ki (l:List Wb.Step) (hl:l.length≤1000000) (x:AV) (h0:Heap) (c0:Nat) (hx:fK h0 x l) :
  ACalls Pg Fn160.n [x] ⟨h0,c0⟩ fun av s'=>Fr c0 h0 s'.h s'.c∧((av=.sl [] true∧l=[])∨∃ g,c0≤g∧g<s'.c∧av=.row g 15 0 l.length∧s'.h g=some (.row 15 (l.map Step.cells) .live none)):=by
 have hall:(l.map Step.cells).all (az 15)=true:=List.all_eq_true.2 fun e he=>by obtain ⟨t,_,rfl⟩:=List.mem_map.1 he; exact lz t
 have hap:∀ s:St,s.h=h0→s.show_ x=some (l.map Step.cells)∧d8 x 15=true→apI 15 272 .plain (.sl [] true) x s=some (.row s.c 15 0 l.length,AM.newRow 15 (l.map Step.cells) s):=by
  intro s hs ⟨h1,h2⟩
  have hle:0+(l.map Step.cells).length≤68719476736:=by simp; omega
  simp only [apI,h1,h2,hall]
  simp
  omega
 refine Fn160.calls .keep ?_
 unfold Fn160.ac
 rcases hx with ⟨rfl,b,rfl⟩ | ⟨ga,st,par,rfl,hga⟩
 ·have hap':=hap ⟨h0,c0⟩ rfl ⟨rfl,rfl⟩
  simp
  refine jF (fun h=>?_) ?_
  ·simp
   exact Fr.refl _ _
  ·simp [bsI,au]
   simp at hap'
   simp [hap']
   exact ⟨(Fr.refl h0 c0).upd (Nat.le_refl _) (Nat.le_succ _),c0,Nat.le_refl _,Nat.lt_succ_self _,rfl,af⟩
 ·have htk:(l.map Step.cells).take l.length=l.map Step.cells:=by rw [←List.length_map (f:=Step.cells),List.take_length]
  have hap':=hap ⟨h0,c0⟩ rfl ⟨by simp [St.show_,hga,htk],rfl⟩
  simp
  refine slnW_row (fun h=>?_) ?_
  ·have:l=[]:=List.length_eq_zero_iff.1 h
   simp [this]
   exact Fr.refl _ _
  ·simp [bsI,au,hap']
   exact ⟨(Fr.refl h0 c0).upd (Nat.le_refl _) (Nat.le_succ _),c0,Nat.le_refl _,Nat.lt_succ_self _,rfl,af⟩
theorem ij (f:Nat) (b:Bool) (s:St):ACalls Pg Fn159.n [.sl [] b,.fn (.func f) [] []] s fun av s'=>av=.sl [] b∧s'.h=s.h:=by
 have hidx:ACalls Pg Fn193.n [.sl [] false,.fn (.func f) [] []] s fun av s'=>av=.int (-1)∧s'.h=s.h:=by
  refine Fn193.calls .frz ?_
  unfold Fn193.ac
  simp
  refine bR 8 Fn193.W0 ([]:List Wb.Step) (fun i r sl=>True) (by rfl) (by rfl) ?_ ?_ ?_
  ·simp
  ·intro v c1 hv hc hI
   simp at hv
   simp [hv]
  ·intro i x xs v c1 hi; simp at hi
 obtain ⟨h,c⟩:=s
 refine Fn159.calls .keep ?_
 unfold Fn159.ac
 simp
 refine ACalls.at hidx fun c1 hc1=>?_
 simp
theorem uO (s:Wb.Step):aN Pg Fn161.n [s.av] (.bool (!isLoop s)):=by
 intro st
 obtain ⟨kind,name,low,high,conds,body,array,subs,⟨op,n,form,ea,es,args⟩⟩:=s
 rw [Step.av_mk]
 refine Fn161.calls .frz ?_
 unfold Fn161.ac
 simp [isLoop,Step.kind]
 rfl
theorem ua (l:List Wb.Step) (hl:l.length≤1000000) (x:AV) (h0:Heap) (c0:Nat) (hx:fK h0 x l) :
  ACalls Pg Fn104.n [x] ⟨h0,c0⟩ fun av s'=>av=row ((l.filter isLoop).map Step.cells)∧s'.h=h0:=by
 refine Fn104.calls .frz ?_
 unfold Fn104.ac
 have hn:norm x=x∨(l=[]∧norm x=.sl [] false):=by
  rcases hx with ⟨rfl,b,rfl⟩ | ⟨ga,st,par,rfl,_⟩
  ·exact .inr ⟨rfl,rfl⟩
  ·exact .inl rfl
 have hx':fK h0 (norm x) l:=by
  rcases hn with h | ⟨h1,h2⟩
  ·rw [h]; exact hx
  ·rw [h2]; exact .inl ⟨h1,false,rfl⟩
 have hf:∀ {m:List Wb.Step},(m.filter fun x=>!(!isLoop x))=m.filter isLoop:=fun {m}=>by simp
 simp
 refine (ki l hl _ h0 c0 hx').mono ?_
 rintro av ⟨h1,c1⟩ hc1 ⟨hF1,hav⟩
 simp only at hc1 hF1 hav
 rcases hav with ⟨rfl,rfl⟩ | ⟨g,hg1,hg2,rfl,hg⟩
 ·simp
  refine (ij Fn161.n false ⟨h1,c1⟩).mono ?_
  rintro av ⟨h2,c2⟩ hc2 ⟨rfl,hh⟩
  simp only at hh
  subst hh
  simp
  exact hF1.retH
 ·simp
  refine (io l Fn161.n (fun x=>!isLoop x) uO h1 g c1 hg hg2 hl).mono ?_
  rintro av ⟨h2,c2⟩ hc2 ⟨all,rfl,q1,q2,q3,q4⟩
  simp only at hc2 q1 q4
  rw [hf] at q2 q3 ⊢
  simp [q1,q3,q2]
  exact aE fun k hk=>by rw [ad (by omega),q4 k (by omega) (by omega)]; exact hF1.h k hk
mutual
def cK:Wb.Expr→List Wb.Expr
 | .mk op n form array subs args=>if op=3 then [.mk op n form array subs args] else br args
def br:List Wb.Expr→List Wb.Expr
 | []=>[]
 | e::es=>cK e++br es
end
mutual
theorem iy:∀ e:Wb.Expr,(cK e).length=aR e
 | .mk op n form array subs args=>by
  simp only [cK,aR]
  split
  ·rfl
  ·exact jg args
theorem jg:∀ l:List Wb.Expr,(br l).length=bg l
 | []=>rfl
 | e::es=>by simp [br,bg,iy e,jg es]
end
theorem ji:∀ (a b:List Wb.Expr),br (a++b)=br a++br b
 | [],b=>by simp [br]
 | x::a,b=>by simp [br,ji a b]
theorem su (x:Wb.Expr):az 7 x.cells=true:=by
 obtain ⟨_,_,_,_,_,_⟩:=x; rfl
theorem uH:∀ (N:Nat) (x:Wb.Expr),SizeOf.sizeOf x≤N→aR x≤4096→aN Pg Fn105.n [x.av] (row ((cK x).map Expr.cells)):=by
 intro N
 induction N with
 | zero=>intro x hx; obtain ⟨_,_,_,_,_,_⟩:=x; simp at hx
 | succ N ih=>
  rintro x hx hnr ⟨h0,c0⟩
  refine ACalls.small fun hsm=>?_
  obtain ⟨op,n,form,array,subs,args⟩:=x
  rw [Expr.av_mk] at hsm ⊢
  have hlen:args.length≤68719476736:=by simp at hsm; omega
  refine Fn105.calls .frz ?_
  unfold Fn105.ac
  by_cases h3:op=3
  ·subst h3
   simp [bsI,au,cK,Expr.cells_mk]
  simp [h3]
  have hspec:cK (.mk op n form array subs args)=br args:=by simp [cK,h3]
  rw [hspec]
  have hnr3:bg args≤4096:=by simpa [aR,h3] using hnr
  obtain ⟨Inv,hInv⟩:∃ Inv:Nat→List Wb.Expr→Slots→St→Prop,Inv=fun i r sl s'=>∃ go,sl 3=.row go 7 0 (br (args.take i)).length∧c0<go∧go<s'.c∧s'.h go=some (.row 7 ((br (args.take i)).map Expr.cells) .live none)∧∀ k,k<c0→s'.h k=h0 k:=⟨_,rfl⟩
  refine aY 14 Fn105.W0 args Inv (by rfl) (by rfl) ?_ ?_ ?_
  ·rw [hInv]
   refine ⟨by simp,c0+1,by simp [br],by omega,by show c0+1<c0+1+1; omega,by simp [br],fun k hk=>?_⟩
   show upd (upd h0 c0 _) (c0+1) _ k=_
   rw [ad (by omega),ad (by omega)]
  ·intro v s' hv hI
   rw [hInv,List.take_length] at hI
   obtain ⟨go,h9,i1,i2,i3,i4⟩:=hI
   obtain ⟨h,c⟩:=s'
   simp at h9 i3
   simp only at i2 i4
   have htk:List.take (br args).length ((br args).map Expr.cells)=(br args).map Expr.cells:=by rw [←List.length_map (f:=Expr.cells),List.take_length]
   simp [hv,h9,i3,htk]
   exact aE fun k hk=>by rw [ad (by omega)]; exact i4 k hk
  ·intro i x xs v s' hi hx2 hl2 hv hI
   rw [hInv] at hI
   obtain ⟨go,h9,i1,i2,i3,i4⟩:=hI
   obtain ⟨h,c⟩:=s'
   simp at h9
   simp only at i2 i3 i4
   have hw:=ae (x:=(i:Int)+1) (by omega) (by omega)
   have hmx:x∈args:=aM hl2
   have hsz:SizeOf.sizeOf x≤N:=by
    have:=List.sizeOf_lt_of_mem hmx
    simp at hx; omega
   have hnr2:bg args=bg (args.take i)+(aR x+bg xs):=by
    conv=>lhs; rw [hl2]
    rw [jj]; rfl
   have hsl:(br (args.take i)).length=bg (args.take i):=jg _
   have htake:args.take (i+1)=args.take i++[x]:=by rw [List.take_add_one,List.getElem?_eq_getElem hi,hx2]; rfl
   have hce:=ih x hsz (by omega)
   have hrl:=iy x
   obtain ⟨op2,n2,form2,array2,subs2,args2⟩:=x
   rw [Expr.av_mk] at hce
   simp [hv,hi,hx2,Expr.cells_mk]
   refine ACalls.pure hce fun c2 hc2=>?_
   obtain ⟨h2,hh2⟩:∃ h2,h2=upd h c (some (.row 7 [[.int op2,.int n2,.int form2.const,row (form2.terms.map Term.cells),.str array2,row (subs2.map Form.cells),row (args2.map Expr.cells)]] .live none)):=⟨_,rfl⟩
   rw [←hh2]
   have hgo2:h2 go=some (.row 7 ((br (args.take i)).map Expr.cells) .live none):=by rw [hh2,ad (by omega)]; exact i3
   have hap:=jD (sz:=7) (bytes:=112) (md:=.plain) (es:=(br (args.take i)).map Expr.cells) (xs:=(cK (.mk op2 n2 form2 array2 subs2 args2)).map Expr.cells) (b:=false) (len:=(br (args.take i)).length) (s:=⟨h2,c2⟩) (by simp) hgo2 (by simp) (by decide) (by decide) (by decide) (fun y hy=>by obtain ⟨t,_,rfl⟩:=List.mem_map.1 hy; exact su t) (by simp only [List.length_map]; omega)
   simp only [row] at hap ⊢
   simp [h9,hap,hw,hv]
   rw [hInv]
   refine ⟨c2,?_,by omega,by show c2<c2+1; omega,?_,fun k hk=>?_⟩
   ·rw [htake,ji]; simp [br]
   ·rw [htake,ji]
    show upd (upd h2 go _) c2 _ c2=_
    rw [af]; simp [br]
   ·show upd (upd h2 go _) c2 _ k=_
    rw [ad (by omega),ad (by omega),hh2,ad (by omega)]; exact i4 k hk
end Go.Proofs.YtocppbmmfklbmaaGreat
set_option maxRecDepth 20000
set_option maxHeartbeats 4000000
namespace Go.Proofs.YtocppbmmfklbmaaGreat
open Go.AM Go.Wb
mutual
def fo (around:List Wb.Step):Wb.Step→List (Wb.Step×List Wb.Step)
 | .mk kind name low high conds body array subs expr=>(.mk kind name low high conds body array subs expr,around)::bP (around++[.mk kind name low high conds body array subs expr]) body
def bP (around:List Wb.Step):List Wb.Step→List (Wb.Step×List Wb.Step)
 | []=>[]
 | s::ss=>fo around s++bP around ss
end
theorem kN (around:List Wb.Step):∀ a b:List Wb.Step,bP around (a++b)=bP around a++bP around b
 | [],b=>by simp [bP]
 | x::a,b=>by simp [bP,kN around a b]
def pw (h:Heap) (k:Nat):Prop:=∀ sz es st p,h k≠some (.row sz es st (some p))
structure Sees (fn:Nat) (a b:List AV) (I:List (Wb.Step×List Wb.Step)→(Nat→Prop)→Heap→Prop) (M:Nat) (ok:Wb.Step→Prop):Prop where
 frame:∀ {v F h h'},I v F h→(∀ k,F k→h' k=h k)→I v F h'
 par:∀ {v F h},I v F h→∀ k,F k→pw h k
 call:∀ v F X (around:List Wb.Step) x h c,v.length<M→ok X→I v F h→(∀ k,F k→k<c)→fK h x around→around.length≤1000 →
  ACalls Pg fn (a++[Wb.Step.av X,x]++b) ⟨h,c⟩ fun av s'=>∃ F',I (v++[(X,around)]) F' s'.h∧(∀ k,F' k→F k∨(c≤k∧k<s'.c))∧(∀ k,k<c→¬F k→s'.h k=h k)∧∀ k,c≤k→pw s'.h k
def ArAt (h:Heap) (F:Nat→Prop) (c0:Nat) (x:AV) (l:List Wb.Step):Prop:=(l=[]∧x=.sl [] true)∨∃ ga par,x=.row ga 15 0 l.length∧h ga=some (.row 15 (l.map Step.cells) .live par)∧¬F ga∧ga<c0
def ArSt (h0 h:Heap) (F:Nat→Prop) (c0 c:Nat) (x:AV):Prop:=∀ ga sz es st par,an x ga→h0 ga=some (.row sz es st par)→∃ st',h ga=some (.row sz es st' par) ∧
 (st'=.live∨∃ k,st'=.lent k∧c0≤k∧k<c∧¬F k∧(h k=none∨∃ sz es st p,h k=some (.row sz es st (some p))∧(st=.live∨∃ j,st=.lent j∧j<c∧¬F j∧h j=none)))
theorem oE:∀ (around:List Wb.Step) (x:Wb.Step),(fo around x).length=count x
 | around,.mk kind name low high conds body array subs expr=>by
  have:=fun ar=>walkL_len' ar body
  simp [fo,count,this]; omega
where
 walkL_len':∀ (around:List Wb.Step) (l:List Wb.Step),(bP around l).length=aC l
  | around,[]=>rfl
  | around,s::ss=>by simp [bP,aC,oE around s,walkL_len' around ss]
theorem sD (around:List Wb.Step) (l:List Wb.Step):(bP around l).length=aC l:=oE.walkL_len' around l
@[simp] theorem _root_.Go.AM.finW_fork_re {P:Program} {d:Option Nat} {q:Nat×Option (Nat×Bool)×I} {re:List (Nat×Option (Nat×Bool)×I)} {r:List AO} {K:Slots→St→Prop} {sl:Slots} {v:AV} {s:St} :
  aX P d .fork (q::re) r K sl v s=(fc q sl s∧aX P d .fork re r K sl v s):=by simp [aX,di,and_assoc]
theorem X15 (X:Wb.Step):X.cells.take 15=X.cells:=List.take_of_length_le (by rw [df]; omega)
theorem X15d (X:Wb.Step):X.cells.drop 15=[]:=List.drop_of_length_le (by rw [df]; omega)
theorem qn {fn:Nat} {a b:List AV} {I:List (Wb.Step×List Wb.Step)→(Nat→Prop)→Heap→Prop} {M:Nat} {ok:Wb.Step→Prop} (S:Sees fn a b I M ok):∀ (N:Nat) (l:List Wb.Step),aC l≤N→∀ (v:List (Wb.Step×List Wb.Step)) (F:Nat→Prop) (around:List Wb.Step) (x:AV) (h0:Heap) (c0:Nat),
  v.length+aC l≤M→(∀ y∈bP around l,ok y.1)→I v F h0→(∀ k,F k→k<c0)→ArAt h0 F c0 x around→around.length+N≤1000 →
  ACalls Pg Fn102.n [row (l.map Step.cells),x,.fn (.func fn) a b] ⟨h0,c0⟩ fun av s'=>∃ F',I (v++bP around l) F' s'.h∧(∀ k,F' k→F k∨(c0≤k∧k<s'.c))∧(∀ k,k<c0→¬F k→¬an x k→s'.h k=h0 k)∧(∀ k,c0≤k→pw s'.h k) ∧
   (∀ ga sz es st par,an x ga→h0 ga=some (.row sz es st par)→∃ st',s'.h ga=some (.row sz es st' par)∧(st'=.live∨∃ k,st'=.lent k∧c0≤k∧k<s'.c∧¬F' k∧s'.h k=none)):=by
 intro N
 induction N using Nat.strongRecOn with
 | _ N ih=>
  intro l hl v F around x h0 c0 hM hok hI hF hx har
  refine ACalls.small fun hsm=>?_
  have hlen:l.length≤68719476736:=by simp at hsm; omega
  refine ACalls.dropF c0 (R:=fun av s'=>∃ F',I (v++bP around l) F' s'.h∧(∀ k,F' k→F k∨(c0≤k∧k<s'.c))∧(∀ k,k<c0→¬F k→¬an x k→s'.h k=h0 k)∧ArSt h0 s'.h F' c0 s'.c x) ?_ ?_
  ·refine Fn102.calls .keep ?_
   unfold Fn102.ac
   simp
   obtain ⟨Inv,hInv⟩:∃ Inv:Nat→List Wb.Step→Slots→St→Prop,Inv=fun i r sl s'=>∃ F1,I (v++bP around (l.take i)) F1 s'.h∧(∀ k,F1 k→F k∨(c0≤k∧k<s'.c))∧ArSt h0 s'.h F1 c0 s'.c x∧c0≤s'.c∧(∀ k,k<c0→¬F k→¬an x k→s'.h k=h0 k):=⟨_,rfl⟩
   refine aY 10 Fn102.W0 l Inv (by rfl) (by rfl) ?_ ?_ ?_
   ·rw [hInv]
    refine ⟨by simp,F,by simpa [bP] using hI,fun k hk=>.inl hk,?_,Nat.le_refl _,fun _ _ _ _=>rfl⟩
    intro ga sz es st par hga hh
    rcases hx with ⟨_,rfl⟩ | ⟨ga',par',rfl,h2,_⟩
    ·exact absurd hga aJ
    ·have:=aq.1 hga; subst this
     rw [h2] at hh; injection hh with hh; injection hh with e1 e2 e3 e4
     subst e3
     exact ⟨.live,by show h0 ga=_; rw [h2,e1,e2,e4],.inl rfl⟩
   ·intro v1 s' hv hI1
    rw [hInv,List.take_length] at hI1
    obtain ⟨F1,i1,i2,i3,i4,i5⟩:=hI1
    simp [hv]
    exact ⟨F1,i1,i2,i5,i3⟩
   ·intro i X xs v1 s' hi hx2 hl2 hv hI1
    rw [hInv] at hI1
    obtain ⟨F1,i1,i2,i3,i4,i5⟩:=hI1
    obtain ⟨h,c⟩:=s'
    simp only at i1 i2 i3 i4 i5
    have hw:=ae (x:=(i:Int)+1) (by omega) (by omega)
    have hcut:=ew hl2
    have hwl:=sD around (l.take i)
    have hcx:1≤count X:=by obtain ⟨_,_,_,_,_,_,_,_,_⟩:=X; simp [count]
    have htake:l.take (i+1)=l.take i++[X]:=by rw [List.take_add_one,List.getElem?_eq_getElem hi,hx2]; rfl
    have hF1c:∀ k,F1 k→k<c:=fun k hk=>by
     rcases i2 k hk with h | h
     ·have:=hF k h; omega
     ·omega
    have hax:fK h (norm x) around∧(∀ k,an x k→k<c0∧¬F1 k):=by
     rcases hx with ⟨rfl,rfl⟩ | ⟨ga,par,rfl,h2,h3,h4⟩
     ·exact ⟨.inl ⟨rfl,false,rfl⟩,fun k hk=>absurd hk aJ⟩
     ·obtain ⟨st',q1,_⟩:=i3 ga _ _ _ _ (aq.2 rfl) h2
      refine ⟨.inr ⟨ga,st',par,rfl,q1⟩,fun k hk=>?_⟩
      have:=aq.1 hk; subst this
      refine ⟨h4,fun hf=>?_⟩
      rcases i2 _ hf with h | h
      ·exact h3 h
      ·omega
    obtain ⟨h1,hh1⟩:∃ h1,h1=upd h c (some (.row 15 [X.cells] .live none)):=⟨_,rfl⟩
    have hlow1:∀ k,k<c→h1 k=h k:=fun k hk=>by rw [hh1,ad (by omega)]
    have hst1:fK h1 (norm x) around:=by
     rcases hx with ⟨rfl,rfl⟩ | ⟨ga,par,rfl,h2,h3,h4⟩
     ·exact .inl ⟨rfl,false,rfl⟩
     ·obtain ⟨st',q1,_⟩:=i3 ga _ _ _ _ (aq.2 rfl) h2
      exact .inr ⟨ga,st',par,rfl,(hlow1 ga (by omega)).trans q1⟩
    have hlw:bP around l=bP around (l.take i)++(fo around X++bP around xs):=by
     conv=>lhs; rw [hl2]
     rw [kN]; rfl
    have hokX:ok X:=by
     refine hok (X,around) ?_
     rw [hlw]
     obtain ⟨_,_,_,_,_,_,_,_,_⟩:=X
     simp [fo]
    have hcb:=S.call (v++bP around (l.take i)) F1 X around (norm x) h1 (c+1) (by simp [hwl]; omega) hokX (S.frame i1 fun k hk=>hlow1 k (hF1c k hk)) (fun k hk=>by have:=hF1c k hk; omega) hst1 (by omega)
    have hb15:∀ y∈X.cells,AV.cell y=true:=fun y hy=>by
     have:=lz X
     simp only [az,Bool.and_eq_true,List.all_eq_true] at this
     exact this.2 y hy
    obtain ⟨kind,name,low,high,conds,body,array,subs,⟨op,n2,form,ea,es2,args⟩⟩:=X
    have hbody:aC body<aC l:=by simp [count] at hcut; omega
    rw [Step.av_mk] at hcb
    simp only [List.append_assoc,List.singleton_append,List.cons_append,List.nil_append] at hcb
    simp [hv,hi,hx2,Step.cells_mk]
    rw [Step.cells_mk] at hh1
    rw [←hh1]
    refine hcb.mono ?_
    rintro av ⟨h2,c2⟩ hc2 ⟨F2,j1,j2,j3,j4⟩
    simp only at hc2 j1 j2 j3 j4
    have hnF1c:¬F1 c:=fun hk=>by have:=hF1c c hk; omega
    have hbox2:h2 c=some (.row 15 [[.int kind,.str name,row (low.map Bound.cells),row (high.map Bound.cells),row (conds.map Form.cells),row (body.map Step.cells),.str array,row (subs.map Form.cells),.int op,.int n2,.int form.const,row (form.terms.map Term.cells),.str ea,row (es2.map Form.cells),row (args.map Expr.cells)]] .live none):=(j3 c (by omega) hnF1c).trans (by rw [hh1,af])
    have hF2c:∀ k,F2 k→k<c2:=fun k hk=>by
     rcases j2 k hk with h | h
     ·have:=hF1c k h; omega
     ·omega
    obtain ⟨X,hX⟩:∃ X:Wb.Step,X=.mk kind name low high conds body array subs (.mk op n2 form ea es2 args):=⟨_,rfl⟩
    have hXc:X.cells=[.int kind,.str name,row (low.map Bound.cells),row (high.map Bound.cells),row (conds.map Form.cells),row (body.map Step.cells),.str array,row (subs.map Form.cells),.int op,.int n2,.int form.const,row (form.terms.map Term.cells),.str ea,row (es2.map Form.cells),row (args.map Expr.cells)]:=by rw [hX,Step.cells_mk]
    rw [←hX] at j1 htake hcut hlw
    have hcX:count X=1+aC body:=by rw [hX]; rfl
    have hwX:fo around X=(X,around)::bP (around++[X]) body:=by rw [hX]; rfl
    rw [←hXc] at hbox2
    have hXok:=lz X
    have hc2c:¬c=c2:=by omega
    have hnext:∀ (h3:Heap) (x1:AV),ArAt h3 F2 (c2+1) x1 (around++[X])→(∀ k,an x1 k→k=c2)→(∀ k,F2 k→h3 k=h2 k)→(∀ k,k<c0→¬an x k→h3 k=h2 k) →
      (∀ ga sz es st par,an x ga→h0 ga=some (.row sz es st par)→h3 ga=some (.row sz es (.lent c2) par))→(∀ sz es st par,h3 c2=some (.row sz es st par)→(∃ ga,an x ga)→∃ p,par=some p) →
      ACalls Pg Fn102.n [row (body.map Step.cells),x1,.fn (.func fn) a b] ⟨h3,c2+1⟩ fun av s'=>c2+1≤s'.c∧∀ sl',Inv (i+1) xs sl' s':=by
     intro h3 x1 hx1 hx1c hf3 hlow3 hga3 hpar3
     have hokb:∀ y∈bP (around++[X]) body,ok y.1:=fun y hy=>hok y (by
      rw [hlw,hwX]; simp [hy])
     have hrec:=ih (aC body) (by omega) body (Nat.le_refl _) (v++(bP around (l.take i)++[(X,around)])) F2 (around++[X]) x1 h3 (c2+1) (by simp [hwl]; omega) hokb (S.frame j1 hf3) (fun k hk=>by have:=hF2c k hk; omega) hx1 (by simp; omega)
     refine hrec.mono ?_
     rintro av ⟨h4,c4⟩ hc4 ⟨F3,r1,r2,r3,r4,r5⟩
     refine ⟨hc4,fun sl'=>?_⟩
     simp only at hc4 r1 r2 r3 r4 r5
     rw [hInv]
     refine ⟨F3,?_,fun k hk=>?_,?_,by show c0≤c4; omega,fun k hk hkF hkx=>?_⟩
     ·rw [htake,kN]
      simpa [bP,hwX] using r1
     ·rcases r2 k hk with h | h
      ·rcases j2 k h with h | h
       ·rcases i2 k h with h | h
        ·exact .inl h
        ·exact .inr (by show c0≤k∧k<c4; omega)
       ·exact .inr (by show c0≤k∧k<c4; omega)
      ·exact .inr (by show c0≤k∧k<c4; omega)
     ·intro ga sz es st par hga hh
      have hgc:=(hax.2 ga hga).1
      have hgF1:=(hax.2 ga hga).2
      have hgF2:¬F2 ga:=fun hf=>by
       rcases j2 ga hf with h | h
       ·exact hgF1 h
       ·omega
      have hg4:h4 ga=some (.row sz es (.lent c2) par):=(r3 ga (by omega) hgF2 fun hr=>by have:=hx1c ga hr; omega).trans (hga3 ga sz es st par hga hh)
      refine ⟨.lent c2,hg4,.inr ⟨c2,rfl,by omega,by show c2<c4; omega,fun hf=>?_,?_⟩⟩
      ·rcases r2 c2 hf with h | h
       ·have:=hF2c c2 h; omega
       ·omega
      ·right
       rcases hx1 with ⟨_,rfl⟩ | ⟨g1,par1,rfl,q1,_⟩
       ·rename_i e; simp at e
       ·have:=hx1c g1 (aq.2 rfl)
        subst this
        obtain ⟨p,rfl⟩:=hpar3 _ _ _ _ q1 ⟨ga,hga⟩
        obtain ⟨st',t1,t2⟩:=r5 g1 _ _ _ _ (aq.2 rfl) q1
        refine ⟨_,_,st',p,t1,t2.imp id ?_⟩
        rintro ⟨j,e,k1,k2,k3,k4⟩
        exact ⟨j,e,k2,k3,k4⟩
     ·have hkF1:¬F1 k:=fun hf=>by
       rcases i2 k hf with h | h
       ·exact hkF h
       ·omega
      have hkF2:¬F2 k:=fun hf=>by
       rcases j2 k hf with h | h
       ·exact hkF1 h
       ·omega
      show h4 k=h0 k
      rw [r3 k (by omega) hkF2 (fun hr=>by have:=hx1c k hr; omega),hlow3 k hk hkx,j3 k (by omega) hkF1,hlow1 k (by omega)]
      exact i5 k hk hkF hkx
    rcases hx with ⟨rfl,rfl⟩ | ⟨ga,par,rfl,hx2',hx3,hx4⟩
    ·have hbs:=dM (sz:=15) (zs:=[.int 0,.str ⟨#[]⟩,.nil,.nil,.nil,.nil,.str ⟨#[]⟩,.nil,.int 0,.int 0,.int 0,.nil,.str ⟨#[]⟩,.nil,.nil]) (by rfl) (by decide) hXok ⟨h2,c2⟩
     have hap:=cJ (sz:=15) (bytes:=272) (md:=.fork) (es:=[]) (xs:=[X.cells]) (b:=true) (s:=⟨h2,c2⟩) (by decide) (by decide) (by decide) (by simp) (fun e he=>by rw [List.mem_singleton.1 he]; exact hXok) (by simp) (.inr rfl)
     simp at hap
     have hnx:=hnext (upd h2 c2 (some (.row 15 [X.cells] .live none))) (.row c2 15 0 1) (.inr ⟨c2,none,rfl,by simp,fun hf=>by have:=hF2c c2 hf; omega,by omega⟩) (fun k hk=>aq.1 hk) (fun k hk=>ad (by have:=hF2c k hk; omega)) (fun k hk _=>ad (by omega)) (fun ga _ _ _ _ hr=>absurd hr aJ) (fun _ _ _ _ _ ⟨ga,hr⟩=>absurd hr aJ)
     rw [hXc] at hbs hap hnx
     simp [hbox2,hXc,hbs,hap,hc2c]
     refine hnx.mono ?_
     rintro av s' hc' ⟨hc4,hfin⟩
     simp [hv,hw]
     exact hfin _
    ·obtain ⟨st',q1,q2⟩:=i3 ga _ _ _ _ (aq.2 rfl) hx2'
     have hgaF1:=(hax.2 ga (aq.2 rfl)).2
     have hgaF2:¬F2 ga:=fun hf=>by
      rcases j2 ga hf with h | h
      ·exact hgaF1 h
      ·omega
     have hga2:h2 ga=some (.row 15 (around.map Step.cells) st' par):=(j3 ga (by omega) hgaF1).trans ((hlow1 ga (by omega)).trans q1)
     have hbs:=dM (sz:=15) (zs:=[.int 0,.str ⟨#[]⟩,.nil,.nil,.nil,.nil,.str ⟨#[]⟩,.nil,.int 0,.int 0,.int 0,.nil,.str ⟨#[]⟩,.nil,.nil]) (by rfl) (by decide) hXok ⟨h2,c2⟩
     have hap:∃ h2':Heap,apI 15 272 .fork (.row ga 15 0 around.length) (.sl [X.cells] true) ⟨h2,c2⟩=some (.row c2 15 0 (around.length+1),⟨upd (upd h2' ga (some (.row 15 (around.map Step.cells) (.lent c2) par))) c2 (some (.row 15 (around.map Step.cells++[X.cells]) .live (some ga))),c2+1⟩)∧(∀ k,F2 k→h2' k=h2 k)∧(∀ k,k<c0→h2' k=h2 k)∧h2' c=h2 c:=by
      have hall:[X.cells].all (az 15)=true:=by simp only [List.all_cons,hXok,List.all_nil]; rfl
      have hle:around.length+[X.cells].length≤68719476736:=by simp; omega
      rcases q2 with rfl | ⟨k,rfl,k1,k2,k3,k4⟩
      ·refine ⟨h2,?_,fun _ _=>rfl,fun _ _=>rfl,rfl⟩
       simp only [apI,St.show_,hall,d8,hga2,pu]
       simp
       omega
      ·have hkF2:¬F2 k:=fun hf=>by
        rcases j2 k hf with h | h
        ·exact k3 h
        ·omega
       have hk2:h2 k=h k:=(j3 k (by omega) k3).trans (hlow1 k k2)
       have hgone:Heap.gone h2 k=true:=by
        unfold Heap.gone
        rw [hk2]
        rcases k4 with k4 | ⟨sz,es,st,p,k4,k5⟩
        ·rw [k4]
        ·rw [k4]
         rcases k5 with rfl | ⟨j,rfl,m1,m2,m3⟩
         ·rfl
         ·have:h2 j=none:=(j3 j (by omega) m2).trans ((hlow1 j m1).trans m3)
          simp [this]
       refine ⟨upd h2 k none,?_,fun k' hk'=>ad fun e=>hkF2 (e▸hk'),fun k' hk'=>ad (by omega),ad (by omega)⟩
       simp only [apI,St.show_,hall,d8,hga2,pu,hgone]
       simp
       omega
     obtain ⟨h2',hap,hp1,hp2,hp3⟩:=hap
     have hnx:=hnext (upd (upd h2' ga (some (.row 15 (around.map Step.cells) (.lent c2) par))) c2 (some (.row 15 (around.map Step.cells++[X.cells]) .live (some ga)))) (.row c2 15 0 (around.length+1)) (.inr ⟨c2,some ga,by simp,by rw [af]; simp,fun hf=>by have:=hF2c c2 hf; omega,by omega⟩) (fun k hk=>aq.1 hk) (fun k hk=>by rw [ad (by have:=hF2c k hk; omega),ad (show k≠ga from fun e=>hgaF2 (e▸hk))]; exact hp1 k hk) (fun k hk hkx=>by rw [ad (by omega),ad (show k≠ga from fun e=>hkx (aq.2 e))]; exact hp2 k hk)
      (fun ga' sz es st par' hr hh=>by
       have:=aq.1 hr; subst this
       rw [hx2'] at hh; injection hh with hh; injection hh with e1 e2 e3 e4
       rw [ad (by omega),af,e1,e2,e4]) (fun sz es st par' hh _=>by rw [af] at hh; injection hh with hh; injection hh with e1 e2 e3 e4; exact ⟨ga,e4.symm⟩)
     have hcga:¬c=ga:=by omega
     rw [hXc] at hbs hap hnx
     simp [hbox2,hXc,hbs,hap,hc2c,hcga,hp3]
     refine hnx.mono ?_
     rintro av s' hc' ⟨hc4,hfin⟩
     simp [hv,hw]
     exact hfin _
  ·rintro av s' hc ⟨F',i1,i2,i3,i4⟩
   refine ⟨F',S.frame i1 fun k hk=>jX (S.par i1 k hk),i2,fun k hk a b=>(fI hk).trans (i3 k hk a b),fun k hk sz es st p hh=>?_,?_⟩
   ·obtain ⟨q1,q2⟩:=eG hh
    rcases q2 with q2 | q2
    ·omega
    ·exact q2 _ _ _ _ rfl
   ·intro ga sz es st par hga hh
    obtain ⟨st',q1,q2⟩:=i4 ga sz es st par hga hh
    have hgc:ga<c0:=by
     rcases hx with ⟨_,rfl⟩ | ⟨ga',par',rfl,_,_,h4⟩
     ·exact absurd hga aJ
     ·have:=aq.1 hga; omega
    refine ⟨st',(fI hgc).trans q1,?_⟩
    rcases q2 with q2 | ⟨k,e,hk1,hk2,hkF,hk3⟩
    ·exact .inl q2
    ·refine .inr ⟨k,e,hk1,hk2,hkF,?_⟩
     rcases hk3 with hk3 | ⟨sz2,es2,st2,p2,hk3,_⟩
     ·show AM.dropF c0 s'.h k=none
      rw [jX (fun sz es st p h=>by rw [hk3] at h; cases h)]; exact hk3
     ·exact rY hk1 hk3
end Go.Proofs.YtocppbmmfklbmaaGreat
set_option maxRecDepth 20000
set_option maxHeartbeats 4000000
namespace Go.Proofs.YtocppbmmfklbmaaGreat
open Go.AM Go.Wb
def eD (y:Wb.Step×List Wb.Step):Bool:=decide (Step.kind y.1=3)
theorem jl:∀ (around:List Wb.Step) (x:Wb.Step),hJ around x=((fo around x).filter eD).map fun y=>(y.1,y.2.filter isLoop)
 | around,.mk kind name low high conds body array subs expr=>by
  have ih:=stmts_walkL' (around++[.mk kind name low high conds body array subs expr]) body
  simp only [hJ,fo,List.filter_cons,eD,Step.kind]
  split
  ·rename_i h
   subst h
   simp [ih]
  ·rename_i h
   simp [h,ih]
where
 stmts_walkL':∀ (around:List Wb.Step) (l:List Wb.Step),bw around l=((bP around l).filter eD).map fun y=>(y.1,y.2.filter isLoop)
  | around,[]=>rfl
  | around,s::ss=>by simp only [bw,bP,List.filter_append,List.map_append,jl around s,stmts_walkL' around ss]
theorem jh (around:List Wb.Step) (l:List Wb.Step):bw around l=((bP around l).filter eD).map fun y=>(y.1,y.2.filter isLoop):=jl.stmts_walkL' around l
theorem ud (X:Wb.Step) (x:AV) (hx:x.val=true) (gb:Nat) (n:Int) (hn:0≤n) (hn2:n≤1000000) (h0:Heap) (c0:Nat) (hg:h0 gb=some (.row 1 [[.int n]] .live none)) (hgc:gb<c0) :
  ACalls Pg Fn194.n [X.av,x,.ptr gb 0 0] ⟨h0,c0⟩ fun av s'=>s'.h gb=some (.row 1 [[.int (if Step.kind X=3 then n+1 else n)]] .live none)∧∀ k,k≠gb→s'.h k=h0 k:=by
 obtain ⟨kind,name,low,high,conds,body,array,subs,⟨op,n2,form,ea,es,args⟩⟩:=X
 rw [Step.av_mk]
 refine Fn194.calls .frz ?_
 unfold Fn194.ac
 have h1:¬gb=c0:=by omega
 have hw:=ae (x:=n+1) (by omega) (by omega)
 by_cases h3:kind=3
 ·simp [h3,hg,h1,hw,Step.kind]
  refine ⟨by rw [retH_at hgc,af],retH_out fun k hk hkg=>by rw [ad hkg,ad (by omega)]⟩
 ·simp [h3,hg,h1,hw,Step.kind]
theorem qc (l:List Wb.Step) (hl:aC l≤900):aN Pg Fn162.n [row (l.map Step.cells)] (.int (fX l)):=by
 rintro ⟨h0,c0⟩
 refine Fn162.calls .frz ?_
 unfold Fn162.ac
 simp
 have hS:Sees Fn194.n [] [.ptr c0 0 0] (fun v F h=>(∀ k,F k↔k=c0)∧h c0=some (.row 1 [[.int ((v.filter eD).length:Nat)]] .live none)) 1000 (fun _=>True):=by
  refine ⟨fun {v F h h'} hI hh=>⟨hI.1,(hh c0 ((hI.1 c0).2 rfl)).trans hI.2⟩,fun {v F h} hI k hk sz es st p e=>?_,fun v F X around x h c hv _ hI hF hx har=>?_⟩
  ·have:=(hI.1 k).1 hk
   subst this
   rw [hI.2] at e; cases e
  ·have hlen:(v.filter eD).length≤v.length:=List.length_filter_le _ _
   have hxv:x.val=true:=by
    rcases hx with ⟨_,b,rfl⟩ | ⟨_,_,_,rfl,_⟩ <;> rfl
   refine ACalls.clean fun hcl=>?_
   refine (ud X x hxv c0 _ (by omega) (by omega) h c hI.2 (hF c0 ((hI.1 c0).2 rfl))).mono ?_
   rintro av ⟨h2,c2⟩ hc2 ⟨q1,q2⟩
   simp only at q1 q2 hc2
   refine ⟨F,⟨hI.1,?_⟩,fun k hk=>.inl hk,fun k hk hkF=>q2 k fun e=>hkF ((hI.1 k).2 e),fun k hk sz es st p e=>?_⟩
   ·show h2 c0=_
    rw [q1,List.filter_append]
    by_cases h3:Step.kind X=3
    ·simp [h3,eD]
    ·simp [h3,eD]
   ·have:=hF c0 ((hI.1 c0).2 rfl)
    have e':h2 k=some (.row sz es st (some p)):=e
    have hn:h k=none:=hcl k hk
    rw [q2 k (by omega),hn] at e'
    cases e'
 have hw:=qn hS (aC l) l (Nat.le_refl _) [] (fun k=>k=c0) [] (.sl [] true) (upd h0 c0 (some (.row 1 [[.int 0]] .live none))) (c0+1) (by simp; omega) (fun _ _=>trivial) ⟨fun k=>Iff.rfl,af⟩ (fun k hk=>by omega) (.inl ⟨rfl,rfl⟩) (by simp; omega)
 refine hw.mono ?_
 rintro av ⟨h2,c2⟩ hc2 ⟨F',⟨i1,i2⟩,i3,i4,i5,i6⟩
 simp only at hc2 i2 i4
 have hlen:((bP [] l).filter eD).length=fX l:=by
  rw [←jM [] l,jh]; simp
 rw [List.nil_append,hlen] at i2
 simp [i2]
 exact aE fun k hk=>by rw [i4 k (by omega) (by omega) aJ,ad (by omega)]
end Go.Proofs.YtocppbmmfklbmaaGreat
set_option maxRecDepth 20000
set_option maxHeartbeats 4000000
namespace Go.Proofs.YtocppbmmfklbmaaGreat
open Go.AM Go.Wb
def fG (y:Wb.Step×List Wb.Step):List AV:=y.1.cells++[row ((y.2.filter isLoop).map Step.cells),row ((cK (Step.expr y.1)).map Expr.cells)]
theorem la (y:Wb.Step×List Wb.Step):az 17 (fG y)=true:=by
 obtain ⟨⟨_,_,_,_,_,_,_,_,⟨_,_,_,_,_,_⟩⟩,_⟩:=y; rfl
def mD (gb gp:Nat) (v:List (Wb.Step×List Wb.Step)) (F:Nat→Prop) (h:Heap):Prop:=
 h gb=some (.row 1 [[.ptr gp 0 0]] .live none)∧∃ stm,h gp=some (.row 6 [[stm,.sl [] true,.sl [] true,.int 0,.sl [] true,.sl [] true]] .live none)∧RowAt h 17 stm ((v.filter eD).map fG)∧∀ k,F k↔k=gb∨k=gp∨an stm k
theorem tz (y:Wb.Step×List Wb.Step) (hr:Step.kind y.1=3→aR (Step.expr y.1)≤4096) (hy:y.2.length≤1000) (x:AV) (gb gp:Nat) (hgg:gb≠gp) (v:List (Wb.Step×List Wb.Step)) (hv:v.length≤1000000) (F:Nat→Prop) (h0:Heap) (c0:Nat) (hI:mD gb gp v F h0) (hF:∀ k,F k→k<c0) (hx:fK h0 x y.2) :
  ACalls Pg Fn103.n [y.1.av,x,.ptr gb 0 0] ⟨h0,c0⟩ fun av s'=>∃ F',mD gb gp (v++[y]) F' s'.h∧(∀ k,F' k→F k∨(c0≤k∧k<s'.c))∧∀ k,k<c0→¬F k→s'.h k=h0 k:=by
 obtain ⟨⟨kind,name,low,high,conds,body,array,subs,⟨op,n2,form,ea,es,args⟩⟩,ar⟩:=y
 obtain ⟨i1,stm,i2,i3,i4⟩:=hI
 have hgb:=hF gb ((i4 gb).2 (.inl rfl))
 have hgp:=hF gp ((i4 gp).2 (.inr (.inl rfl)))
 have hsm:=fun k hk=>hF k ((i4 k).2 (.inr (.inr hk)))
 refine ACalls.clean fun hcl=>?_
 have hcl:∀ k,c0≤k→h0 k=none:=fun k hk=>hcl k hk
 rw [Step.av_mk]
 refine Fn103.calls .keep ?_
 unfold Fn103.ac
 have h1:¬gb=c0:=by omega
 have h2:¬gp=c0:=by omega
 by_cases h3:kind=3
 ·subst h3
  simp [i1,i2,h1,h2]
  obtain ⟨hb,hhb⟩:∃ hb,hb=upd h0 c0 (some (.row 15 [(Wb.Step.mk 3 name low high conds body array subs (.mk op n2 form ea es args)).cells] .live none)):=⟨_,rfl⟩
  rw [Step.cells_mk] at hhb
  rw [←hhb]
  have hlow:∀ k,k<c0→hb k=h0 k:=fun k hk=>by rw [hhb,ad (by omega)]
  have hbx:hb c0=_:=(congrFun hhb c0).trans af
  have hx2:fK hb (norm x) ar:=by
   rcases hx with ⟨e1,b,rfl⟩ | ⟨ga,st,par,rfl,hga⟩
   ·exact .inl ⟨e1,_,rfl⟩
   ·refine .inr ⟨ga,st,par,rfl,(hlow ga ?_).trans hga⟩
    refine Classical.byContradiction fun hn=>?_
    have:=hcl ga (by omega)
    simp only at hga
    rw [this] at hga; cases hga
  refine ACalls.at (ua ar (by simp at hy; omega) (norm x) hb (c0+1) hx2) fun c1 hc1=>?_
  have b1:=(hlow gb hgb).trans i1
  have b2:=(hlow gp hgp).trans i2
  have hrd:=uH _ (.mk op n2 form ea es args) (Nat.le_refl _) (hr rfl)
  rw [Expr.av_mk] at hrd
  simp [b1,b2,hbx]
  refine ACalls.pure hrd fun c2 hc2=>?_
  have i3':RowAt hb 17 stm ((v.filter eD).map fG):=i3.frame fun k hk=>hlow k (hsm k hk)
  have hfl:(v.filter eD).length≤v.length:=List.length_filter_le _ _
  obtain ⟨h4,hap,hap1,hap2,hap3⟩:=i3'.push (c:=c2) (bytes:=320) (md:=.plain) (b:=true) (by decide) (by decide) (by decide) (by decide) (la (.mk 3 name low high conds body array subs (.mk op n2 form ea es args),ar)) (fun e he=>by obtain ⟨t,_,rfl⟩:=List.mem_map.1 he; exact la t) (by simp; omega) (fun k hk=>by have:=hsm k hk; omega)
  have hne:¬gp=c2:=by omega
  have hst:fG (.mk 3 name low high conds body array subs (.mk op n2 form ea es args),ar)=[.int 3,.str name,row (low.map Bound.cells),row (high.map Bound.cells),row (conds.map Form.cells),row (body.map Step.cells),.str array,row (subs.map Form.cells),.int op,.int n2,.int form.const,row (form.terms.map Term.cells),.str ea,row (es.map Form.cells),row (args.map Expr.cells),row ((ar.filter isLoop).map Step.cells),row ((cK (.mk op n2 form ea es args)).map Expr.cells)]:=by
   simp [fG,Step.cells_mk,Step.expr]
  rw [hst] at hap hap1 hap2
  have nsm:¬an stm gp:=fun hr=>by
   rcases i3 with ⟨e,_⟩ | ⟨g,e,hg⟩
   ·rw [e] at hr; exact aJ hr
   ·rw [e] at hr; have:=aq.1 hr; subst this; rw [i2] at hg; cases hg
  have nsb:¬an stm gb:=fun hr=>by
   rcases i3 with ⟨e,_⟩ | ⟨g,e,hg⟩
   ·rw [e] at hr; exact aJ hr
   ·rw [e] at hr; have:=aq.1 hr; subst this; rw [i1] at hg; cases hg
  have b4:=(hap3 gp (by omega) nsm).trans b2
  have b5:=(hap3 gb (by omega) nsb).trans b1
  simp [b1,b2,hbx,bsI,au,aK,hap,b4,b5]
  refine ⟨fun k=>k=gb∨k=gp∨k=c2,⟨by rw [ad hgg]; exact b5,_,af,?_,fun k=>by rw [aq]⟩,fun k hk=>?_,fun k hk hkF=>?_⟩
  ·rw [List.filter_append]
   simp [eD,Step.kind,hst]
   refine .inr ⟨c2,by simp,?_⟩
   rw [ad (by omega)]; exact hap1
  ·rcases hk with rfl | rfl | rfl
   ·exact .inl ((i4 _).2 (.inl rfl))
   ·exact .inl ((i4 _).2 (.inr (.inl rfl)))
   ·exact .inr ⟨by omega,by simp⟩
  ·have hkF':k≠gb∧k≠gp∧¬an stm k:=⟨fun e=>hkF ((i4 k).2 (.inl e)),fun e=>hkF ((i4 k).2 (.inr (.inl e))),fun e=>hkF ((i4 k).2 (.inr (.inr e)))⟩
   rw [ad hkF'.2.1,hap3 k (by omega) hkF'.2.2]
   exact hlow k hk
 ·simp [h3]
  refine ⟨F,⟨by rw [ad h1]; exact i1,stm,by rw [ad h2]; exact i2,?_,i4⟩,fun k hk=>.inl hk,fun k hk _=>by rw [ad (by omega)]⟩
  rw [List.filter_append]
  simp [eD,Step.kind,h3]
  exact i3.frame fun k hk=>ad (by have:=hsm k hk; omega)
end Go.Proofs.YtocppbmmfklbmaaGreat
set_option maxRecDepth 20000
set_option maxHeartbeats 4000000
namespace Go.Proofs.YtocppbmmfklbmaaGreat
open Go.AM Go.Wb
@[simp] theorem _root_.Go.AM.finW_fz_reP {P:Program} {d:Option Nat} {q:Nat×Option (Nat×Bool)×I} {re:List (Nat×Option (Nat×Bool)×I)} {r:List AO} {K:Slots→St→Prop} {sl:Slots} {v:AV} {s:St} :
  aX P d .fz (q::re) r K sl v s=@dz (fzI v s) ⟨fun v' s'=>(∀ x∈q::re,fc x sl s')∧aO P r K (put sl d v') s'⟩:=Eq.trans rfl rfl
structure RR where
 names:AV
 now:AV
 which:AV
 vals:AV
def RR.own (r:RR) (gr go k:Nat):Prop:=k=gr∨k=go∨an r.names k∨an r.now k∨an r.which k∨an r.vals k
structure RI (h:Heap) (c gr go:Nat) (stm:AV) (e:Env) (r:RR) (s:RS):Prop where
 now:NowAt h c gr e go 0 r.names r.now
 obj:h go=some (.row 6 [[stm,r.which,r.vals,.int s.rounds,.sl [] true,.sl [] true]] .live none)
 which:RowAt h 1 r.which (aj (s.l.map fun i=>(i.num:Int)))
 vals:RowAt h 1 r.vals (s.l.map fun i=>[row (aj (i.env.map (·.2)))])
 lt:∀ k,r.own gr go k→k<c
 d1:∀ k,an r.names k→k≠gr∧k≠go∧¬an r.now k∧¬an r.which k∧¬an r.vals k
 d2:∀ k,an r.now k→k≠gr∧k≠go∧¬an r.which k∧¬an r.vals k
 d3:∀ k,an r.which k→k≠gr∧k≠go∧¬an r.vals k
 d4:∀ k,an r.vals k→k≠gr∧k≠go
 gg:gr≠go
 len:s.l.length≤50000
 rounds:0≤s.rounds∧s.rounds≤200000
theorem RI.frame {h h':Heap} {c c' gr go:Nat} {stm:AV} {e:Env} {r:RR} {s:RS} (x:RI h c gr go stm e r s) (hc:c≤c') (hh:∀ k,r.own gr go k→h' k=h k):RI h' c' gr go stm e r s:=by
 have hgr:r.own gr go gr:=.inl rfl
 have hgo:r.own gr go go:=.inr (.inl rfl)
 have hn:∀ k,an r.names k→r.own gr go k:=fun k hk=>.inr (.inr (.inl hk))
 have hw:∀ k,an r.now k→r.own gr go k:=fun k hk=>.inr (.inr (.inr (.inl hk)))
 refine ⟨⟨(hh gr hgr).trans x.now.at_,x.now.hnames.frame fun k hk=>hh k (hn k hk),x.now.hnow.frame fun k hk=>hh k (hw k hk),by have:=x.now.gr; omega,fun k hk=>by have:=x.lt k (hn k hk); omega,fun k hk=>by have:=x.lt k (hw k hk); omega⟩,(hh go hgo).trans x.obj,x.which.frame fun k hk=>hh k (.inr (.inr (.inr (.inr (.inl hk))))),x.vals.frame fun k hk=>hh k (.inr (.inr (.inr (.inr (.inr hk))))),fun k hk=>by have:=x.lt k hk; omega,x.d1,x.d2,x.d3,x.d4,x.gg,x.len,x.rounds⟩
theorem RI.fr {h h':Heap} {c c' gr go:Nat} {stm:AV} {e:Env} {r:RR} {s:RS} (x:RI h c gr go stm e r s) (hF:Fr c h h' c'):RI h' c' gr go stm e r s:=x.frame hF.c fun k hk=>hF.h k (x.lt k hk)
structure RFp (c0:Nat) (a b:Nat→Prop) (h0 h:Heap):Prop where
 same:∀ k,k<c0→¬a k→h k=h0 k
 rows:∀ k,b k→a k∨c0≤k
theorem RFp.trans {c0 c1:Nat} {a b d:Nat→Prop} {h0 h1 h2:Heap} (x:RFp c0 a b h0 h1) (y:RFp c1 b d h1 h2) (hc:c0≤c1):RFp c0 a d h0 h2:=
 ⟨fun k hk hka=>by
  rw [y.same k (by omega) fun hb=>(x.rows k hb).elim hka fun h=>by omega]; exact x.same k hk hka,
  fun k hk=>(y.rows k hk).elim (x.rows k) fun h=>.inr (by omega)⟩
theorem RFp.refl {c0:Nat} {a:Nat→Prop} {h:Heap}:RFp c0 a a h h:=⟨fun _ _ _=>rfl,fun _ h=>.inl h⟩
theorem RFp.ext {c0 c1:Nat} {a b:Nat→Prop} {h0 h1 h2:Heap} (x:RFp c0 a b h0 h1) (hh:∀ k,k<c1→h2 k=h1 k) (hc:c0≤c1):RFp c0 a b h0 h2:=
 ⟨fun k hk hka=>by rw [hh k (by omega)]; exact x.same k hk hka,x.rows⟩
theorem _root_.Go.AM.RowPre.show_ {h:Heap} {c sz:Nat} {x:AV} {es:List (List AV)} (r:RowPre h sz x es) (hx:∀ k,an x k→k<c):(St.mk h c).show_ x=some es∧d8 x sz=true:=by
 rcases r with ⟨rfl,rfl⟩ | ⟨g,full,rfl,hg⟩
 ·exact ⟨rfl,rfl⟩
 ·simp [St.show_,hg,d8]
theorem jH (L:List Int):(aj L).all (az 1)=true:=List.all_eq_true.2 fun e he=>by obtain ⟨t,_,rfl⟩:=List.mem_map.1 he; rfl
theorem tW {h:Heap} {c:Nat} {x:AV} {L:List Int} (r:RowPre h 1 x (aj L)) (hx:∀ k,an x k→k<c) (hl:L.length≤1000000) {md:Md}:apI 1 8 md (.sl [] true) x ⟨h,c⟩=some (.row c 1 0 L.length,⟨upd h c (some (.row 1 (aj L) .live none)),c+1⟩):=by
 obtain ⟨h1,h2⟩:=r.show_ hx
 have h3:(aj L).length≤68719476736:=by simp [aj]; omega
 simp only [apI,h1,jH,h2,h3]
 simp [aj,newRow]
 omega
theorem tD (num:Nat) (hn:(num:Int)≤1000000) (X:Wb.Step) (way:List Int) (e:Env) (hel:e.length≤100000) (gr go:Nat) (stm:AV) (r:RR) (s:RS) (h0:Heap) (c0:Nat) (hr:RI h0 c0 gr go stm e r s) :
  ACalls Pg Fn165.n [.ptr gr 0 0,.int num] ⟨h0,c0⟩ fun av s'=>if s.l.length=50000 then av=.int 12∧s'.h=h0 else av=.int 0∧∃ r':RR,RI s'.h s'.c gr go stm e r' ⟨s.rounds,s.l++[⟨num,X,e,way⟩]⟩∧RFp c0 (r.own gr go) (r'.own gr go) h0 s'.h:=by
 refine Fn165.calls .keep ?_
 unfold Fn165.ac
 have hat:=hr.now.at_
 have hgo:=hr.obj
 have hwl:=hr.which.len ⟨h0,c0⟩
 have hlen:=hr.len
 have e1:(aj (s.l.map fun i=>(i.num:Int))).length=s.l.length:=by simp [aj]
 rw [e1] at hwl
 by_cases hfull:s.l.length=50000
 ·rw [hfull] at hwl
  simp [hat,hgo,hwl,hfull]
 have hfull':¬((s.l.length:Int)=50000):=by omega
 have hnow:=hr.now.hnow
 have lgr:=hr.lt gr (.inl rfl)
 have lgo:=hr.lt go (.inr (.inl rfl))
 have lw:∀ k,an r.which k→k<c0:=fun k hk=>hr.lt k (.inr (.inr (.inr (.inr (.inl hk)))))
 have lv:∀ k,an r.vals k→k<c0:=fun k hk=>hr.lt k (.inr (.inr (.inr (.inr (.inr hk)))))
 obtain ⟨h1,p1,p2,p3,p4⟩:=hr.which.push (c:=c0) (bytes:=8) (md:=.plain) (b:=true) (e:=[.int num]) (by decide) (by decide) (by decide) (by decide) rfl (fun e he=>List.all_eq_true.1 (jH _) e he) (by rw [e1]; omega) lw
 rw [e1] at p1 p3
 have hgo1:=(p4 go (by omega) (fun h=>(hr.d3 go h).2.1 rfl)).trans hgo
 have hgr1:=(p4 gr (by omega) (fun h=>(hr.d3 gr h).1 rfl)).trans hat
 obtain ⟨h2,hh2⟩:∃ h2,h2=upd h1 go (some (.row 6 [[stm,.row c0 1 0 (s.l.length+1),r.vals,.int s.rounds,.sl [] true,.sl [] true]] .live none)):=⟨_,rfl⟩
 have hgr2:h2 gr=_:=(congrFun hh2 gr).trans ((ad hr.gg).trans hgr1)
 have hgo2:h2 go=_:=(congrFun hh2 go).trans af
 have hk2':∀ k,k≠c0→k≠go→¬an r.which k→h2 k=h0 k:=fun k a b d=>by rw [hh2,ad b]; exact p4 k a d
 have hnow2:RowPre h2 1 r.now (aj (e.map (·.2))):=hnow.frame fun k hk=>hk2' k (by have:=hr.now.wb k hk; omega) (hr.d2 k hk).2.1 (hr.d2 k hk).2.2.1
 have hcp:=tW (md:=.fz) (c:=c0+1) hnow2 (fun k hk=>by have:=hr.now.wb k hk; omega) (by simp; omega)
 simp [hat,hgo,hwl,hfull,hfull',bsI,au,p1,hgo1,hgr1,hr.gg,←hh2]
 have e2:(s.l.map fun i=>[row (aj (i.env.map (·.2)))]).length=s.l.length:=by simp
 have e3:(aj (e.map (·.2))).length=(e.map (·.2)).length:=by simp [aj]
 obtain ⟨ha,hha⟩:∃ ha,ha=upd h2 (c0+1) (some (.row 1 (aj (e.map (·.2))) .live none)):=⟨_,rfl⟩
 rw [←hha] at hcp
 have hfz:=cY (s:=⟨ha,c0+1+1⟩) (z:=1) ((congrFun hha _).trans af) e3
 obtain ⟨h3,hh3⟩:∃ h3,h3=upd ha (c0+1) (some (.row 1 (aj (e.map (·.2))) .frz none)):=⟨_,rfl⟩
 simp only [List.length_map] at hfz
 rw [←hh3] at hfz
 have hgr3:h3 gr=_:=(congrFun hh3 gr).trans ((ad (by omega)).trans ((congrFun hha _).trans ((ad (by omega)).trans hgr2)))
 have hgo3:h3 go=_:=(congrFun hh3 go).trans ((ad (by omega)).trans ((congrFun hha _).trans ((ad (by omega)).trans hgo2)))
 have hvals3:RowAt h3 1 r.vals (s.l.map fun i=>[row (aj (i.env.map (·.2)))]):=hr.vals.frame fun k hk=>by
  have:=lv k hk
  rw [hh3,ad (by omega),hha,ad (by omega)]
  exact hk2' k (by omega) (hr.d4 k hk).2 fun h=>(hr.d3 k h).2.2 hk
 obtain ⟨h4,v1,v2,v3,v4⟩:=hvals3.push (c:=c0+1+1) (bytes:=24) (md:=.plain) (b:=true) (e:=[row (aj (e.map (·.2)))]) (by decide) (by decide) (by decide) (by decide) rfl (fun e he=>by obtain ⟨t,_,rfl⟩:=List.mem_map.1 he; rfl) (by rw [e2]; omega) (fun k hk=>by have:=lv k hk; omega)
 rw [e2] at v1 v3
 have hgo4:=(v4 go (by omega) (fun h=>(hr.d4 go h).2 rfl)).trans hgo3
 have hgr4:=(v4 gr (by omega) (fun h=>(hr.d4 gr h).1 rfl)).trans hgr3
 simp [hgr2,hgo2,bsI,au,hcp,hfz,-dP,hgr3,hgo3,v1,hgo4,hgr4]
 obtain ⟨h5,hh5⟩:∃ h5,h5=upd h4 go (some (.row 6 [[stm,.row c0 1 0 (s.l.length+1),.row (c0+1+1) 1 0 (s.l.length+1),.int s.rounds,.sl [] true,.sl [] true]] .live none)):=⟨_,rfl⟩
 rw [←hh5]
 have hlow:∀ k,k<c0→k≠go→¬an r.which k→¬an r.vals k→h5 k=h0 k:=fun k hk n1 n2 n3=>by
  rw [hh5,ad n1,v4 k (by omega) n3,hh3,ad (by omega),hha,ad (by omega),hk2' k (by omega) n1 n2]
 have ln:=hr.now.nb
 have lx:=hr.now.wb
 have nv0:¬an r.vals c0:=fun h=>by have:=lv _ h; omega
 have hc05:h5 c0=some (.row 1 (aj (s.l.map fun i=>(i.num:Int))++[[.int num]]) .live none):=by
  rw [hh5,ad (by omega),v4 c0 (by omega) nv0,hh3,ad (by omega),hha,ad (by omega),hh2,ad (by omega),p2]
 have hc25:h5 (c0+1+1)=_:=(congrFun hh5 _).trans ((ad (by omega)).trans v2)
 refine ⟨⟨r.names,r.now,.row c0 1 0 (s.l.length+1),.row (c0+1+1) 1 0 (s.l.length+1)⟩,⟨⟨?_,?_,?_,?_,?_,?_⟩,?_,?_,?_,?_,?_,?_,?_,?_,hr.gg,?_,hr.rounds⟩,?_⟩
 ·exact (congrFun hh5 gr).trans ((ad hr.gg).trans hgr4)
 ·exact hr.now.hnames.frame fun k hk=>hlow k (ln k hk) (hr.d1 k hk).2.1 (hr.d1 k hk).2.2.2.1 (hr.d1 k hk).2.2.2.2
 ·exact hr.now.hnow.frame fun k hk=>hlow k (lx k hk) (hr.d2 k hk).2.1 (hr.d2 k hk).2.2.1 (hr.d2 k hk).2.2.2
 ·omega
 ·intro k hk; have:=ln k hk; omega
 ·intro k hk; have:=lx k hk; omega
 ·exact (congrFun hh5 go).trans af
 ·exact .inr ⟨c0,by simp [aj],by rw [hc05]; simp [aj]⟩
 ·exact .inr ⟨c0+1+1,by simp,by rw [hc25]; simp⟩
 ·rintro k (h | h | h | h | h | h)
  ·omega
  ·omega
  ·have:=ln k h; omega
  ·have:=lx k h; omega
  ·have:=aq.1 h; omega
  ·have:=aq.1 h; omega
 ·intro k hk
  have:=ln k hk
  have d:=hr.d1 k hk
  exact ⟨d.1,d.2.1,d.2.2.1,fun h=>by have:=aq.1 h; omega,fun h=>by have:=aq.1 h; omega⟩
 ·intro k hk
  have:=lx k hk
  have d:=hr.d2 k hk
  exact ⟨d.1,d.2.1,fun h=>by have:=aq.1 h; omega,fun h=>by have:=aq.1 h; omega⟩
 ·intro k hk
  have:=aq.1 hk
  exact ⟨by omega,by omega,fun h=>by have:=aq.1 h; omega⟩
 ·intro k hk
  have:=aq.1 hk
  exact ⟨by omega,by omega⟩
 ·simp; omega
 ·refine ⟨fun k hk hk2=>hlow k hk (fun h=>hk2 (.inr (.inl h))) (fun h=>hk2 (.inr (.inr (.inr (.inr (.inl h)))))) (fun h=>hk2 (.inr (.inr (.inr (.inr (.inr h)))))),?_⟩
  rintro k (h | h | h | h | h | h)
  ·exact .inl (.inl h)
  ·exact .inl (.inr (.inl h))
  ·exact .inl (.inr (.inr (.inl h)))
  ·exact .inl (.inr (.inr (.inr (.inl h))))
  ·have:=aq.1 h; exact .inr (by omega)
  ·have:=aq.1 h; exact .inr (by omega)
end Go.Proofs.YtocppbmmfklbmaaGreat
set_option maxRecDepth 20000
set_option maxHeartbeats 4000000
namespace Go.Proofs.YtocppbmmfklbmaaGreat
open Go.AM Go.Wb
def rN (gr go:Nat) (stm:AV) (e:Env) (r:RR) (o:Int×RS) (c0:Nat) (h0:Heap) (av:AV) (s':St):Prop:=
 av=.int o.1∧∃ r':RR,RFp c0 (r.own gr go) (r'.own gr go) h0 s'.h∧(o.1=0→RI s'.h s'.c gr go stm e r' o.2)
theorem RI.re {h h':Heap} {c c' gr go:Nat} {stm:AV} {e e':Env} {r:RR} {s:RS} {names now:AV} (x:RI h c gr go stm e r s) (hgr:h' gr=some (.row 4 [[.ptr go 0 0,.int 0,names,now]] .live none))
  (hN:RowPre h' 1 names (aB (e'.map (·.1)))) (hW:RowPre h' 1 now (aj (e'.map (·.2)))) (hk:∀ k,k=go∨an r.which k∨an r.vals k→h' k=h k) (hc:c≤c')
  (nN:∀ k,an names k→an r.names k∨(c≤k∧k<c')) (nW:∀ k,an now k→an r.now k∨(c≤k∧k<c')) (nd:∀ k,an names k→¬an now k):RI h' c' gr go stm e' ⟨names,now,r.which,r.vals⟩ s:=by
 have lgr:=x.lt gr (.inl rfl)
 have lgo:=x.lt go (.inr (.inl rfl))
 have lw:∀ k,an r.which k→k<c:=fun k hk=>x.lt k (.inr (.inr (.inr (.inr (.inl hk)))))
 have lv:∀ k,an r.vals k→k<c:=fun k hk=>x.lt k (.inr (.inr (.inr (.inr (.inr hk)))))
 have bN:∀ k,an names k→k<c':=fun k hk=>(nN k hk).elim (fun h=>by have:=x.now.nb k h; omega) fun h=>h.2
 have bW:∀ k,an now k→k<c':=fun k hk=>(nW k hk).elim (fun h=>by have:=x.now.wb k h; omega) fun h=>h.2
 refine ⟨⟨hgr,hN,hW,by omega,bN,bW⟩,(hk go (.inl rfl)).trans x.obj,x.which.frame fun k h=>hk k (.inr (.inl h)),x.vals.frame fun k h=>hk k (.inr (.inr h)),?_,?_,?_,x.d3,x.d4,x.gg,x.len,x.rounds⟩
 ·rintro k (h | h | h | h | h | h)
  ·omega
  ·omega
  ·exact bN k h
  ·exact bW k h
  ·have:=lw k h; omega
  ·have:=lv k h; omega
 ·intro k hk
  rcases nN k hk with h | h
  ·have d:=x.d1 k h
   exact ⟨d.1,d.2.1,nd k hk,d.2.2.2.1,d.2.2.2.2⟩
  ·exact ⟨by omega,by omega,nd k hk,fun h=>by have:=lw k h; omega,fun h=>by have:=lv k h; omega⟩
 ·intro k hk
  rcases nW k hk with h | h
  ·have d:=x.d2 k h
   exact ⟨d.1,d.2.1,d.2.2.1,d.2.2.2⟩
  ·exact ⟨by omega,by omega,fun h=>by have:=lw k h; omega,fun h=>by have:=lv k h; omega⟩
theorem RI.setRounds {h:Heap} {c gr go:Nat} {stm:AV} {e:Env} {r:RR} {s:RS} (x:RI h c gr go stm e r s) (n:Int) (hn:0≤n∧n≤200000) :
  RI (AM.upd h go (some (.row 6 [[stm,r.which,r.vals,.int n,.sl [] true,.sl [] true]] .live none))) c gr go stm e r ⟨n,s.l⟩:=by
 have hne:∀ k,k≠go→AM.upd h go (some (.row 6 [[stm,r.which,r.vals,.int n,.sl [] true,.sl [] true]] .live none)) k=h k:=fun k hk=>ad hk
 exact ⟨⟨(hne gr x.gg).trans x.now.at_,x.now.hnames.frame fun k hk=>hne k (x.d1 k hk).2.1,x.now.hnow.frame fun k hk=>hne k (x.d2 k hk).2.1,x.now.gr,x.now.nb,x.now.wb⟩,af,x.which.frame fun k hk=>hne k (x.d3 k hk).2.1,x.vals.frame fun k hk=>hne k (x.d4 k hk).2,x.lt,x.d1,x.d2,x.d3,x.d4,x.gg,x.len,hn⟩
theorem RI.setLast {h:Heap} {c gr go:Nat} {stm:AV} {e:Env} {name:ByteArray} {u:Int} {r:RR} {s:RS} (x:RI h c gr go stm (e++[(name,u)]) r s) (v:Int) :
  ∃ g full,r.now=.row g 1 0 (e.length+1)∧h g=some (.row 1 (aj (e.map (·.2))++[.int u]::full) .live none)∧RI (AM.upd h g (some (.row 1 (aj (e.map (·.2))++[.int v]::full) .live none))) c gr go stm (e++[(name,v)]) r s∧r.own gr go g∧gr≠g∧go≠g:=by
 have hw:=x.now.hnow
 have e1:aj ((e++[(name,u)]).map (·.2))=aj (e.map (·.2))++[[.int u]]:=by simp [aj]
 have e2:aj ((e++[(name,v)]).map (·.2))=aj (e.map (·.2))++[[.int v]]:=by simp [aj]
 have e3:(aj (e.map (·.2))).length=e.length:=by simp [aj]
 rw [e1] at hw
 obtain ⟨g,full,h1,h2⟩:=hw.last
 rw [e3] at h1
 have hg:an r.now g:=by rw [h1]; exact aq.2 rfl
 have d:=x.d2 g hg
 have hne:∀ k,k≠g→AM.upd h g (some (.row 1 (aj (e.map (·.2))++[.int v]::full) .live none)) k=h k:=fun k hk=>ad hk
 refine ⟨g,full,h1,h2,?_,.inr (.inr (.inr (.inl hg))),Ne.symm d.1,Ne.symm d.2.1⟩
 have hn:=x.now.hnames
 rw [List.map_append] at hn
 refine x.re (c':=c) (names:=r.names) (now:=r.now) ((hne gr (Ne.symm d.1)).trans x.now.at_) ?_ ?_ ?_ (Nat.le_refl _) (fun k hk=>.inl hk) (fun k hk=>.inl hk) (fun k hk=>(x.d1 k hk).2.2.1)
 ·rw [List.map_append]
  exact hn.frame fun k hk=>hne k fun h=>(x.d1 k hk).2.2.1 (h▸hg)
 ·rw [e2]
  exact .inr ⟨g,full,by rw [h1]; simp [aj],by rw [af]; simp⟩
 ·intro k hk
  refine hne k fun h=>?_
  subst h
  rcases hk with hk | hk | hk
  ·exact d.2.1 hk
  ·exact d.2.2.1 hk
  ·exact d.2.2.2 hk
theorem pc:∀ x:Wb.Step,cZ x≤count x
 | .mk kind name low high conds body array subs expr=>by
  have:=setsL_le' body
  simp only [cZ,count]; split <;> omega
where
 setsL_le':∀ l:List Wb.Step,fX l≤aC l
  | []=>Nat.le_refl _
  | x::xs=>by simp only [fX,aC]; have:=pc x; have:=setsL_le' xs; omega
def sI (A:List Wb.Array) (gr go:Nat) (stm:AV) (N:Nat):Prop:=∀ (l:List Wb.Step),aC l≤N→∀ (num:Nat) (e:Env) (way:List Int) (r:RR) (s:RS) (h0:Heap) (c0:Nat),
  cT A (e.map (·.1)) l→ed e→(e.map (·.1)).Nodup→e.length+N≤900→num+aC l≤100000→RI h0 c0 gr go stm e r s →
  ACalls Pg Fn106.n [.ptr gr 0 0,row (l.map Step.cells),.int num] ⟨h0,c0⟩ (rN gr go stm e r (aS num e way 0 l s) c0 h0)
theorem ux (A:List Wb.Array) (gr go:Nat) (stm:AV) (N:Nat) (ih:sI A gr go stm N) (name:ByteArray) (low high:List Wb.Bound) (conds:List Wb.Form) (body:List Wb.Step) (hb:aC body≤N) (array:ByteArray) (subs:List Wb.Form) (expr:Wb.Expr)
  (num:Nat) (e:Env) (way:List Int) (r:RR) (s:RS) (h0:Heap) (c0:Nat) (hnm:inL name (e.map (·.1))=false) (hl0:low≠[]) (hh0:high≠[]) (hlb:∀ b∈low,cA b) (hhb:∀ b∈high,cA b) (hbd:cT A (e.map (·.1)++[name]) body)
  (he:ed e) (hnd:(e.map (·.1)).Nodup) (hel:e.length+N+1≤900) (hnl:num+aC body≤100000) (hr:RI h0 c0 gr go stm e r s) :
  ACalls Pg Fn163.n [.ptr gr 0 0,.zp (Wb.Step.mk 1 name low high conds body array subs expr).cells 0,.int num] ⟨h0,c0⟩ (rN gr go stm e r (bF num e way (.mk 1 name low high conds body array subs expr) s) c0 h0):=by
 obtain ⟨op,n,form,ea,es,args⟩:=expr
 refine Fn163.calls .keep ?_
 unfold Fn163.ac
 have hends:=uQ (.mk 1 name low high conds body array subs (.mk op n form ea es args)) low high ⟨_,_,_,_,_,_,_,rfl⟩ hlb hhb hl0 hh0 Fn196.n [.ptr gr 0 0] [] (aw e) (cw he) h0 c0
  (fun x hx h c hF=>pI x hx e he hnd (by omega) gr go 0 r.names r.now h c (hr.now.fr hF))
 rw [Step.av_mk] at hends
 simp [Step.cells_mk]
 refine ACalls.at hends fun c1 hc1=>?_
 have hlo:=mt (cw he) hlb
 have hhi:=lG (cw he) hhb
 obtain ⟨lo,hlo'⟩:∃ lo,lo=eF (aw e) low:=⟨_,rfl⟩
 obtain ⟨hi',hhi'⟩:∃ hi',hi'=eI (aw e) high:=⟨_,rfl⟩
 obtain ⟨F,hF⟩:∃ F:Int→RS→Int×RS,F=fun v s=>aS num (e++[(name,v)]) way 0 body s:=⟨_,rfl⟩
 have hrun:bF num e way (.mk 1 name low high conds body array subs (.mk op n form ea es args)) s=cm F (hi'-lo+1).toNat lo s:=by rw [hlo',hhi',hF]; simp [bF]
 rw [←hlo'] at hlo
 rw [←hhi'] at hhi
 rw [hrun]
 have hat:=hr.now.at_
 have ln:=hr.now.nb
 have lx:=hr.now.wb
 have lgr:=hr.lt gr (.inl rfl)
 have lgo:=hr.lt go (.inr (.inl rfl))
 have lw:∀ k,an r.which k→k<c0:=fun k hk=>hr.lt k (.inr (.inr (.inr (.inr (.inl hk)))))
 have lv:∀ k,an r.vals k→k<c0:=fun k hk=>hr.lt k (.inr (.inr (.inr (.inr (.inr hk)))))
 have e1:(aB (e.map (·.1))).length=e.length:=by simp [aB]
 have e2:(aj (e.map (·.2))).length=e.length:=by simp [aj]
 obtain ⟨n',h2,c2,p1,p2,p3,p4,p5,p6,gn,p7⟩:=hr.now.hnames.push (c:=c1) (bytes:=16) (md:=.plain) (b:=true) (e:=[.str name]) (by decide) (by decide) (by decide) (by decide) rfl (fun e he=>by obtain ⟨t,_,rfl⟩:=List.mem_map.1 he; rfl) (by rw [e1]; omega) (fun k hk=>by have:=ln k hk; omega)
 have hgr2:=(p5 gr (by omega) (fun h=>(hr.d1 gr h).1 rfl)).trans hat
 have hnow2:RowPre h2 1 r.now (aj (e.map (·.2))):=hr.now.hnow.frame fun k hk=>p5 k (by have:=lx k hk; omega) fun h=>(hr.d1 k h).2.2.1 hk
 obtain ⟨w',h3,c3,q1,q2,q3,q4,q5,q6,gw,q7⟩:=hnow2.push (c:=c2) (bytes:=8) (md:=.plain) (b:=true) (e:=[.int 0]) (by decide) (by decide) (by decide) (by decide) rfl (fun e he=>List.all_eq_true.1 (jH _) e he) (by rw [e2]; omega) (fun k hk=>by have:=lx k hk; omega)
 have hgr3:=(q5 gr (by omega) (fun h=>(hr.d2 gr h).1 rfl)).trans hgr2
 rw [e1] at p7
 rw [e2] at q7
 subst p7
 subst q7
 simp [←hlo',←hhi',hat,bsI,au,p1,hgr2,q1,hgr3]
 obtain ⟨h4,hh4⟩:∃ h4,h4=upd h3 gr (some (.row 4 [[.ptr go 0 0,.int 0,.row gn 1 0 (e.length+1),.row gw 1 0 (e.length+1)]] .live none)):=⟨_,rfl⟩
 rw [←hh4]
 have hgr4:h4 gr=_:=(congrFun hh4 gr).trans af
 have hk4:∀ k,k≠gr→h4 k=h3 k:=fun k hk=>by rw [hh4,ad hk]
 have lgn:gn<c2∧gn≠gr∧gn≠go∧¬an r.now gn∧¬an r.which gn∧¬an r.vals gn:=by
  rcases p4 gn (aq.2 rfl) with h | ⟨h,h'⟩
  ·have d:=hr.d1 gn h
   exact ⟨by have:=ln gn h; omega,d⟩
  ·exact ⟨by omega,by omega,by omega,fun h=>by have:=lx gn h; omega,fun h=>by have:=lw gn h; omega,fun h=>by have:=lv gn h; omega⟩
 have lgw:gw<c3∧gw≠gr∧gw≠gn:=by
  rcases q4 gw (aq.2 rfl) with h | ⟨h,h'⟩
  ·exact ⟨by have:=lx gw h; omega,(hr.d2 gw h).1,fun h2=>lgn.2.2.2.1 (h2▸h)⟩
  ·exact ⟨by omega,by omega,by omega⟩
 have hlow4:∀ k,k<c0→k≠gr→¬an r.names k→¬an r.now k→h4 k=h0 k:=fun k a b d f=>by rw [hk4 k b,q5 k (by omega) f,p5 k (by omega) d]
 have hr4:RI h4 c3 gr go stm (e++[(name,0)]) ⟨.row gn 1 0 (e.length+1),.row gw 1 0 (e.length+1),r.which,r.vals⟩ s:=by
  refine hr.re hgr4 ?_ ?_ ?_ (by omega) ?_ ?_ ?_
  ·rw [show aB ((e++[(name,(0:Int))]).map (·.1))=aB (e.map (·.1))++[[.str name]] by simp [aB]]
   refine p2.frame fun k hk=>?_
   have:=aq.1 hk
   subst this
   rw [hk4 _ lgn.2.1,q5 _ (by omega) lgn.2.2.2.1]
  ·rw [show aj ((e++[(name,(0:Int))]).map (·.2))=aj (e.map (·.2))++[[.int 0]] by simp [aj]]
   refine q2.frame fun k hk=>?_
   have:=aq.1 hk
   subst this
   exact hk4 _ lgw.2.1
  ·rintro k (rfl | hk | hk)
   ·exact hlow4 _ lgo (Ne.symm hr.gg) (fun h=>(hr.d1 _ h).2.1 rfl) fun h=>(hr.d2 _ h).2.1 rfl
   ·have d:=hr.d3 k hk
    exact hlow4 _ (lw k hk) d.1 (fun h=>(hr.d1 _ h).2.2.2.1 hk) fun h=>(hr.d2 _ h).2.2.1 hk
   ·have d:=hr.d4 k hk
    exact hlow4 _ (lv k hk) d.1 (fun h=>(hr.d1 _ h).2.2.2.2 hk) fun h=>(hr.d2 _ h).2.2.2 hk
  ·intro k hk
   rcases p4 k hk with h | ⟨h,h'⟩
   ·exact .inl h
   ·exact .inr ⟨by omega,by omega⟩
  ·intro k hk
   rcases q4 k hk with h | ⟨h,h'⟩
   ·exact .inl h
   ·exact .inr ⟨by omega,by omega⟩
  ·intro k hk hk2
   have:=aq.1 hk
   have:=aq.1 hk2
   omega
 have hf4:RFp c0 (r.own gr go) (RR.own ⟨.row gn 1 0 (e.length+1),.row gw 1 0 (e.length+1),r.which,r.vals⟩ gr go) h0 h4:=by
  refine ⟨fun k hk hk2=>hlow4 k hk (fun h=>hk2 (.inl h)) (fun h=>hk2 (.inr (.inr (.inl h)))) (fun h=>hk2 (.inr (.inr (.inr (.inl h))))),?_⟩
  rintro k (h | h | h | h | h | h)
  ·exact .inl (.inl h)
  ·exact .inl (.inr (.inl h))
  ·rcases p4 k h with h | ⟨h,_⟩
   ·exact .inl (.inr (.inr (.inl h)))
   ·exact .inr (by omega)
  ·rcases q4 k h with h | ⟨h,_⟩
   ·exact .inl (.inr (.inr (.inr (.inl h))))
   ·exact .inr (by omega)
  ·exact .inl (.inr (.inr (.inr (.inr (.inl h)))))
  ·exact .inl (.inr (.inr (.inr (.inr (.inr h)))))
 obtain ⟨Inv,hInv⟩:∃ Inv:Nat→Slots→St→Prop,Inv=fun (m:Nat) sl s'=>∃ (v:Int) (s2:RS) (r2:RR) (u:Int),sl 9=.int v∧m=(hi'-v+1).toNat ∧ -12001000000≤v∧v≤12001000001∧RI s'.h s'.c gr go stm (e++[(name,u)]) r2 s2∧RFp c0 (r.own gr go) (r2.own gr go) h0 s'.h∧c0≤s'.c∧cm F (hi'-lo+1).toNat lo s=cm F m v s2:=⟨_,rfl⟩
 refine cD Fn163.W0 (by rfl) Inv (hi'-lo+1).toNat ?_ ?_
 ·rw [hInv]
  exact ⟨lo,s,_,0,by simp,rfl,by omega,by omega,hr4,hf4,by show c0≤c3; omega,rfl⟩
 ·intro m v' s' hI
  rw [hInv] at hI
  obtain ⟨vv,s2,r2,u,z1,z2,z3,z4,z5,z6,z7,z8⟩:=hI
  obtain ⟨h5,c5⟩:=s'
  simp at z1
  simp only at z5 z6 z7
  rw [z8]
  have hat5:=z5.now.at_
  have hgo5:=z5.obj
  by_cases hle:vv≤hi'
  case neg=>
   have hm0:m=0:=by omega
   subst hm0
   have hN5:=z5.now.hnames
   have hW5:=z5.now.hnow
   rw [show aB ((e++[(name,u)]).map (·.1))=aB (e.map (·.1))++[[.str name]] by simp [aB]] at hN5
   rw [show aj ((e++[(name,u)]).map (·.2))=aj (e.map (·.2))++[[.int u]] by simp [aj]] at hW5
   obtain ⟨gN,n1,n2,n3⟩:=hN5.pop
   obtain ⟨gW,m1,m2,m3⟩:=hW5.pop
   rw [e1] at n1 n2 n3
   rw [e2] at m1 m2 m3
   rw [n1] at n2
   rw [m1] at m2
   have dN:=z5.d1 gN (by rw [n1]; exact aq.2 rfl)
   have dW:=z5.d2 gW (by rw [m1]; exact aq.2 rfl)
   have hwe:=ae (x:=(e.length:Int)) (by omega) (by omega)
   rw [n1,m1] at hat5
   simp [z1,hle,hat5,hwe,n2,m2]
   obtain ⟨h6,hh6⟩:∃ h6,h6=upd h5 gr (some (.row 4 [[.ptr go 0 0,.int 0,.row gN 1 0 e.length,.row gW 1 0 e.length]] .live none)):=⟨_,rfl⟩
   rw [←hh6]
   have hk6:∀ k,k≠gr→h6 k=h5 k:=fun k hk=>by rw [hh6,ad hk]
   have oN:∀ k,an (.row gN 1 0 e.length) k→an r2.names k:=fun k hk=>by rw [n1]; exact aq.2 (aq.1 hk)
   have oW:∀ k,an (.row gW 1 0 e.length) k→an r2.now k:=fun k hk=>by rw [m1]; exact aq.2 (aq.1 hk)
   refine ⟨rfl,⟨.row gN 1 0 e.length,.row gW 1 0 e.length,r2.which,r2.vals⟩,⟨fun k hk hk2=>?_,?_⟩,fun _=>?_⟩
   ·show h6 k=h0 k
    rw [hk6 k fun h=>hk2 (.inl h)]
    exact z6.same k hk hk2
   ·rintro k (h | h | h | h | h | h)
    ·exact .inl (.inl h)
    ·exact .inl (.inr (.inl h))
    ·exact z6.rows k (.inr (.inr (.inl (oN k h))))
    ·exact z6.rows k (.inr (.inr (.inr (.inl (oW k h)))))
    ·exact z6.rows k (.inr (.inr (.inr (.inr (.inl h)))))
    ·exact z6.rows k (.inr (.inr (.inr (.inr (.inr h)))))
   ·refine z5.re ((congrFun hh6 gr).trans af) (n3.frame fun k hk=>hk6 k (by have:=aq.1 hk; subst this; exact dN.1)) (m3.frame fun k hk=>hk6 k (by have:=aq.1 hk; subst this; exact dW.1)) ?_ (Nat.le_refl _) (fun k hk=>.inl (oN k hk)) (fun k hk=>.inl (oW k hk)) fun k hk hk2=>(z5.d1 k (oN k hk)).2.2.1 (oW k hk2)
    rintro k (rfl | hk | hk)
    ·exact hk6 _ (Ne.symm z5.gg)
    ·exact hk6 _ (z5.d3 k hk).1
    ·exact hk6 _ (z5.d4 k hk).1
  obtain ⟨m',rfl⟩:∃ m',m=m'+1:=⟨m-1,by omega⟩
  have hrd:=z5.rounds
  simp [z1,hle]
  refine ACalls.pure (eL _ _ _) fun c6 hc6=>?_
  by_cases hin:-1000000≤vv∧vv≤1000000
  case neg=>
   simp [hin]
   have hF1:cm F (m'+1) vv s2=(1,s2):=by simp only [cm]; rw [if_pos hin]
   rw [hF1]
   exact ⟨rfl,r2,z6,fun h=>by cases h⟩
  have hw1:=ae (x:=s2.rounds+1) (by omega) (by omega)
  simp [hin,hat5,hgo5,hw1]
  obtain ⟨h6,hh6⟩:∃ h6,h6=upd h5 go (some (.row 6 [[stm,r2.which,r2.vals,.int (s2.rounds+1),.sl [] true,.sl [] true]] .live none)):=⟨_,rfl⟩
  have hf6:RFp c0 (r.own gr go) (r2.own gr go) h0 h6:=⟨fun k hk hk2=>by
   have:k≠go:=fun h=>hk2 (.inr (.inl h))
   rw [hh6,ad this]; exact z6.same k hk hk2,z6.rows⟩
  have hgr6:h6 gr=_:=(congrFun hh6 gr).trans ((ad z5.gg).trans hat5)
  have hgo6:h6 go=_:=(congrFun hh6 go).trans af
  have hgg:=z5.gg
  simp [←hh6,hgr6,hgo6]
  by_cases hr2:200000<s2.rounds+1
  ·simp [hr2]
   have hF1:cm F (m'+1) vv s2=(12,⟨s2.rounds+1,s2.l⟩):=by simp only [cm]; rw [if_neg (not_not_intro hin),if_pos hr2]
   rw [hF1]
   exact ⟨rfl,r2,hf6,fun h=>by cases h⟩
  have hr6:=z5.setRounds (s2.rounds+1) ⟨by omega,by omega⟩
  rw [←hh6] at hr6
  obtain ⟨g,full,l1,l2,l3,l4,l5,l6⟩:=hr6.setLast vv
  have hwe:=ae (x:=(e.length:Int)) (by omega) (by omega)
  rw [l1] at hgr6
  have hlt:(e.length:Int)<(e.length:Int)+1:=by omega
  have hge:(aj (e.map (·.2))++[AV.int u]::full)[e.length]?=some [.int u]:=by
   rw [List.getElem?_append_right (by omega),e2,Nat.sub_self]; rfl
  have hset:(aj (e.map (·.2))++[AV.int u]::full).set e.length [.int vv]=aj (e.map (·.2))++[.int vv]::full:=by
   have:=vL (es:=aj (e.map (·.2))) (full:=full) (b:=[AV.int u]) (x:=[AV.int vv])
   rwa [e2] at this
  have hget:(aj (e.map (·.2))++[AV.int u]::full)[(aj (e.map (·.2))).length]?=some [.int u]:=by rw [e2]; exact hge
  obtain ⟨h7,hh7⟩:∃ h7,h7=upd h6 g (some (.row 1 (aj (e.map (·.2))++[.int vv]::full) .live none)):=⟨_,rfl⟩
  rw [←hh7] at l3
  have heok:ed (e++[(name,vv)]):=fun p hp=>by
   rcases List.mem_append.1 hp with hp | hp
   ·exact he p hp
   ·simp at hp; subst hp; exact hin
  have hndp:((e++[(name,vv)]).map (·.1)).Nodup:=by
   rw [List.map_append,List.nodup_append]
   refine ⟨hnd,by simp,fun a ha b hb2=>?_⟩
   simp at hb2
   subst hb2
   exact fun h=>rL hnm (h▸ha)
  have hstep:=ih body hb num (e++[(name,vv)]) way r2 ⟨s2.rounds+1,s2.l⟩ h7 c6 (by rw [List.map_append]; exact hbd) heok hndp (by simp; omega) (by omega) (l3.frame hc6 fun _ _=>rfl)
  simp [z1,hr2,hgr6,hwe,hlt,l2,hge,hset,←hh7]
  refine hstep.mono ?_
  rintro av ⟨h8,c8⟩ hc8 ⟨rfl,r8,j1,j2⟩
  simp only at hc8 j1 j2
  have hFv:F vv ⟨s2.rounds+1,s2.l⟩=aS num (e++[(name,vv)]) way 0 body ⟨s2.rounds+1,s2.l⟩:=by rw [hF]
  rw [←hFv] at j2 ⊢
  have hf7:RFp c0 (r.own gr go) (r2.own gr go) h0 h7:=⟨fun k hk hk2=>by
   have:k≠g:=fun h=>(hf6.rows g l4).elim (fun h2=>hk2 (h▸h2)) fun h2=>by omega
   rw [hh7,ad this]; exact hf6.same k hk hk2,hf6.rows⟩
  have hf8:RFp c0 (r.own gr go) (r8.own gr go) h0 h8:=hf7.trans j1 (by omega)
  by_cases hz:(F vv ⟨s2.rounds+1,s2.l⟩).1=0
  ·have hwv:=ae (x:=vv+1) (by omega) (by omega)
   simp [hz,z1,hwv]
   refine ⟨m',by omega,?_⟩
   rw [hInv]
   refine ⟨vv+1,(F vv ⟨s2.rounds+1,s2.l⟩).2,r8,vv,by simp,by omega,by omega,by omega,j2 hz,hf8,by show c0≤c8; omega,?_⟩
   rw [z8]; simp only [cm]; rw [if_neg (not_not_intro hin),if_neg hr2,if_pos hz]
  ·simp [hz]
   have hF1:cm F (m'+1) vv s2=F vv ⟨s2.rounds+1,s2.l⟩:=by simp only [cm]; rw [if_neg (not_not_intro hin),if_neg hr2,if_neg hz]
   rw [hF1]
   exact ⟨rfl,r8,hf8,fun h=>absurd h hz⟩
theorem um (A:List Wb.Array) (gr go:Nat) (stm:AV):∀ (N:Nat),sI A gr go stm N:=by
 intro N
 induction N with
 | zero=>
  intro l hl
  have:l=[]:=by
   cases l with
   | nil=>rfl
   | cons x xs=>obtain ⟨_,_,_,_,_,body,_,_,_⟩:=x; simp [aC,count] at hl
  subst this
  intro num e way r s h0 c0 hok he hnd hel hnl hr
  refine Fn106.calls .keep ?_
  unfold Fn106.ac
  simp
  refine aY 13 Fn106.W0 ([]:List Wb.Step) (fun (i:Nat) r sl s'=>s'=⟨h0,c0⟩) (by rfl) (by rfl) ?_ ?_ ?_
  ·simp
  ·intro v s' hv hI
   simp at hv
   subst hI
   simp [hv,aS]
   exact ⟨rfl,r,RFp.refl,fun _=>hr⟩
  ·intro i x xs v s' hi; simp at hi
 | succ N ih=>
  intro l hl num e way r s h0 c0 hok he hnd hel hnl hr
  have hlc:l.length≤1000000:=by
   have:l.length≤aC l:=by
    clear hl hok hnl
    induction l with
    | nil=>simp
    | cons x xs ih=>obtain ⟨_,_,_,_,_,body,_,_,_⟩:=x; simp [aC,count]; omega
   omega
  refine Fn106.calls .keep ?_
  unfold Fn106.ac
  simp
  obtain ⟨Inv,hInv⟩:∃ Inv:Nat→List Wb.Step→Slots→St→Prop,Inv=fun i rs sl s'=>∃ (s1:RS) (r1:RR) (num1:Nat),sl 2=.int num1∧num1+aC rs≤num+aC l∧RI s'.h s'.c gr go stm e r1 s1∧RFp c0 (r.own gr go) (r1.own gr go) h0 s'.h∧c0≤s'.c∧aS num e way 0 l s=aS num1 e way i rs s1:=⟨_,rfl⟩
  refine aY 13 Fn106.W0 l Inv (by rfl) (by rfl) ?_ ?_ ?_
  ·rw [hInv]
   exact ⟨by simp,s,r,num,by simp,Nat.le_refl _,hr,RFp.refl,Nat.le_refl _,rfl⟩
  ·intro v s' hv hI
   rw [hInv] at hI
   obtain ⟨s1,r1,num1,i0,i00,i1,i2,i3,i6⟩:=hI
   have hrr:aS num e way 0 l s=(0,s1):=by rw [i6]; rfl
   simp [hv,hrr]
   exact ⟨rfl,r1,i2,fun _=>i1⟩
  ·intro i x xs v s' hi hx hl2 hv hI
   rw [hInv] at hI
   obtain ⟨s1,r1,num1,i0,i00,i1,i2,i3,i6⟩:=hI
   obtain ⟨h,c⟩:=s'
   simp only at i1 i2 i3
   simp at i0
   have hwi:=ae (x:=(i:Int)+1) (by omega) (by omega)
   have hxok:=jm hok x (aM hl2)
   have hcut:=ew hl2
   obtain ⟨X,hX⟩:∃ X,X=x:=⟨_,rfl⟩
   have hsc:cZ X≤count X:=pc X
   have hcx:aC (x::xs)=count X+aC xs:=by rw [hX]; rfl
   obtain ⟨kind,name,low,high,conds,body,array,subs,⟨op,n,form,ea,es,args⟩⟩:=x
   have hbody:aC body≤N:=by simp [count] at hcut; omega
   have hbx:aC body+1≤count X:=by rw [hX]; simp [count]; omega
   have hws:=ae (x:=(num1:Int)+cZ X) (by omega) (by omega)
   have hcont:∀ h5 c5 (r5:RR) s5,c≤c5→RI h5 c5 gr go stm e r5 s5→RFp c (r1.own gr go) (r5.own gr go) h h5→bF num1 e (way++[(i:Int)]) X s1=(0,s5)→∀ sl',sl' 2=.int ((num1:Int)+cZ X)→Inv (i+1) xs sl' ⟨h5,c5⟩:=by
    intro h5 c5 r5 s5 hc5 hr5 hf5 hrun sl' hsl
    rw [hInv]
    refine ⟨s5,r5,num1+cZ X,by rw [hsl]; push_cast; rfl,by omega,hr5,i2.trans hf5 i3,by show c0≤c5; omega,?_⟩
    rw [i6,hX]; rw [hX] at hrun; simp only [aS,hrun,if_true]
   have hfail:∀ h5 c5 (r5:RR) f s5,f≠0→RFp c (r1.own gr go) (r5.own gr go) h h5→bF num1 e (way++[(i:Int)]) X s1=(f,s5)→rN gr go stm e r (aS num e way 0 l s) c0 h0 (.int f) ⟨h5,c5⟩:=by
    intro h5 c5 r5 f s5 hf0 hf5 hrun
    have hrr:aS num e way 0 l s=(f,s5):=by rw [i6]; rw [hX] at hrun; simp [aS,hrun,hf0]
    rw [hrr]
    exact ⟨rfl,r5,i2.trans hf5 i3,fun h=>absurd h hf0⟩
   have hgo:∀ {o:Int×RS} {av:AV} {s5:St},bF num1 e (way++[(i:Int)]) X s1=o→rN gr go stm e r1 o c h av s5→c≤s5.c→True:=fun _ _ _=>trivial
   simp [hv,hi,hx,Step.cells_mk]
   by_cases k1:kind=1
   ·subst k1
    have hpc:=qc body (by omega)
    have hok1:inL name (e.map (·.1))=false∧low≠[]∧high≠[]∧(∀ b∈low,cA b)∧(∀ b∈high,cA b)∧cT A (e.map (·.1)++[name]) body:=by
     simp only [eh] at hxok
     rcases hxok with hx | hx | hx
     ·exact hx.2
     ·exact absurd hx.1 (by decide)
     ·exact absurd hx.1 (by decide)
    obtain ⟨hnm,hl0,hh0,hlb,hhb,hbd⟩:=hok1
    have hsX:cZ X=fX body:=by rw [hX]; simp [cZ]
    rw [hsX] at hcont hws
    simp
    refine ACalls.pure hpc fun c2 hc2=>?_
    have hlp:=ux A gr go stm N ih name low high conds body hbody array subs (.mk op n form ea es args) num1 e (way++[(i:Int)]) r1 s1 h c2 hnm hl0 hh0 hlb hhb hbd he hnd (by omega) (by omega) (i1.frame hc2 fun _ _=>rfl)
    rw [Step.cells_mk,←hX] at hlp
    simp [i0]
    refine hlp.mono ?_
    rintro av ⟨h5,c5⟩ hc5 ⟨rfl,r5,j1,j2⟩
    have j1':RFp c (r1.own gr go) (r5.own gr go) h h5:=⟨fun k hk a=>j1.same k (by omega) a,fun k hk=>(j1.rows k hk).imp id fun h=>by omega⟩
    simp only at hc5 j1 j2
    by_cases hz:(bF num1 e (way++[(i:Int)]) X s1).1=0
    ·simp [hz,hv,hwi,hws,i0]
     exact hcont h5 c5 r5 _ (by omega) (j2 hz) j1' (Prod.ext hz rfl) _ (by simp)
    ·simp [hz]
     exact hfail h5 c5 r5 _ _ hz j1' rfl
   by_cases k2:kind=2
   ·subst k2
    have hpc:=qc body (by omega)
    have hok2:(∀ f∈conds,OkForm f)∧cT A (e.map (·.1)) body:=by
     simp only [eh] at hxok
     rcases hxok with hx | hx | hx
     ·exact absurd hx.1 (by decide)
     ·exact hx.2
     ·exact absurd hx.1 (by decide)
    have hrun:bF num1 e (way++[(i:Int)]) X s1=if conds.all (fun f=>decide (0≤aG (aw e) f))=true then aS num1 e (way++[(i:Int)]) 0 body s1 else (0,s1):=by rw [hX]; simp [bF]
    have hsX:cZ X=fX body:=by rw [hX]; simp [cZ]
    rw [hsX] at hcont hws
    simp
    refine ACalls.pure hpc fun c2 hc2=>?_
    have i1':=i1.frame hc2 fun _ _=>rfl
    simp
    refine ACalls.at (uJ conds hok2.1 e he hnd (by omega) gr go 0 r1.names r1.now h c2 i1'.now) fun c3 hc3=>?_
    by_cases hall:conds.all (fun f=>decide (0≤aG (aw e) f))=true
    ·rw [if_pos hall] at hrun
     simp [hall,i0]
     refine (ih body hbody num1 e (way++[(i:Int)]) r1 s1 h c3 hok2.2 he hnd (by omega) (by omega) (i1'.frame hc3 fun _ _=>rfl)).mono ?_
     rintro av ⟨h5,c5⟩ hc5 ⟨rfl,r5,j1,j2⟩
     have j1':RFp c (r1.own gr go) (r5.own gr go) h h5:=⟨fun k hk a=>j1.same k (by omega) a,fun k hk=>(j1.rows k hk).imp id fun h=>by omega⟩
     simp only at hc5 j1 j2
     rw [←hrun] at j2 ⊢
     by_cases hz:(bF num1 e (way++[(i:Int)]) X s1).1=0
     ·simp [hz,hv,hwi,hws,i0]
      exact hcont h5 c5 r5 _ (by omega) (j2 hz) j1' (Prod.ext hz rfl) _ (by simp)
     ·simp [hz]
      exact hfail h5 c5 r5 _ _ hz j1' rfl
    ·rw [if_neg hall] at hrun
     simp [hall,hv,hwi,hws,i0]
     exact hcont h c3 r1 s1 (by omega) (i1'.frame hc3 fun _ _=>rfl) RFp.refl hrun _ (by simp)
   have hok3:kind=3∧body=[]:=by
    simp only [eh] at hxok
    rcases hxok with hx | hx | hx
    ·exact absurd hx.1 k1
    ·exact absurd hx.1 k2
    ·exact ⟨hx.1,hx.2.1⟩
   obtain ⟨rfl,rfl⟩:=hok3
   have hsX:cZ X=1:=by rw [hX]; simp [cZ,fX]
   rw [hsX] at hcont
   have hws:=ae (x:=(num1:Int)+1) (by omega) (by omega)
   have hset:=tD num1 (by omega) X (way++[(i:Int)]) e (by omega) gr go stm r1 s1 h c i1
   simp [i0]
   refine hset.mono ?_
   rintro av ⟨h5,c5⟩ hc5 hq
   simp only at hc5 hq
   by_cases hfull:s1.l.length=50000
   ·rw [if_pos hfull] at hq
    obtain ⟨rfl,rfl⟩:=hq
    simp
    exact hfail h5 c5 r1 12 s1 (by decide) RFp.refl (by rw [hX]; simp [bF,hfull])
   ·rw [if_neg hfull] at hq
    obtain ⟨rfl,r5,j1,j2⟩:=hq
    simp [hv,hwi,hws,i0]
    exact hcont h5 c5 r5 _ hc5 j1 j2 (by rw [hX]; simp [bF,hfull]) _ (by simp)
end Go.Proofs.YtocppbmmfklbmaaGreat
set_option maxRecDepth 20000
set_option maxHeartbeats 4000000
namespace Go.Proofs.YtocppbmmfklbmaaGreat
open Go.AM Go.Wb
def stCells (y:Wb.Step×List Wb.Step):List AV:=y.1.cells++[row (y.2.map Step.cells),row ((cK (Step.expr y.1)).map Expr.cells)]
theorem qK (around:List Wb.Step) (l:List Wb.Step):((bP around l).filter eD).map fG=(bw around l).map stCells:=by
 rw [jh,List.map_map]; rfl
structure PlayAt (h:Heap) (c0 c go:Nat) (p:Wb.Prog) (stm which vals acc frm:AV):Prop where
 obj:h go=some (.row 6 [[stm,which,vals,.int (aA p).2.rounds,acc,frm]] .live none)
 hstm:RowAt h 17 stm ((bw [] p.steps).map stCells)
 hwhich:RowAt h 1 which (aj ((aA p).2.l.map fun i=>(i.num:Int)))
 hvals:RowAt h 1 vals ((aA p).2.l.map fun i=>[row (aj (i.env.map (·.2)))])
 goc:c0≤go∧go<c
 sc:∀ k,an stm k→c0≤k∧k<c∧k≠go
 wc:∀ k,an which k→c0≤k∧k<c∧k≠go
 vc:∀ k,an vals k→c0≤k∧k<c∧k≠go
 len:(aA p).2.l.length≤50000
 rounds:0≤(aA p).2.rounds∧(aA p).2.rounds≤200000
 d:∀ k,(an stm k→¬an which k∧¬an vals k)∧(an which k→¬an vals k)
theorem nM {A:List Wb.Array}:∀ (around:List Wb.Step) (x:Wb.Step) (L:List ByteArray),eh A L x→∀ y∈fo around x,Step.kind y.1=3→aR (Step.expr y.1)≤4096
 | around,.mk kind name low high conds body array subs expr,L,h=>by
  intro y hy hk
  simp only [fo,List.mem_cons] at hy
  rcases hy with rfl | hy
  ·simp only [Step.kind] at hk
   simp only [eh] at h
   rcases h with h | h | h
   ·exact absurd (h.1.symm.trans hk) (by decide)
   ·exact absurd (h.1.symm.trans hk) (by decide)
   ·exact h.2.2.2.2
  ·simp only [eh] at h
   rcases h with h | h | h
   ·exact walk_readsL _ body _ h.2.2.2.2.2.2 y hy hk
   ·exact walk_readsL _ body _ h.2.2 y hy hk
   ·rw [h.2.1] at hy; simp [bP] at hy
where
 walk_readsL:∀ (around:List Wb.Step) (l:List Wb.Step) (L:List ByteArray),cT A L l→∀ y∈bP around l,Step.kind y.1=3→aR (Step.expr y.1)≤4096
  | around,[],L,_,y,hy,_=>by simp [bP] at hy
  | around,s::ss,L,h,y,hy,hk=>by
   simp only [bP,List.mem_append] at hy
   rcases hy with hy | hy
   ·exact nM around s L h.1 y hy hk
   ·exact walk_readsL around ss L h.2 y hy hk
theorem uU (gb gp:Nat) (hgg:gb≠gp):Sees Fn103.n [] [.ptr gb 0 0] (mD gb gp) 1000 (fun X=>Step.kind X=3→aR (Step.expr X)≤4096):=by
 have hfr:∀ {v F h h'},mD gb gp v F h→(∀ k,F k→h' k=h k)→mD gb gp v F h':=by
  rintro v F h h' ⟨i1,stm,i2,i3,i4⟩ hh
  exact ⟨(hh gb ((i4 gb).2 (.inl rfl))).trans i1,stm,(hh gp ((i4 gp).2 (.inr (.inl rfl)))).trans i2,i3.frame fun k hk=>hh k ((i4 k).2 (.inr (.inr hk))),i4⟩
 have hpar:∀ {v F h},mD gb gp v F h→∀ k,F k→pw h k:=by
  rintro v F h ⟨i1,stm,i2,i3,i4⟩ k hk sz es st p e
  rcases (i4 k).1 hk with rfl | rfl | hk
  ·rw [i1] at e; cases e
  ·rw [i2] at e; cases e
  ·rcases i3 with ⟨e1,_⟩ | ⟨g,e1,hg⟩
   ·rw [e1] at hk; exact aJ hk
   ·rw [e1] at hk; have:=aq.1 hk; subst this; rw [hg] at e; cases e
 refine ⟨hfr,hpar,fun v F X around x h c hv hok hI hF hx har=>?_⟩
 refine ACalls.dropF c (tz (X,around) hok har x gb gp hgg v (by omega) F h c hI hF hx) ?_
 rintro av ⟨h2,c2⟩ hc2 ⟨F',j1,j2,j3⟩
 refine ⟨F',hfr j1 fun k hk=>jX (hpar j1 k hk),j2,fun k hk hkF=>(fI hk).trans (j3 k hk hkF),fun k hk sz es st p e=>?_⟩
 obtain ⟨_,q⟩:=eG e
 rcases q with q | q
 ·omega
 ·exact q _ _ _ _ rfl
theorem vd (p:Wb.Prog) (hp:Right p) (hc:aC p.steps≤300) (h0:Heap) (c0:Nat) :
  ACalls Pg Fn63.n [p.av] ⟨h0,c0⟩ fun av s'=>Fr c0 h0 s'.h s'.c∧if (aA p).1=0 then ∃ go stm which vals,av=.tup [.ptr go 0 0,.int 0]∧PlayAt s'.h c0 s'.c go p stm which vals (.sl [] true) (.sl [] true) else av=.tup [.nilp,.int (aA p).1]:=by
 refine Fn63.calls .keep ?_
 unfold Fn63.ac
 simp [Prog.av,aK]
 obtain ⟨hA,hhA⟩:∃ hA,hA=upd (upd (upd h0 c0 (some (.row 2 [[row (p.arrays.map Array.cells),row (p.steps.map Step.cells)]] .live none))) (c0+1) (some (.row 6 [[AV.nil,AV.nil,AV.nil,AV.int 0,AV.nil,AV.nil]] .live none))) (c0+1+1) (some (.row 1 [[.ptr (c0+1) 0 0]] .live none)):=⟨_,rfl⟩
 rw [←hhA]
 have a0:hA c0=some (.row 2 [[row (p.arrays.map Array.cells),row (p.steps.map Step.cells)]] .live none):=by rw [hhA,ad (by omega),ad (by omega),af]
 have a1:hA (c0+1)=some (.row 6 [[AV.nil,AV.nil,AV.nil,AV.int 0,AV.nil,AV.nil]] .live none):=by rw [hhA,ad (by omega),af]
 have a2:hA (c0+1+1)=some (.row 1 [[.ptr (c0+1) 0 0]] .live none):=by rw [hhA,af]
 have alow:∀ k,k<c0→hA k=h0 k:=fun k hk=>by rw [hhA,ad (by omega),ad (by omega),ad (by omega)]
 have hst:mD (c0+1+1) (c0+1) [] (fun k=>k=c0+1+1∨k=c0+1) hA:=⟨a2,.sl [] true,a1,.inl ⟨rfl,rfl⟩,fun k=>⟨fun h=>h.elim .inl fun h=>.inr (.inl h),fun h=>by
  rcases h with h | h | h
  ·exact .inl h
  ·exact .inr h
  ·exact absurd h aJ⟩⟩
 have hw:=qn (uU (c0+1+1) (c0+1) (by omega)) (aC p.steps) p.steps (Nat.le_refl _) [] (fun k=>k=c0+1+1∨k=c0+1) [] (.sl [] true) hA (c0+1+1+1) (by simp; omega) (fun y hy=>nM.walk_readsL [] p.steps [] hp.steps y hy) hst (fun k hk=>by omega) (.inl ⟨rfl,rfl⟩) (by simp; omega)
 simp [a0]
 refine hw.mono ?_
 rintro av ⟨h2,c2⟩ hc2 ⟨F',⟨j1,stm,j2,j3,j4⟩,f1,f2,_,_⟩
 rw [List.nil_append,qK] at j3
 simp only at hc2 j1 j2 j3 f1 f2
 have g0:h2 c0=_:=(f2 c0 (by omega) (by omega) aJ).trans a0
 have glow:∀ k,k<c0→h2 k=h0 k:=fun k hk=>(f2 k (by omega) (by omega) aJ).trans (alow k hk)
 have gst:∀ k,an stm k→c0≤k∧k<c2∧k≠c0+1:=fun k hk=>by
  have h1:k≠c0+1:=by
   rintro rfl
   rcases j3 with ⟨e,_⟩ | ⟨g,e,hg⟩
   ·rw [e] at hk; exact aJ hk
   ·rw [e] at hk; have:=aq.1 hk; subst this; rw [j2] at hg; cases hg
  rcases f1 k ((j4 k).2 (.inr (.inr hk))) with h | h
  ·omega
  ·omega
 obtain ⟨h3,hh3⟩:∃ h3,h3=upd h2 c2 (some (.row 4 [[.ptr (c0+1) 0 0,.int 0,.nil,.nil]] .live none)):=⟨_,rfl⟩
 have b3:h3 c2=_:=(congrFun hh3 c2).trans af
 have k3:∀ k,k<c2→h3 k=h2 k:=fun k hk=>by rw [hh3,ad (by omega)]
 have hri:RI h3 (c2+1) c2 (c0+1) stm [] ⟨.sl [] true,.sl [] true,.sl [] true,.sl [] true⟩ ⟨0,[]⟩:=by
  refine ⟨⟨b3,.inl ⟨rfl,rfl⟩,.inl ⟨rfl,rfl⟩,by omega,fun k hk=>absurd hk aJ,fun k hk=>absurd hk aJ⟩,(k3 _ (by omega)).trans j2,.inl ⟨rfl,rfl⟩,.inl ⟨rfl,rfl⟩,?_,fun k hk=>absurd hk aJ,fun k hk=>absurd hk aJ,fun k hk=>absurd hk aJ,fun k hk=>absurd hk aJ,by omega,by simp,by simp⟩
  rintro k (h | h | h | h | h | h)
  ·omega
  ·omega
  all_goals exact absurd h aJ
 have hrun:=um p.arrays c2 (c0+1) stm (aC p.steps) p.steps (Nat.le_refl _) 0 [] [] _ ⟨0,[]⟩ h3 (c2+1) hp.steps (fun q hq=>by cases hq) (by simp) (by simp; omega) (by omega) hri
 have g3:h3 c0=_:=(k3 c0 (by omega)).trans g0
 simp [j1,aK,←hh3,g3]
 refine hrun.mono ?_
 rintro av ⟨h4,c4⟩ hc4 ⟨rfl,r',q1,q2⟩
 simp only at hc4 q1 q2
 have hown:∀ k,RR.own ⟨.sl [] true,.sl [] true,.sl [] true,.sl [] true⟩ c2 (c0+1) k→k=c2∨k=c0+1:=by
  rintro k (h | h | h | h | h | h)
  ·exact .inl h
  ·exact .inr h
  all_goals exact absurd h aJ
 have k4:∀ k,k<c2→k≠c0+1→h4 k=h2 k:=fun k hk hk2=>(q1.same k (by omega) fun h=>by have:=hown k h; omega).trans (k3 k hk)
 have b4:h4 (c0+1+1)=_:=(k4 _ (by omega) (by omega)).trans j1
 have hlow:∀ k,k<c0→h4 k=h0 k:=fun k hk=>(k4 k (by omega) (by omega)).trans (glow k hk)
 have hrp:aS 0 [] [] 0 p.steps ⟨0,[]⟩=aA p:=rfl
 rw [hrp] at q2 ⊢
 by_cases hz:(aA p).1=0
 ·have x:=q2 hz
  have lw:∀ k,an r'.which k→c2+1≤k∧k<c4:=fun k hk=>by
   have d:=x.d3 k hk
   have hb:=x.lt k (.inr (.inr (.inr (.inr (.inl hk)))))
   rcases q1.rows k (.inr (.inr (.inr (.inr (.inl hk))))) with h | h
   ·have:=hown k h; omega
   ·omega
  have lv:∀ k,an r'.vals k→c2+1≤k∧k<c4:=fun k hk=>by
   have d:=x.d4 k hk
   have hb:=x.lt k (.inr (.inr (.inr (.inr (.inr hk)))))
   rcases q1.rows k (.inr (.inr (.inr (.inr (.inr hk))))) with h | h
   ·have:=hown k h; omega
   ·omega
  simp [hz,b4]
  refine ⟨⟨by show c0≤c4; omega,hlow⟩,stm,r'.which,r'.vals,x.obj,j3.frame fun k hk=>k4 k (gst k hk).2.1 (gst k hk).2.2,x.which,x.vals,⟨by omega,by omega⟩,fun k hk=>by have:=gst k hk; omega,fun k hk=>by have:=lw k hk; have:=(x.d3 k hk).2.1; omega,fun k hk=>by have:=lv k hk; have:=(x.d4 k hk).2; omega,x.len,x.rounds,fun k=>⟨fun hk=>⟨fun h=>?_,fun h=>?_⟩,fun hk=>(x.d3 k hk).2.2⟩⟩
  ·have:=gst k hk; have:=lw k h; omega
  ·have:=gst k hk; have:=lv k h; omega
 ·simp [hz]
  exact ⟨by show c0≤c4; omega,hlow⟩
end Go.Proofs.YtocppbmmfklbmaaGreat
set_option maxRecDepth 20000
set_option maxHeartbeats 4000000
namespace Go.Proofs.YtocppbmmfklbmaaGreat
open Go.AM Go.Wb
structure PlO (h:Heap) (c go:Nat) (st:List (Wb.Step×List Wb.Step)) (l:List Inst) (stm which vals:AV):Prop where
 obj:∃ a b d,h go=some (.row 6 [[stm,which,vals,a,b,d]] .live none)
 hstm:RowAt h 17 stm (st.map stCells)
 hwhich:RowAt h 1 which (aj (l.map fun i=>(i.num:Int)))
 hvals:RowAt h 1 vals (l.map fun i=>[row (aj (i.env.map (·.2)))])
 goc:go<c
 sb:∀ k,an stm k→k<c
 wb:∀ k,an which k→k<c
 vb:∀ k,an vals k→k<c
theorem PlO.fr {h h':Heap} {c c' go:Nat} {st:List (Wb.Step×List Wb.Step)} {l:List Inst} {stm which vals:AV} (x:PlO h c go st l stm which vals) (hF:Fr c h h' c'):PlO h' c' go st l stm which vals:=by
 obtain ⟨⟨a,b,d,x1⟩,x2,x3,x4,x5,x6,x7,x8⟩:=x
 have:=hF.c
 exact ⟨⟨a,b,d,(hF.h go x5).trans x1⟩,x2.frame fun k hk=>hF.h k (x6 k hk),x3.frame fun k hk=>hF.h k (x7 k hk),x4.frame fun k hk=>hF.h k (x8 k hk),by omega,fun k hk=>by have:=x6 k hk; omega,fun k hk=>by have:=x7 k hk; omega,fun k hk=>by have:=x8 k hk; omega⟩
theorem _root_.Go.AM.RowAt.at {h:Heap} {sz:Nat} {x:AV} {es:List (List AV)} (r:RowAt h sz x es) {i:Nat} (hi:i<es.length):∃ g,x=.row g sz 0 es.length∧h g=some (.row sz es .live none):=by
 rcases r with ⟨_,rfl⟩ | ⟨g,rfl,hg⟩
 ·simp at hi
 ·exact ⟨g,rfl,hg⟩
theorem tT (x:ByteArray) (st:List (Wb.Step×List Wb.Step)) (l:List Inst) (stm which vals:AV) (go i b7 b3 b4:Nat) (I:Inst) (lps:List Wb.Step) (h0:Heap) (c0:Nat) (hp:PlO h0 c0 go st l stm which vals) (hi:i<l.length) (hI:l[i]=I) (hl:lps.map Step.name=I.env.map (·.1)) (hlen:lps.length≤1000000)
  (g7:h0 b7=some (.row 1 [[row (lps.map Step.cells)]] .live none)) (g3:h0 b3=some (.row 1 [[.ptr go 0 0]] .live none)) (g4:h0 b4=some (.row 1 [[.int i]] .live none)) :
  ACalls Pg Fn187.n [.str x,.ptr b7 0 0,.ptr b3 0 0,.ptr b4 0 0] ⟨h0,c0⟩ fun av s'=>av=.int (aw I.env x)∧s'.h=h0:=by
 refine Fn187.calls .frz ?_
 unfold Fn187.ac
 obtain ⟨⟨a,b,d,o1⟩,o2,o3,o4,o5,o6,o7,o8⟩:=hp
 obtain ⟨gv,v1,v2⟩:=o4.at (i:=i) (by simpa using hi)
 rw [v1] at o1
 have hel:I.env.length=lps.length:=by have:=congrArg List.length hl; simpa using this.symm
 simp [g7]
 obtain ⟨Inv,hInv⟩:∃ Inv:Nat→List Wb.Step→Slots→St→Prop,Inv=fun i r sl s'=>s'=⟨h0,c0⟩∧bL I.env x=bL (I.env.drop i) x:=⟨_,rfl⟩
 refine aY 9 Fn187.W0 lps Inv (by rfl) (by rfl) ?_ ?_ ?_
 ·rw [hInv]; exact ⟨by simp,rfl,rfl⟩
 ·intro v s' hv hI2
  rw [hInv] at hI2
  obtain ⟨rfl,hI2⟩:=hI2
  rw [List.drop_of_length_le (by omega)] at hI2
  simp [hv,aw,hI2,bL]
 ·intro j X xs v s' hj hx hl2 hv hI2
  rw [hInv] at hI2
  obtain ⟨rfl,hI2⟩:=hI2
  have hw:=ae (x:=(j:Int)+1) (by omega) (by omega)
  have hje:j<I.env.length:=by omega
  have hnm:(I.env[j]).1=Step.name X:=by
   have h1:(lps.map Step.name)[j]?=(I.env.map (·.1))[j]?:=by rw [hl]
   simp [hj,hje,hx] at h1
   exact h1.symm
  rw [List.drop_eq_getElem_cons hje] at hI2
  obtain ⟨kind,name,low,high,conds,body,array,subs,⟨op,n2,form,ea,es,args⟩⟩:=X
  simp only [Step.name] at hnm
  have hgv:(l.map fun i=>[row (aj (i.env.map (·.2)))])[i]?=some [row (aj (I.env.map (·.2)))]:=by simp [hi,hI]
  have hge:(aj (I.env.map (·.2)))[j]?=some [.int (I.env[j]).2]:=by simp [aj,hje]
  have hve:l[i].env=I.env:=by rw [hI]
  simp [hv,hj,hx,g7,Step.cells_mk]
  by_cases hxn:name=x
  ·simp only [bL] at hI2
   rw [if_pos (hxn.symm.trans hnm.symm)] at hI2
   simp [hxn,g3,g4,o1,hi,v2,hv,hve,hge,hje,aw,hI2]
  ·simp only [bL] at hI2
   rw [if_neg (fun h=>hxn (h.trans hnm).symm)] at hI2
   simp [hxn,hv,hw]
   rw [hInv]
   exact ⟨rfl,hI2⟩
theorem qx (A:List Wb.Array) (st:List (Wb.Step×List Wb.Step)) (l:List Inst) (stm which vals:AV) (go i:Nat) (I:Inst) (hI:l[i]?=some I) (hok:InstOk A st I) (hst:∀ y∈st,y.2.length≤1000000) (f:Wb.Form) (hf:OkForm f) (h0:Heap) (c0:Nat) (hp:PlO h0 c0 go st l stm which vals) :
  ACalls Pg Fn152.n [.ptr go 0 0,.int i,f.av] ⟨h0,c0⟩ fun av s'=>av=.int (aG (aw I.env) f)∧s'.h=h0:=by
 refine Fn152.calls .frz ?_
 unfold Fn152.ac
 obtain ⟨hi,hIe⟩:=List.getElem?_eq_some_iff.1 hI
 obtain ⟨lps,hat,hnm⟩:=hok.at_
 obtain ⟨hn,hne⟩:=List.getElem?_eq_some_iff.1 hat
 have hlen:=hst _ (List.mem_of_getElem? hat)
 have hF0:Fr c0 h0 (upd (upd (upd h0 c0 (some (.row 1 [[.ptr go 0 0]] .live none))) (c0+1) (some (.row 1 [[.int i]] .live none))) (c0+1+1) (some (.row 2 [[.int f.const,row (f.terms.map Term.cells)]] .live none))) (c0+1+1+1):=⟨by omega,fun k hk=>by rw [ad (by omega),ad (by omega),ad (by omega)]⟩
 obtain ⟨h3,hh3⟩:∃ h3,h3=upd (upd (upd h0 c0 (some (.row 1 [[.ptr go 0 0]] .live none))) (c0+1) (some (.row 1 [[.int i]] .live none))) (c0+1+1) (some (.row 2 [[.int f.const,row (f.terms.map Term.cells)]] .live none)):=⟨_,rfl⟩
 have b3:h3 c0=some (.row 1 [[.ptr go 0 0]] .live none):=by rw [hh3,ad (by omega),ad (by omega),af]
 have b4:h3 (c0+1)=some (.row 1 [[.int i]] .live none):=by rw [hh3,ad (by omega),af]
 have b5:h3 (c0+1+1)=some (.row 2 [[.int f.const,row (f.terms.map Term.cells)]] .live none):=by rw [hh3,af]
 rw [←hh3] at hF0
 have hp3:=hp.fr hF0
 have hp3':=hp3
 obtain ⟨⟨a,b,d,o1⟩,o2,o3,o4,o5,o6,o7,o8⟩:=hp3
 obtain ⟨gs,s1,s2⟩:=o2.at (i:=I.num) (by simpa using hn)
 obtain ⟨gw,w1,w2⟩:=o3.at (i:=i) (by simpa [aj] using hi)
 have el1:(st.map stCells).length=st.length:=by simp
 have el2:(aj (l.map fun i=>(i.num:Int))).length=l.length:=by simp [aj]
 rw [s1,w1,el1,el2] at o1
 have hgw:(aj (l.map fun i=>(i.num:Int)))[i]?=some [.int I.num]:=by simp [aj,hi,hIe]
 have hgs:(st.map stCells)[I.num]?=some (stCells (I.step,lps)):=by simp [hn,hne]
 have hst15:stCells (I.step,lps)=I.step.cells++[row (lps.map Step.cells),row ((cK (Step.expr I.step)).map Expr.cells)]:=rfl
 have hc15:(stCells (I.step,lps))[15]?=some (row (lps.map Step.cells)):=by rw [hst15,List.getElem?_append_right (by rw [df]; omega),df]; rfl
 have hnl:(I.num:Int)<st.length:=by omega
 simp [Form.av,Form.cells,←hh3]
 have hIn:l[i].num=I.num:=by rw [hIe]
 have lgs:=o6 gs (by rw [s1]; exact aq.2 rfl)
 have lgw:=o7 gw (by rw [w1]; exact aq.2 rfl)
 have n0:∀ {b:Option Body},upd h3 (c0+1+1+1) b c0=some (.row 1 [[.ptr go 0 0]] .live none):=fun {b}=>by rw [ad (by omega)]; exact b3
 have n1:∀ {b:Option Body},upd h3 (c0+1+1+1) b (c0+1)=some (.row 1 [[.int i]] .live none):=fun {b}=>by rw [ad (by omega)]; exact b4
 have n2:∀ {b:Option Body},upd h3 (c0+1+1+1) b (c0+1+1)=some (.row 2 [[.int f.const,row (f.terms.map Term.cells)]] .live none):=fun {b}=>by rw [ad (by omega)]; exact b5
 have n3:∀ {b:Option Body},upd h3 (c0+1+1+1) b go=_:=fun {b}=>by rw [ad (by omega)]
 have n4:∀ {b:Option Body},upd h3 (c0+1+1+1) b gs=_:=fun {b}=>by rw [ad (by omega)]
 have n5:∀ {b:Option Body},upd h3 (c0+1+1+1) b gw=_:=fun {b}=>by rw [ad (by omega)]
 have hF4:Fr (c0+1+1+1) h3 (upd h3 (c0+1+1+1) (some (.row 1 [[row (lps.map Step.cells)]] .live none))) (c0+1+1+1+1):=(Fr.refl _ _).upd (Nat.le_refl _) (Nat.le_succ _)
 have hsay:SaysI Fn187.n [] [.ptr (c0+1+1+1) 0 0,.ptr c0 0 0,.ptr (c0+1) 0 0] (upd h3 (c0+1+1+1) (some (.row 1 [[row (lps.map Step.cells)]] .live none))) (c0+1+1+1+1) (aw I.env):=fun x h c hF=>
  tT x st l stm which vals go i _ _ _ I lps h c ((hp3'.fr hF4).fr hF) hi hIe hnm hlen ((hF.h _ (by omega)).trans af) ((hF.h _ (by omega)).trans n0) ((hF.h _ (by omega)).trans n1)
 have hlv:=pS f hf Fn187.n [] [.ptr (c0+1+1+1) 0 0,.ptr c0 0 0,.ptr (c0+1) 0 0] (aw I.env) (cw hok.env) _ _ hsay
 rw [Form.av,Form.cells] at hlv
 simp [b3,b4,b5,o1,hi,w2,hgw,hIn,hn,s2,hne,hc15,n0,n1,n2,n3,n4,n5]
 refine ACalls.at hlv fun c5 hc5=>?_
 simp
 exact aE fun k hk=>by rw [ad (by omega)]; exact hF0.h k hk
theorem gI {φ:ByteArray→Int}:∀ {zs:List Int} {fs:List Wb.Form} {n:Int},(cG φ zs fs n false).2=false
 | [],_,_=>by cases ‹List Wb.Form› <;> rfl
 | _::_,[],_=>rfl
 | z::zs,f::fs,n=>by simp only [cG,Bool.false_and]; exact gI
theorem tH (A:List Wb.Array) (st:List (Wb.Step×List Wb.Step)) (l:List Inst) (stm which vals:AV) (go i:Nat) (I:Inst) (hI:l[i]?=some I) (hok:InstOk A st I) (hst:∀ y∈st,y.2.length≤1000000) (a:Wb.Array) (subs:List Wb.Form) (hsubs:∀ f∈subs,OkForm f) (hlen:a.sizes.length=subs.length) (h0:Heap) (c0:Nat) (hp:PlO h0 c0 go st l stm which vals) :
  ACalls Pg Fn147.n [.ptr go 0 0,.int i,.agg a.cells,row (subs.map Form.cells)] ⟨h0,c0⟩ fun av s'=>s'.h=h0∧∃ n:Int,av=.tup [.int n,.bool (cG (aw I.env) a.sizes subs 0 true).2]∧((cG (aw I.env) a.sizes subs 0 true).2=true→n=(cG (aw I.env) a.sizes subs 0 true).1):=by
 refine ACalls.small fun hsm=>?_
 have hsl:subs.length≤68719476736:=by simp at hsm; omega
 refine Fn147.calls .frz ?_
 unfold Fn147.ac
 have hφ:=cw hok.env
 simp [Array.cells]
 obtain ⟨h1,hh1⟩:∃ h1,h1=upd h0 c0 (some (.row 2 [[.str a.key,row (aj a.sizes)]] .live none)):=⟨_,rfl⟩
 rw [←hh1]
 have hb:h1 c0=_:=(congrFun hh1 c0).trans af
 have hF1:Fr c0 h0 h1 (c0+1):=by rw [hh1]; exact (Fr.refl _ _).upd (Nat.le_refl _) (Nat.le_succ _)
 obtain ⟨Inv,hInv⟩:∃ Inv:Nat→List Wb.Form→Slots→St→Prop,Inv=fun i r sl s'=>∃ n:Int,sl 10=.int n∧cG (aw I.env) (a.sizes.drop i) r n true=cG (aw I.env) a.sizes subs 0 true:=⟨_,rfl⟩
 refine bh 16 Fn147.W0 subs Inv (by rfl) (by rfl) ?_ ?_ ?_
 ·rw [hInv]; exact ⟨by simp,0,by simp,rfl⟩
 ·intro v h c hv hF hI2
  rw [hInv] at hI2
  obtain ⟨n,h10,hs⟩:=hI2
  rw [List.drop_of_length_le (by omega)] at hs
  simp only [cG] at hs
  simp at h10
  rw [←hs]
  simp [hv,h10]
  exact (hF1.trans hF).retH
 ·intro j f fs v h c hj hx hl2 hv hF hI2
  rw [hInv] at hI2
  obtain ⟨n,h10,hs⟩:=hI2
  simp at h10
  have hw:=ae (x:=(j:Int)+1) (by omega) (by omega)
  have hjz:j<a.sizes.length:=by omega
  rw [List.drop_eq_getElem_cons hjz] at hs
  simp only [cG] at hs
  have hcc:=hF.c
  have hzj:(aj a.sizes)[j]?=some [.int a.sizes[j]]:=by simp [aj,hjz]
  obtain ⟨h2,hh2⟩:∃ h2,h2=upd h c (some (.row 2 [[.int f.const,row (f.terms.map Term.cells)]] .live none)):=⟨_,rfl⟩
  have hF2:Fr (c0+1) h1 h2 (c+1):=by rw [hh2]; exact hF.upd hcc (Nat.le_succ _)
  have hb2:h2 c0=_:=(hF2.h c0 (by omega)).trans hb
  have hf2:h2 c=_:=(congrFun hh2 c).trans af
  have hva:=qx A st l stm which vals go i I hI hok hst f (hsubs f (aM hl2)) h2 (c+1) (hp.fr (hF1.trans hF2))
  rw [Form.av,Form.cells] at hva
  obtain ⟨u,hu⟩:∃ u,u=aG (aw I.env) f:=⟨_,rfl⟩
  obtain ⟨z,hz⟩:∃ z,z=a.sizes[j]:=⟨_,rfl⟩
  rw [←hz] at hzj
  rw [←hu,←hz] at hs
  rw [←hu] at hva
  have hend:retH c0 h0 h2=h0:=(hF1.trans hF2).retH
  simp [hv,hj,hx,Form.cells,←hh2,hf2]
  refine ACalls.at hva fun c2 hc2=>?_
  by_cases hneg:u<0
  ·have hno:¬(0≤u∧u≤z-1):=by omega
   rw [decide_eq_false hno,Bool.and_false] at hs
   have hf:(cG (aw I.env) a.sizes subs 0 true).2=false:=by rw [←hs]; exact gI
   simp [hneg,hf]
   exact hend
  by_cases hbig:z≤u
  ·have hno:¬(0≤u∧u≤z-1):=by omega
   rw [decide_eq_false hno,Bool.and_false] at hs
   have hf:(cG (aw I.env) a.sizes subs 0 true).2=false:=by rw [←hs]; exact gI
   simp [hneg,hbig,hf,hb2,hjz,hzj]
   exact hend
  ·have hyes:0≤u∧u≤z-1:=by omega
   rw [decide_eq_true hyes,Bool.and_true] at hs
   simp [hneg,hbig,hb2,hjz,hzj,h10,hv,hw]
   refine ⟨⟨by show c0+1≤c2; omega,hF2.h⟩,?_⟩
   rw [hInv]
   exact ⟨_,by simp,hs⟩
end Go.Proofs.YtocppbmmfklbmaaGreat
set_option maxRecDepth 20000
set_option maxHeartbeats 4000000
namespace Go.Proofs.YtocppbmmfklbmaaGreat
open Go.AM Go.Wb
structure RunI (h:Heap) (c go b9:Nat) (st:List (Wb.Step×List Wb.Step)) (l:List Inst) (stm which vals rnd acc frm:AV) (n:Int) (es frs:List (List AV)):Prop where
 plo:PlO h c go st l stm which vals
 obj:h go=some (.row 6 [[stm,which,vals,rnd,acc,frm]] .live none)
 hacc:RowAt h 4 acc es
 hfrm:RowAt h 1 frm frs
 cnt:h b9=some (.row 1 [[.int n]] .live none)
 bc:b9<c
 ab:∀ k,an acc k→k<c∧k≠go∧k≠b9∧¬an frm k
 fb:∀ k,an frm k→k<c∧k≠go∧k≠b9
 gb:go≠b9
 nd:∀ k,an stm k∨an which k∨an vals k→k≠go∧k≠b9∧¬an acc k∧¬an frm k
 rc:rnd.cell=true
 esok:∀ e∈es,az 4 e=true
 frok:∀ e∈frs,az 1 e=true
 len:(es.length:Int)≤n∧es.length≤200000∧frs.length≤100000
 nb:0≤n∧n≤1000000000
def pH (go b9:Nat) (acc frm:AV) (k:Nat):Prop:=k=go∨k=b9∨an acc k∨an frm k
theorem RunI.frame {h h':Heap} {c c' go b9:Nat} {st:List (Wb.Step×List Wb.Step)} {l:List Inst} {stm which vals rnd acc frm:AV} {n:Int} {es frs:List (List AV)} (x:RunI h c go b9 st l stm which vals rnd acc frm n es frs) (hF:Fr c h h' c'):RunI h' c' go b9 st l stm which vals rnd acc frm n es frs:=by
 have hc:=hF.c
 exact ⟨x.plo.fr hF,(hF.h _ x.plo.goc).trans x.obj,x.hacc.frame fun k hk=>hF.h k (x.ab k hk).1,x.hfrm.frame fun k hk=>hF.h k (x.fb k hk).1,(hF.h _ x.bc).trans x.cnt,by have:=x.bc; omega,fun k hk=>⟨by have:=(x.ab k hk).1; omega,(x.ab k hk).2⟩,fun k hk=>⟨by have:=(x.fb k hk).1; omega,(x.fb k hk).2⟩,x.gb,x.nd,x.rc,x.esok,x.frok,x.len,x.nb⟩
theorem RunI.count {h:Heap} {c go b9:Nat} {st:List (Wb.Step×List Wb.Step)} {l:List Inst} {stm which vals rnd acc frm:AV} {n:Int} {es frs:List (List AV)} (x:RunI h c go b9 st l stm which vals rnd acc frm n es frs) (hn:n<1000000000):RunI (AM.upd h b9 (some (.row 1 [[.int (n+1)]] .live none))) c go b9 st l stm which vals rnd acc frm (n+1) es frs:=by
 have hne:∀ k,k≠b9→AM.upd h b9 (some (.row 1 [[.int (n+1)]] .live none)) k=h k:=fun k hk=>ad hk
 have p:=x.plo
 obtain ⟨a,b,d,o⟩:=p.obj
 exact ⟨⟨⟨a,b,d,(hne _ x.gb).trans o⟩,p.hstm.frame fun k hk=>hne k (x.nd k (.inl hk)).2.1,p.hwhich.frame fun k hk=>hne k (x.nd k (.inr (.inl hk))).2.1,p.hvals.frame fun k hk=>hne k (x.nd k (.inr (.inr hk))).2.1,p.goc,p.sb,p.wb,p.vb⟩,(hne _ x.gb).trans x.obj,x.hacc.frame fun k hk=>hne k (x.ab k hk).2.2.1,x.hfrm.frame fun k hk=>hne k (x.fb k hk).2.2,af,x.bc,x.ab,x.fb,x.gb,x.nd,x.rc,x.esok,x.frok,by have:=x.len; omega,by have:=x.nb; omega⟩
theorem RunI.re {h h':Heap} {c c' go b9:Nat} {st:List (Wb.Step×List Wb.Step)} {l:List Inst} {stm which vals rnd acc frm acc' frm':AV} {n:Int} {es frs es' frs':List (List AV)} (x:RunI h c go b9 st l stm which vals rnd acc frm n es frs)
  (ho:h' go=some (.row 6 [[stm,which,vals,rnd,acc',frm']] .live none)) (ha:RowAt h' 4 acc' es') (hf:RowAt h' 1 frm' frs') (hk:∀ k,k<c→k≠go→¬an acc k→¬an frm k→h' k=h k) (hc:c≤c')
  (nA:∀ k,an acc' k→an acc k∨(c≤k∧k<c')) (nF:∀ k,an frm' k→an frm k∨(c≤k∧k<c')) (nd:∀ k,an acc' k→¬an frm' k)
  (he:∀ e∈es',az 4 e=true) (hfe:∀ e∈frs',az 1 e=true) (hl:(es'.length:Int)≤n∧es'.length≤200000∧frs'.length≤100000):RunI h' c' go b9 st l stm which vals rnd acc' frm' n es' frs':=by
 have p:=x.plo
 have bc:=x.bc
 have hs:∀ k,an stm k∨an which k∨an vals k→h' k=h k:=fun k h=>by
  have d:=x.nd k h
  have:k<c:=h.elim (p.sb k) fun h=>h.elim (p.wb k) (p.vb k)
  exact hk k this d.1 d.2.2.1 d.2.2.2
 have hlt:∀ k,an stm k∨an which k∨an vals k→k<c:=fun k h=>h.elim (p.sb k) fun h=>h.elim (p.wb k) (p.vb k)
 refine ⟨⟨⟨_,_,_,ho⟩,p.hstm.frame fun k h=>hs k (.inl h),p.hwhich.frame fun k h=>hs k (.inr (.inl h)),p.hvals.frame fun k h=>hs k (.inr (.inr h)),by have:=p.goc; omega,fun k h=>by have:=p.sb k h; omega,fun k h=>by have:=p.wb k h; omega,fun k h=>by have:=p.vb k h; omega⟩,ho,ha,hf,(hk b9 bc (Ne.symm x.gb) (fun h=>(x.ab b9 h).2.2.1 rfl) (fun h=>(x.fb b9 h).2.2 rfl)).trans x.cnt,by omega,?_,?_,x.gb,?_,x.rc,he,hfe,hl,x.nb⟩
 ·intro k h
  have goc:=p.goc
  rcases nA k h with h2 | h2
  ·have d:=x.ab k h2
   exact ⟨by omega,d.2.1,d.2.2.1,nd k h⟩
  ·exact ⟨by omega,by omega,by omega,nd k h⟩
 ·intro k h
  have goc:=p.goc
  rcases nF k h with h2 | h2
  ·have d:=x.fb k h2
   exact ⟨by omega,d.2.1,d.2.2⟩
  ·exact ⟨by omega,by omega,by omega⟩
 ·intro k h
  have d:=x.nd k h
  have:=hlt k h
  exact ⟨d.1,d.2.1,fun h2=>(nA k h2).elim d.2.2.1 fun h3=>by omega,fun h2=>(nF k h2).elim d.2.2.2 fun h3=>by omega⟩
def dZ (k:Nat) (w:Bool) (s:Wb.Spot):List AV:=[.int k,.bool w,.str s.array,.int s.cell]
theorem tA (A:List Wb.Array) (st:List (Wb.Step×List Wb.Step)) (l:List Inst) (stm which vals rnd acc frm:AV) (go b4 b6 b9 gm ver i:Nat) (I:Inst) (hI:l[i]?=some I) (hok:InstOk A st I) (hst:∀ y∈st,y.2.length≤1000000) (w:Bool) (key:ByteArray) (subs:List Wb.Form) (hsubs:eH A key subs) (n:Int) (es frs:List (List AV)) (hn:n<1000000000)
  (h0:Heap) (c0:Nat) (hr:RunI h0 c0 go b9 st l stm which vals rnd acc frm n es frs) (g4:h0 b4=some (.row 1 [[.ptr go 0 0]] .live none)) (g6:h0 b6=some (.row 1 [[.map gm]] .live none)) (b4c:b4<c0∧b4≠b9) (b6c:b6<c0∧b6≠b9) (gmc:gm<c0) (m:List (ByteArray×Wb.Array)) (hgm:h0 gm=some (.map (kvs AV.str (fun a=>AV.agg (Array.cells a)) m) ver)) (hm:∀ (j:Nat) (a:Wb.Array),A[j]?=some a→bL m a.key=some a) :
  ACalls Pg Fn146.n [.int i,.bool w,.str key,row (subs.map Form.cells),.ptr b4 0 0,.ptr b6 0 0,.ptr b9 0 0] ⟨h0,c0⟩ fun av s'=>av=.bool (bT A (aw I.env) key subs).2 ∧
   ((bT A (aw I.env) key subs).2=true→∃ acc',RunI s'.h s'.c go b9 st l stm which vals rnd acc' frm (n+1) (if n+1≤200000 then es++[dZ i w (bT A (aw I.env) key subs).1] else es) frs∧(∀ k,an acc' k→an acc k∨c0≤k))∧∀ k,k<c0→¬pH go b9 acc frm k→s'.h k=h0 k:=by
 obtain ⟨j,a,hj,hja,hak,hlen,hforms⟩:=hsubs
 have hsz:=kz hj hja
 have hmg:=hm j a hj
 rw [hak] at hmg
 have hspot:bT A (aw I.env) key subs=(⟨key,(cG (aw I.env) a.sizes subs 0 true).1⟩,(cG (aw I.env) a.sizes subs 0 true).2):=by unfold bT; rw [hsz]
 have hlk:=gX eJ (f:=fun a:Wb.Array=>AV.agg (Array.cells a)) (z:=.agg [.str ⟨#[]⟩,.nil]) (ok:=false) (s:=⟨h0,c0⟩) hgm key
 rw [hmg] at hlk
 have hcell:=tH A st l stm which vals go i I hI hok hst a subs hforms hlen h0 c0 hr.plo
 rw [hspot]
 refine Fn146.calls .keep ?_
 unfold Fn146.ac
 simp [g4,g6,hlk]
 refine hcell.mono ?_
 rintro av ⟨h1,c1⟩ hc1 ⟨hh,cell,rfl,hcn⟩
 simp only at hh hc1
 subst hh
 have hcnt:=hr.cnt
 have hnb:=hr.nb
 have hw:=ae (x:=n+1) (by omega) (by omega)
 have hr1:=(hr.count hn).frame (Fr.le hc1)
 obtain ⟨h2,hh2⟩:∃ h2,h2=upd h1 b9 (some (.row 1 [[.int (n+1)]] .live none)):=⟨_,rfl⟩
 rw [←hh2] at hr1
 have q9:h2 b9=_:=hr1.cnt
 have q4:h2 b4=_:=(congrFun hh2 b4).trans ((ad b4c.2).trans g4)
 simp [hcnt,hw,←hh2,q9]
 have hsame2:∀ k,k<c0→¬pH go b9 acc frm k→h2 k=h1 k:=fun k hk hk2=>by rw [hh2,ad fun h=>hk2 (.inr (.inl h))]
 by_cases hle:n+1≤200000
 ·have hlen2:=hr1.len
  obtain ⟨h3,p1,p2,p3,p4⟩:=hr1.hacc.push (c:=c1) (bytes:=40) (md:=.plain) (b:=true) (e:=[.int i,.bool w,.str key,.int cell]) (by decide) (by decide) (by decide) (by decide) rfl hr1.esok (by omega) (fun k hk=>(hr1.ab k hk).1)
  have o2:=hr1.obj
  have goc:=hr1.plo.goc
  have ngo:¬an acc go:=fun h=>(hr1.ab go h).2.1 rfl
  have o3:=(p4 go (by omega) ngo).trans o2
  have nb4:¬an acc b4:=fun h=>by
   rcases hr.hacc with ⟨e,_⟩ | ⟨g,e,hg⟩
   ·rw [e] at h; exact aJ h
   ·rw [e] at h; have:=aq.1 h; subst this; rw [g4] at hg; cases hg
  have q43:=(p4 b4 (by omega) nb4).trans q4
  simp [hle,q4,o2,aK,bsI,au,p1,o3,q43]
  obtain ⟨h4,hh4⟩:∃ h4,h4=upd h3 go (some (.row 6 [[stm,which,vals,rnd,.row c1 4 0 (es.length+1),frm]] .live none)):=⟨_,rfl⟩
  have hk4:∀ k,k<c1→k≠go→¬an acc k→h4 k=h2 k:=fun k a b d=>by rw [hh4,ad b,p4 k (by omega) d]
  rw [←hh4]
  refine ⟨fun hs=>⟨.row c1 4 0 (es.length+1),?_,fun k hk=>.inr (by have:=aq.1 hk; omega)⟩,fun k hk hk2=>(hk4 k (by omega) (fun h=>hk2 (.inl h)) fun h=>hk2 (.inr (.inr (.inl h)))).trans (hsame2 k hk hk2)⟩
  refine hr1.re (acc':=.row c1 4 0 (es.length+1)) (frm':=frm) ((congrFun hh4 go).trans af) ?_ (hr1.hfrm.frame fun k hk=>hk4 k (hr1.fb k hk).1 (hr1.fb k hk).2.1 fun h=>(hr1.ab k h).2.2.2 hk) (fun k a b d _=>hk4 k a b d) (Nat.le_succ _) (fun k hk=>.inr (by have:=aq.1 hk; omega)) (fun k hk=>.inl hk) (fun k hk h=>by have:=aq.1 hk; have:=(hr1.fb k h).1; omega) ?_ hr1.frok (by have:=hr.len; simp; omega)
  ·refine .inr ⟨c1,by simp,?_⟩
   rw [hh4,ad (by omega),p2,hcn hs]
   simp [dZ]
  ·intro e he
   rcases List.mem_append.1 he with he | he
   ·exact hr1.esok e he
   ·rw [List.mem_singleton.1 he]; rfl
 ·simp [hle]
  exact ⟨fun _=>⟨acc,hr1,fun k hk=>.inl hk⟩,hsame2⟩
def pN:Wb.Expr→ByteArray | .mk _ _ _ array _ _=>array
def nE:Wb.Expr→List Wb.Form | .mk _ _ _ _ subs _=>subs
def fW (A:List Wb.Array) (φ:ByteArray→Int) (x:Wb.Expr):Wb.Spot×Bool:=bT A φ (pN x) (nE x)
mutual
theorem jW (A:List Wb.Array) (φ:ByteArray→Int):∀ e:Wb.Expr,cE A φ e=((cK e).map fun x=>(fW A φ x).1,(cK e).all fun x=>(fW A φ x).2)
 | .mk op n form array subs args=>by
  simp only [cE,cK]
  split
  ·simp [fW,pN,nE]
  ·exact qg A φ args
theorem qg (A:List Wb.Array) (φ:ByteArray→Int):∀ l:List Wb.Expr,cC A φ l=((br l).map fun x=>(fW A φ x).1,(br l).all fun x=>(fW A φ x).2)
 | []=>rfl
 | e::es=>by simp [cC,br,jW A φ e,qg A φ es]
end
mutual
theorem kR {A:List Wb.Array}:∀ e:Wb.Expr,cr A e→∀ x∈cK e,eH A (pN x) (nE x)
 | .mk op n form array subs args,h,x,hx=>by
  simp only [cK] at hx
  simp only [cr] at h
  split at hx
  ·rename_i h3
   rw [List.mem_singleton.1 hx]
   rcases h with h | h | h | h
   ·exact absurd (h.1.symm.trans h3) (by decide)
   ·exact absurd (h.1.symm.trans h3) (by decide)
   ·exact h.2.2
   ·omega
  ·rcases h with h | h | h | h
   ·rw [h.2.1] at hx; simp [br] at hx
   ·rw [h.2.1] at hx; simp [br] at hx
   ·rw [h.2.1] at hx; simp [br] at hx
   ·exact nH args h.2.2.2 x hx
theorem nH {A:List Wb.Array}:∀ l:List Wb.Expr,cL A l→∀ x∈br l,eH A (pN x) (nE x)
 | [],_,x,hx=>by simp [br] at hx
 | e::es,h,x,hx=>by
  simp only [br,List.mem_append] at hx
  simp only [cL] at h
  rcases hx with hx | hx
  ·exact kR e h.1 x hx
  ·exact nH es h.2 x hx
end
def kb (A:List Wb.Array) (k:Nat) (x:Inst):List (List AV):=(x.reads A).map (dZ k false)++[dZ k true (x.sets A)]
def dF (A:List Wb.Array):Nat→List Inst→List (List AV)
 | _,[]=>[]
 | k,x::xs=>kb A k x++dF A (k+1) xs
theorem m7 (A:List Wb.Array):∀ (k:Nat) (a b:List Inst),dF A k (a++b)=dF A k a++dF A (k+a.length) b
 | k,[],b=>by simp [dF]
 | k,x::a,b=>by simp [dF,m7 A (k+1) a b,Nat.add_assoc,Nat.add_comm 1]
theorem kZ (A:List Wb.Array) (k:Nat) (x:Inst):(kb A k x).length=(x.reads A).length+1:=by simp [kb]
theorem mI (A:List Wb.Array):∀ (k:Nat) (l:List Inst),((dF A k l).length:Int)=ci A l
 | k,[]=>rfl
 | k,x::xs=>by
  have:=mI A (k+1) xs
  simp only [dF,List.length_append,kZ,ci,List.map_cons,List.sum_cons] at this ⊢
  push_cast; omega
def eN (A:List Wb.Array):Nat→List Inst→List Int
 | _,[]=>[]
 | n,x::xs=>(n:Int)::eN A (n+(x.reads A).length+1) xs
theorem gZ (A:List Wb.Array):∀ (n:Nat) (l:List Inst),(eN A n l).length=l.length
 | _,[]=>rfl
 | n,x::xs=>by simp [eN,gZ A _ xs]
theorem lE (A:List Wb.Array):∀ (n k:Nat) (a b:List Inst),eN A n (a++b)=eN A n a++eN A (n+(dF A k a).length) b
 | n,k,[],b=>by simp [eN,dF]
 | n,k,x::a,b=>by
  simp only [List.cons_append,eN,lE A _ (k+1) a b,dF,List.length_append,kZ]
  rw [show n+(x.reads A).length+1+(dF A (k+1) a).length=n+((x.reads A).length+1+(dF A (k+1) a).length) by omega]
theorem jJ (A:List Wb.Array) (a b:List Inst):ci A (a++b)=ci A a+ci A b:=by simp [ci]
theorem jL (A:List Wb.Array) (x:Inst):ci A [x]=(x.reads A).length+1:=by simp [ci]
theorem lT (A:List Wb.Array) (l:List Inst):0≤ci A l:=by rw [←mI A 0 l]; omega
theorem l9:∀ {A:List Wb.Array},(∀ (i j:Nat) (a b:Wb.Array),A[i]?=some a→A[j]?=some b→j<i→b.key≠a.key)→∀ (j:Nat) (a:Wb.Array),A[j]?=some a→bL (A.map fun a=>(a.key,a)) a.key=some a
 | [],_,j,a,h=>by simp at h
 | x::A,hA,0,a,h=>by
  simp at h; subst h
  simp [bL]
 | x::A,hA,j+1,a,h=>by
  have h':A[j]?=some a:=by simpa using h
  have hne:¬a.key=x.key:=fun e=>hA (j+1) 0 a x h rfl (by omega) e.symm
  simp only [List.map_cons,bL,if_neg hne]
  exact l9 (fun i j a b h1 h2 h3=>hA (i+1) (j+1) a b (by simpa using h1) (by simpa using h2) (by omega)) j a h'
theorem oH {κ β:Type} [DecidableEq κ] {m:List (κ×β)} {k:κ} {v:β} (h:∀ p∈m,p.1≠k):dI m k v=m++[(k,v)]:=by
 induction m with
 | nil=>rfl
 | cons p m ih=>
  have hne:¬k=p.1:=fun e=>h p List.mem_cons_self e.symm
  simp only [dI,if_neg hne]
  rw [ih fun q hq=>h q (List.mem_cons_of_mem _ hq)]; rfl
end Go.Proofs.YtocppbmmfklbmaaGreat
set_option maxRecDepth 20000
set_option maxHeartbeats 4000000
namespace Go.Proofs.YtocppbmmfklbmaaGreat
open Go.AM Go.Wb
structure RanAt (h:Heap) (c go:Nat) (p:Wb.Prog) (stm which vals rnd acc frm:AV):Prop where
 plo:PlO h c go (bw [] p.steps) (aA p).2.l stm which vals
 obj:h go=some (.row 6 [[stm,which,vals,rnd,acc,frm]] .live none)
 hacc:RowAt h 4 acc (dF p.arrays 0 (aA p).2.l)
 hfrm:RowAt h 1 frm (aj (eN p.arrays 0 (aA p).2.l))
 ab:∀ k,an acc k→k<c
 fb:∀ k,an frm k→k<c
def eo (p:Wb.Prog):Int:=if (aA p).1=0 then cg p.arrays (aA p).2.l else (aA p).1
theorem tf:∀ (around:List Wb.Step) (x:Wb.Step),∀ y∈hJ around x,y.2.length≤around.length+count x
 | around,.mk kind name low high conds body array subs expr=>by
  intro y hy
  rw [jl] at hy
  obtain ⟨z,hz,rfl⟩:=List.mem_map.1 hy
  have h1:(z.2.filter isLoop).length≤z.2.length:=List.length_filter_le _ _
  have h2:=walk_around around (.mk kind name low high conds body array subs expr) z (List.mem_filter.1 hz).1
  show (z.2.filter isLoop).length≤_
  omega
where
 walk_around:∀ (around:List Wb.Step) (x:Wb.Step),∀ y∈fo around x,y.2.length≤around.length+count x
  | around,.mk kind name low high conds body array subs expr=>by
   intro y hy
   simp only [fo,List.mem_cons] at hy
   rcases hy with rfl | hy
   ·simp
   ·have:=walk_aroundL _ body y hy
    simp [count] at this ⊢; omega
 walk_aroundL:∀ (around:List Wb.Step) (l:List Wb.Step),∀ y∈bP around l,y.2.length≤around.length+aC l
  | around,[]=>by simp [bP]
  | around,s::ss=>by
   intro y hy
   simp only [bP,List.mem_append] at hy
   rcases hy with hy | hy
   ·have:=walk_around around s y hy; simp [aC]; omega
   ·have:=walk_aroundL around ss y hy; simp [aC]; omega
theorem kB (p:List Wb.Step) (y:Wb.Step×List Wb.Step) (hy:y∈bw [] p):y.2.length≤aC p:=by
 rw [jh] at hy
 obtain ⟨z,hz,rfl⟩:=List.mem_map.1 hy
 have h1:(z.2.filter isLoop).length≤z.2.length:=List.length_filter_le _ _
 have h2:=tf.walk_aroundL [] p z (List.mem_filter.1 hz).1
 show (z.2.filter isLoop).length≤_
 simp at h2; omega
theorem rf {A:List Wb.Array}:∀ {l:List Inst},(∀ x∈l,(x.reads A).length≤4096)→ci A l≤4097*l.length
 | [],_=>by simp [ci]
 | x::xs,h=>by
  have h1:=h x List.mem_cons_self
  have h2:=rf fun y hy=>h y (List.mem_cons_of_mem _ hy)
  simp only [ci,List.map_cons,List.sum_cons,List.length_cons] at h2 ⊢
  push_cast; omega
theorem vf (p:Wb.Prog) (hp:Right p) (hc:aC p.steps≤300) (h0:Heap) (c0:Nat) :
  ACalls Pg Fn87.n [p.av] ⟨h0,c0⟩ fun av s'=>Fr c0 h0 s'.h s'.c∧if eo p=0 then ∃ go stm which vals rnd acc frm,av=.tup [.ptr go 0 0,.int 0]∧RanAt s'.h s'.c go p stm which vals rnd acc frm else av=.tup [.nilp,.int (eo p)]:=by
 refine ACalls.small fun hsm=>?_
 have hal:p.arrays.length≤68719476736:=by simp [Prog.av] at hsm; omega
 refine Fn87.calls .keep ?_
 unfold Fn87.ac
 have hinst:=fun h c=>vd p hp hc h c
 simp only [Prog.av] at hinst
 simp [Prog.av]
 refine (hinst _ _).mono ?_
 rintro av ⟨h1,c1⟩ hc1 ⟨hF1,hq⟩
 simp only at hc1 hF1 hq
 have hF01:Fr c0 h0 h1 c1:=⟨by omega,fun k hk=>by rw [hF1.h k (by omega),ad (by omega)]⟩
 have hbox1:h1 c0=some (.row 2 [[row (p.arrays.map Array.cells),row (p.steps.map Step.cells)]] .live none):=by rw [hF1.h c0 (by omega),af]
 by_cases hz:(aA p).1=0
 case neg=>
  rw [if_neg hz] at hq
  subst hq
  have hpf:eo p=(aA p).1:=by simp [eo,hz]
  rw [hpf]
  simp [hz]
  refine ⟨by show c0≤c1+1; omega,fun k hk=>?_⟩
  show upd h1 c1 _ k=_
  rw [ad (by omega)]; exact hF01.h k hk
 rw [if_pos hz] at hq
 obtain ⟨go,stm,which,vals,rfl,hPl⟩:=hq
 have hpf:eo p=cg p.arrays (aA p).2.l:=by simp [eo,hz]
 rw [hpf]
 simp
 obtain ⟨hA,hhA⟩:∃ hA,hA=upd (upd (upd h1 c1 (some (.row 1 [[.ptr go 0 0]] .live none))) (c1+1) (some (.map [] (c1+1)))) (c1+1+1) (some (.row 1 [[.map (c1+1)]] .live none)):=⟨_,rfl⟩
 rw [←hhA]
 have a4:hA c1=some (.row 1 [[.ptr go 0 0]] .live none):=by rw [hhA,ad (by omega),ad (by omega),af]
 have am:hA (c1+1)=some (.map [] (c1+1)):=by rw [hhA,ad (by omega),af]
 have a6:hA (c1+1+1)=some (.row 1 [[.map (c1+1)]] .live none):=by rw [hhA,af]
 have alow:∀ k,k<c1→hA k=h1 k:=fun k hk=>by rw [hhA,ad (by omega),ad (by omega),ad (by omega)]
 have abox:=(alow c0 (by omega)).trans hbox1
 simp [abox]
 obtain ⟨Inv,hInv⟩:∃ Inv:Nat→List Wb.Array→Slots→St→Prop,Inv=fun i r sl s'=>(∃ ver,s'.h (c1+1)=some (.map (kvs AV.str (fun a:Wb.Array=>AV.agg (Array.cells a)) ((p.arrays.take i).map fun a=>(a.key,a))) ver))∧(∀ k,k<c1+1+1+1→k≠c1+1→s'.h k=hA k)∧c1+1+1+1≤s'.c:=⟨_,rfl⟩
 refine aY 28 Fn87.W0 p.arrays Inv (by rfl) (by rfl) ?_ ?_ ?_
 ·rw [hInv]; exact ⟨by simp,⟨c1+1,am⟩,fun _ _ _=>rfl,Nat.le_refl _⟩
 ·intro v s' hv hI
  rw [hInv] at hI
  obtain ⟨⟨ver,m1⟩,m2,m3⟩:=hI
  obtain ⟨h2,c2⟩:=s'
  simp only at m1 m2 m3
  rw [List.take_length] at m1
  have q4:=(m2 c1 (by omega) (by omega)).trans a4
  have q6:=(m2 (c1+1+1) (by omega) (by omega)).trans a6
  have qlow:∀ k,k<c1→h2 k=h1 k:=fun k hk=>(m2 k (by omega) (by omega)).trans (alow k hk)
  obtain ⟨hB,hhB⟩:∃ hB,hB=upd h2 c2 (some (.row 1 [[.int 0]] .live none)):=⟨_,rfl⟩
  have blow:∀ k,k<c2→hB k=h2 k:=fun k hk=>by rw [hhB,ad (by omega)]
  have r4:=(blow c1 (by omega)).trans q4
  have r6:=(blow (c1+1+1) (by omega)).trans q6
  have rm:=(blow (c1+1) (by omega)).trans m1
  have r9:hB c2=_:=(congrFun hhB c2).trans af
  have rlow:∀ k,k<c1→hB k=h1 k:=fun k hk=>(blow k (by omega)).trans (qlow k hk)
  have hgl:=hPl.goc
  have robj:=(rlow go (by omega)).trans hPl.obj
  obtain ⟨l,hl⟩:∃ l,l=(aA p).2.l:=⟨_,rfl⟩
  have hlen:=hPl.len
  have hinv:=dY hp
  have hplo:PlO hB (c2+1) go (bw [] p.steps) l stm which vals:=⟨⟨_,_,_,robj⟩,hPl.hstm.frame fun k hk=>rlow k (hPl.sc k hk).2.1,by rw [hl]; exact hPl.hwhich.frame fun k hk=>rlow k (hPl.wc k hk).2.1,by rw [hl]; exact hPl.hvals.frame fun k hk=>rlow k (hPl.vc k hk).2.1,by omega,fun k hk=>by have:=hPl.sc k hk; omega,fun k hk=>by have:=hPl.wc k hk; omega,fun k hk=>by have:=hPl.vc k hk; omega⟩
  have hri:RunI hB (c2+1) go c2 (bw [] p.steps) l stm which vals (.int (aA p).2.rounds) (.sl [] true) (.sl [] true) 0 [] []:=by
   refine ⟨hplo,robj,.inl ⟨rfl,rfl⟩,.inl ⟨rfl,rfl⟩,r9,by omega,fun k hk=>absurd hk aJ,fun k hk=>absurd hk aJ,by omega,?_,rfl,by simp,by simp,by simp,by omega⟩
   rintro k (h | h | h)
   ·have:=hPl.sc k h; exact ⟨by omega,by omega,aJ,aJ⟩
   ·have:=hPl.wc k h; exact ⟨by omega,by omega,aJ,aJ⟩
   ·have:=hPl.vc k h; exact ⟨by omega,by omega,aJ,aJ⟩
  have hwl:=hplo.hwhich.len ⟨hB,c2+1⟩
  have ewl:(aj (l.map fun i=>(i.num:Int))).length=l.length:=by simp [aj]
  rw [ewl] at hwl
  rw [←hl] at hinv hlen
  rw [←hl]
  simp [hv]
  rw [←hhB]
  simp [r4,robj,hwl]
  obtain ⟨rnd,hrnd⟩:∃ rnd,rnd=AV.int (aA p).2.rounds:=⟨_,rfl⟩
  rw [←hrnd] at hri
  obtain ⟨Own,hOwn⟩:∃ Own:Heap→Nat→Prop,Own=fun h c=>h c1=some (.row 1 [[.ptr go 0 0]] .live none)∧h (c1+1+1)=some (.row 1 [[.map (c1+1)]] .live none)∧h (c1+1)=hB (c1+1)∧(∀ k,k<c0→h k=h0 k)∧c2+1≤c:=⟨_,rfl⟩
  obtain ⟨Inv,hInv⟩:∃ Inv:Nat→List Inst→Slots→St→Prop,Inv=fun i r sl s'=>∃ (acc frm:AV) (n:Int) (es frs:List (List AV)),RunI s'.h s'.c go c2 (bw [] p.steps) l stm which vals rnd acc frm n es frs∧n=ci p.arrays (l.take i)∧(n≤200000→es=dF p.arrays 0 (l.take i)∧frs=aj (eN p.arrays 0 (l.take i)))∧frs.length=i∧(∀ x∈l.take i,x.ok p.arrays=true)∧Own s'.h s'.c∧∀ k,an acc k∨an frm k→c2<k:=⟨_,rfl⟩
  refine aY 43 Fn87.W1 l Inv (by rfl) (by rfl) ?_ ?_ ?_
  ·rw [hInv]
   refine ⟨by simp,.sl [] true,.sl [] true,0,[],[],hri,rfl,fun _=>⟨rfl,rfl⟩,rfl,by simp,?_,fun k hk=>absurd hk (fun h=>h.elim aJ aJ)⟩
   rw [hOwn]
   exact ⟨r4,r6,rfl,fun k hk=>(rlow k (by omega)).trans (hF01.h k hk),Nat.le_refl _⟩
  ·intro v s' hv hI
   rw [hInv] at hI
   obtain ⟨acc,frm,n,es,frs,i1,i2,i3,i4,i5,i6,i7⟩:=hI
   obtain ⟨h3,c3⟩:=s'
   rw [List.take_length] at i2 i3 i5
   rw [hOwn] at i6
   obtain ⟨o1,o2,o3,o4,o5⟩:=i6
   simp only at i1 o1 o2 o3 o4 o5
   have hcnt:=i1.cnt
   have hno:(l.any fun i=>!i.ok p.arrays)=false:=by
    rw [List.any_eq_false]
    intro x hx
    simp [i5 x hx]
   have hFF:Fr c0 h0 h3 c3:=⟨by omega,o4⟩
   simp [hv,hcnt]
   by_cases hbig:200000<n
   ·have haf:cg p.arrays l=2:=by unfold cg; rw [hno,←i2]; simp [hbig]
    simp [hbig,haf]
    exact hFF
   ·have haf:cg p.arrays l=0:=by unfold cg; rw [hno,←i2]; simp [hbig]
    obtain ⟨e1,e2⟩:=i3 (by omega)
    simp [hbig,haf,o1]
    refine ⟨hFF,stm,which,vals,rnd,acc,frm,by rw [hl] at i1; exact i1.plo,i1.obj,by rw [←hl,←e1]; exact i1.hacc,by rw [←hl,←e2]; exact i1.hfrm,fun k hk=>(i1.ab k hk).1,fun k hk=>(i1.fb k hk).1⟩
  ·intro i x xs v s' hi hx hl2 hv hI
   rw [hInv] at hI
   obtain ⟨acc,frm,n,es,frs,i1,i2,i3,i4,i5,i6,i7⟩:=hI
   obtain ⟨h3,c3⟩:=s'
   rw [hOwn] at i6
   obtain ⟨o1,o2,o3,o4,o5⟩:=i6
   simp only at i1 o1 o2 o3 o4 o5
   have hw:=ae (x:=(i:Int)+1) (by omega) (by omega)
   have hxI:l[i]?=some x:=by rw [List.getElem?_eq_getElem hi,hx]
   have hxok:=hinv x (aM hl2)
   obtain ⟨gw,w1,w2⟩:=i1.plo.hwhich.at (i:=i) (by rw [ewl]; exact hi)
   rw [ewl] at w1
   have hgw:(aj (l.map fun i=>(i.num:Int)))[i]?=some [.int x.num]:=by simp [aj,hi,hx]
   have iobj:=i1.obj
   have i1len:=i1.len
   have hel:=i1.hacc.len ⟨h3,c3⟩
   obtain ⟨h4,p1,p2,p3,p4⟩:=i1.hfrm.push (c:=c3) (bytes:=8) (md:=.plain) (b:=true) (e:=[.int es.length]) (by decide) (by decide) (by decide) (by decide) rfl i1.frok (by omega) (fun k hk=>(i1.fb k hk).1)
   have goc:=i1.plo.goc
   have ngo:¬an frm go:=fun h=>(i1.fb go h).2.1 rfl
   have nb4:¬an frm c1:=fun h=>by have:=i7 c1 (.inr h); omega
   have q4:=(p4 c1 (by omega) nb4).trans o1
   have qgo:=(p4 go (by omega) ngo).trans iobj
   obtain ⟨h5,hh5⟩:∃ h5,h5=upd h4 go (some (.row 6 [[stm,which,vals,rnd,acc,.row c3 1 0 (frs.length+1)]] .live none)):=⟨_,rfl⟩
   have hk5:∀ k,k<c3→k≠go→¬an frm k→h5 k=h3 k:=fun k a b d=>by rw [hh5,ad b,p4 k (by omega) d]
   have hr5:RunI h5 (c3+1) go c2 (bw [] p.steps) l stm which vals rnd acc (.row c3 1 0 (frs.length+1)) n es (frs++[[.int es.length]]):=by
    refine i1.re (acc':=acc) (frm':=.row c3 1 0 (frs.length+1)) ((congrFun hh5 go).trans af) (i1.hacc.frame fun k hk=>hk5 k (i1.ab k hk).1 (i1.ab k hk).2.1 (i1.ab k hk).2.2.2) ?_ (fun k a b _ d=>hk5 k a b d) (Nat.le_succ _) (fun k hk=>.inl hk) (fun k hk=>.inr (by have:=aq.1 hk; omega)) (fun k hk h=>by have:=aq.1 h; have:=(i1.ab k hk).1; omega) i1.esok ?_ (by simp; omega)
    ·refine .inr ⟨c3,by simp,?_⟩
     rw [hh5,ad (by omega),p2]
    ·intro e he
     rcases List.mem_append.1 he with he | he
     ·exact i1.frok e he
     ·rw [List.mem_singleton.1 he]; rfl
   have z1:=(hk5 c1 (by omega) (by omega) nb4).trans o1
   have hobj5:=hr5.obj
   obtain ⟨lps,hat,hnm⟩:=hxok.at_
   obtain ⟨hnl,hne⟩:=List.getElem?_eq_some_iff.1 hat
   obtain ⟨gs,s1,s2⟩:=hr5.plo.hstm.at (i:=x.num) (by simpa using hnl)
   have el1:((bw [] p.steps).map stCells).length=(bw [] p.steps).length:=by simp
   rw [el1] at s1
   have hgs:((bw [] p.steps).map stCells)[x.num]?=some (stCells (x.step,lps)):=by simp [hnl,hne]
   simp [hv,hi,w1,w2,hgw,o1,iobj,hel,bsI,au,p1,q4,qgo]
   rw [w1] at hh5
   rw [←hh5]
   obtain ⟨X,hX⟩:∃ X,X=x.step:=⟨_,rfl⟩
   rw [←hX] at hne hgs
   obtain ⟨kind,name,low,high,conds,body,array,subs,⟨op,n2,form,ea,es2,args⟩⟩:=X
   obtain ⟨rd,hrd⟩:∃ rd,rd=cK (.mk op n2 form ea es2 args):=⟨_,rfl⟩
   have hst:stCells (.mk kind name low high conds body array subs (.mk op n2 form ea es2 args),lps)=[.int kind,.str name,row (low.map Bound.cells),row (high.map Bound.cells),row (conds.map Form.cells),row (body.map Step.cells),.str array,row (subs.map Form.cells),.int op,.int n2,.int form.const,row (form.terms.map Term.cells),.str ea,row (es2.map Form.cells),row (args.map Expr.cells),row (lps.map Step.cells),row (rd.map Expr.cells)]:=by
    rw [hrd]; simp [stCells,Step.cells_mk,Step.expr]
   obtain ⟨h6,hh6⟩:∃ h6,h6=upd h5 (c3+1) (some (.row 17 [stCells (.mk kind name low high conds body array subs (.mk op n2 form ea es2 args),lps)] .live none)):=⟨_,rfl⟩
   have hF6:Fr (c3+1) h5 h6 (c3+1+1):=by rw [hh6]; exact (Fr.refl _ _).upd (Nat.le_refl _) (Nat.le_succ _)
   have hbx6:h6 (c3+1)=_:=(congrFun hh6 _).trans af
   rw [hst] at hbx6 hh6
   simp [z1,hobj5,s1,hnl,s2,hne,hst]
   rw [←hh6]
   have hr6:=hr5.frame hF6
   have y1:=(hF6.h c1 (by omega)).trans z1
   have y6:=(hF6.h (c1+1+1) (by omega)).trans ((hk5 (c1+1+1) (by omega) (by omega) (fun h=>by have:=i7 _ (.inr h); omega)).trans o2)
   have ym:=(hF6.h (c1+1) (by omega)).trans ((hk5 (c1+1) (by omega) (by omega) (fun h=>by have:=i7 _ (.inr h); omega)).trans (o3.trans rm))
   obtain ⟨φ,hφ⟩:∃ φ,φ=aw x.env:=⟨_,rfl⟩
   have hsteq:x.step=.mk kind name low high conds body array subs (.mk op n2 form ea es2 args):=hX.symm
   have hexp:Step.expr x.step=.mk op n2 form ea es2 args:=by rw [hsteq]; rfl
   have hreads:x.reads p.arrays=rd.map fun y=>(fW p.arrays φ y).1:=by unfold Inst.reads; rw [jW,hexp,←hrd,←hφ]
   have hsetsp:x.sets p.arrays=(bT p.arrays φ array subs).1:=by unfold Inst.sets; rw [hsteq,←hφ]; rfl
   have hokx:x.ok p.arrays=((rd.all fun y=>(fW p.arrays φ y).2)&&(bT p.arrays φ array subs).2):=by unfold Inst.ok; rw [jW,hexp,←hrd,hsteq,←hφ]; rfl
   have hxe:=hxok.expr
   rw [hexp] at hxe
   have hrdok:=kR _ hxe
   rw [←hrd] at hrdok
   have hxs:=hxok.subs
   rw [hsteq] at hxs
   have hrdl:rd.length≤4096:=by have:=hxok.nr; rw [hexp,←iy,←hrd] at this; exact this
   have hnle:n≤4097*i:=by
    have:=rf (A:=p.arrays) (l:=l.take i) fun y hy=>by unfold Inst.reads; rw [dS]; exact (hinv y (List.mem_of_mem_take hy)).nr
    rw [←i2,List.length_take] at this; omega
   have hnn:=i1.nb.1
   obtain ⟨C,hC⟩:∃ C:Heap→Nat→Prop,C=fun h c=>h c1=some (.row 1 [[.ptr go 0 0]] .live none)∧h (c1+1+1)=some (.row 1 [[.map (c1+1)]] .live none)∧h (c1+1)=hB (c1+1)∧h (c3+1)=h6 (c3+1)∧(∀ k,k<c0→h k=h0 k)∧c3+1+1≤c:=⟨_,rfl⟩
   have hCF:∀ {h c h' c'},C h c→Fr c h h' c'→C h' c':=fun {h c h' c'} hc hf=>by
    rw [hC] at hc ⊢
    obtain ⟨k1,k2,k3,k4,k5,k6⟩:=hc
    have:=hf.c
    exact ⟨(hf.h _ (by omega)).trans k1,(hf.h _ (by omega)).trans k2,(hf.h _ (by omega)).trans k3,(hf.h _ (by omega)).trans k4,fun k hk=>(hf.h k (by omega)).trans (k5 k hk),by omega⟩
   have hC6:C h6 (c3+1+1):=by
    rw [hC]
    refine ⟨y1,y6,ym.trans rm.symm,rfl,fun k hk=>?_,Nat.le_refl _⟩
    rw [hF6.h k (by omega),hk5 k (by omega) (by omega) (fun h=>by have:=i7 k (.inr h); omega)]; exact o4 k hk
   obtain ⟨frm5,hfrm5⟩:∃ f,f=AV.row c3 1 0 (frs.length+1):=⟨_,rfl⟩
   obtain ⟨frs5,hfrs5⟩:∃ f,f=frs++[[AV.int es.length]]:=⟨_,rfl⟩
   rw [←hfrm5,←hfrs5] at hr6
   have htake:∀ (w:Bool) (key:ByteArray) (sb:List Wb.Form),eH p.arrays key sb→∀ (acc2:AV) (n3:Int) (es3:List (List AV)) (h7:Heap) (c7:Nat),RunI h7 c7 go c2 (bw [] p.steps) l stm which vals rnd acc2 frm5 n3 es3 frs5→C h7 c7→(∀ k,an acc2 k→c2<k∧k≠c3+1)→n3<1000000000 →
     ACalls Pg Fn146.n [.int i,.bool w,.str key,row (sb.map Form.cells),.ptr c1 0 0,.ptr (c1+1+1) 0 0,.ptr c2 0 0] ⟨h7,c7⟩ fun av s'=>av=.bool (bT p.arrays φ key sb).2 ∧
      ((bT p.arrays φ key sb).2=true→∃ acc3,RunI s'.h s'.c go c2 (bw [] p.steps) l stm which vals rnd acc3 frm5 (n3+1) (if n3+1≤200000 then es3++[dZ i w (bT p.arrays φ key sb).1] else es3) frs5∧∀ k,an acc3 k→c2<k∧k≠c3+1)∧C s'.h s'.c:=by
    intro w key sb hsb acc2 n3 es3 h7 c7 hr7 hC7 ha7 hn7
    rw [hC] at hC7
    obtain ⟨k1,k2,k3,k4,k5,k6⟩:=hC7
    have hcall:=tA p.arrays (bw [] p.steps) l stm which vals rnd acc2 frm5 go c1 (c1+1+1) c2 (c1+1) ver i x hxI hxok (fun y hy=>by have:=kB _ y hy; omega) w key sb hsb n3 es3 frs5 hn7 h7 c7 hr7 k1 k2 ⟨by omega,by omega⟩ ⟨by omega,by omega⟩ (by omega) _ (k3.trans rm) (l9 hp.apart)
    rw [←hφ] at hcall
    refine hcall.mono ?_
    rintro av ⟨h8,c8⟩ hc8 ⟨t1,t2,t3⟩
    simp only at hc8 t3
    have hno:∀ k,k≠go→k≠c2→(k≤c2∨k=c3+1)→¬pH go c2 acc2 frm5 k:=by
     rintro k e1 e2 e3 (h | h | h | h)
     ·exact e1 h
     ·exact e2 h
     ·have:=ha7 k h; omega
     ·rw [hfrm5] at h; have:=aq.1 h; omega
    refine ⟨t1,fun hk=>?_,?_⟩
    ·obtain ⟨acc3,u1,u2⟩:=t2 hk
     refine ⟨acc3,u1,fun k hk=>?_⟩
     rcases u2 k hk with h | h
     ·exact ha7 k h
     ·exact ⟨by omega,by omega⟩
    ·rw [hC]
     exact ⟨(t3 _ (by omega) (hno _ (by omega) (by omega) (by omega))).trans k1,(t3 _ (by omega) (hno _ (by omega) (by omega) (by omega))).trans k2,(t3 _ (by omega) (hno _ (by omega) (by omega) (by omega))).trans k3,(t3 _ (by omega) (hno _ (by omega) (by omega) (by omega))).trans k4,fun k hk=>(t3 k (by omega) (hno k (by omega) (by omega) (by omega))).trans (k5 k hk),by show _≤c8; omega⟩
   have hbad:x.ok p.arrays=false→∀ {h c},C h c→Fr c0 h0 h c∧(if cg p.arrays l=0 then False else AV.tup [AV.nilp,.int 16]=AV.tup [AV.nilp,.int (cg p.arrays l)]):=by
    intro hb h c hc
    rw [hC] at hc
    have hf:cg p.arrays l=16:=by
     unfold cg
     rw [if_pos]
     rw [List.any_eq_true]
     exact ⟨x,aM hl2,by simp [hb]⟩
    rw [hf]
    exact ⟨⟨by omega,hc.2.2.2.2.1⟩,by simp⟩
   obtain ⟨Inv2,hInv2⟩:∃ Inv:Nat→List Wb.Expr→Slots→St→Prop,Inv=fun (j:Nat) r sl s'=>∃ (acc2:AV) (es3:List (List AV)),RunI s'.h s'.c go c2 (bw [] p.steps) l stm which vals rnd acc2 frm5 (n+j) es3 frs5∧(n+j≤200000→es3=es++(rd.take j).map fun y=>dZ i false (fW p.arrays φ y).1)∧(∀ y∈rd.take j,(fW p.arrays φ y).2=true)∧C s'.h s'.c∧∀ k,an acc2 k→c2<k∧k≠c3+1:=⟨_,rfl⟩
   refine aY 72 Fn87.W2 rd Inv2 (by rfl) (by rfl) ?_ ?_ ?_
   ·rw [hInv2]
    refine ⟨by simp,acc,es,by simpa using hr6,fun _=>by simp,by simp,hC6,fun k hk=>⟨i7 k (.inl hk),by have:=(i1.ab k hk).1; omega⟩⟩
   ·intro v2 s7 hv2 hI2
    rw [hInv2,List.take_length] at hI2
    obtain ⟨acc2,es3,j1,j2,j3,j4,j5⟩:=hI2
    obtain ⟨h7,c7⟩:=s7
    simp only at j1 j4
    have hall:(rd.all fun y=>(fW p.arrays φ y).2)=true:=List.all_eq_true.2 fun y hy=>j3 y hy
    have hb7:h7 (c3+1)=h6 (c3+1):=by rw [hC] at j4; exact j4.2.2.2.1
    rw [hbx6] at hb7
    rw [hall,Bool.true_and] at hokx
    have hlast:=htake true array subs hxs acc2 _ es3 h7 c7 j1 j4 j5 (by omega)
    simp [hv2,hb7]
    refine hlast.mono ?_
    rintro av ⟨h8,c8⟩ hc8 ⟨rfl,t2,t3⟩
    simp only at hc8 t3
    rw [←hokx] at t2 ⊢
    by_cases hk:x.ok p.arrays=true
    ·obtain ⟨acc3,u1,u2⟩:=t2 hk
     simp only at u1
     simp [hk,hv,hw]
     rw [hInv]
     have htk:l.take (i+1)=l.take i++[x]:=by rw [List.take_add_one,hxI]; rfl
     have hmany:n+(rd.length:Int)+1=ci p.arrays (l.take (i+1)):=by rw [htk,jJ,jL,←i2,hreads]; simp; omega
     rw [hmany] at u1
     refine ⟨acc3,frm5,_,_,frs5,u1,rfl,fun hle=>?_,by rw [hfrs5]; simp [i4],?_,?_,fun k hk=>?_⟩
     ·rw [if_pos hle]
      have hle2:n+(rd.length:Int)≤200000:=by omega
      obtain ⟨e1,e2⟩:=i3 (by omega)
      have hlen0:(l.take i).length=i:=by rw [List.length_take]; omega
      refine ⟨?_,?_⟩
      ·rw [j2 hle2,e1,htk,m7,Nat.zero_add,hlen0]
       simp [dF,kb,hreads,hsetsp]
      ·rw [hfrs5,e2,e1,htk,lE p.arrays 0 0]
       simp [eN,aj]
     ·rw [htk]
      intro y hy
      rcases List.mem_append.1 hy with hy | hy
      ·exact i5 y hy
      ·rw [List.mem_singleton.1 hy]; exact hk
     ·rw [hC] at t3
      rw [hOwn]
      exact ⟨t3.1,t3.2.1,t3.2.2.1,t3.2.2.2.2.1,by show c2+1≤c8; have:=t3.2.2.2.2.2; omega⟩
     ·rcases hk with hk | hk
      ·exact (u2 k hk).1
      ·rw [hfrm5] at hk; have:=aq.1 hk; omega
    ·have hkf:x.ok p.arrays=false:=by simpa using hk
     simp [hkf]
     simpa using hbad hkf t3
   ·intro j y ys v2 s7 hj hy hl3 hv2 hI2
    rw [hInv2] at hI2
    obtain ⟨acc2,es3,j1,j2,j3,j4,j5⟩:=hI2
    obtain ⟨h7,c7⟩:=s7
    simp only at j1 j4
    have hwj:=ae (x:=(j:Int)+1) (by omega) (by omega)
    obtain ⟨Y,hY⟩:∃ Y,Y=y:=⟨_,rfl⟩
    have hyok:=hrdok y (aM hl3)
    obtain ⟨yop,yn,yform,yarr,ysubs,yargs⟩:=y
    simp only [pN,nE] at hyok
    obtain ⟨h8,hh8⟩:∃ h8,h8=upd h7 c7 (some (.row 7 [[.int yop,.int yn,.int yform.const,row (yform.terms.map Term.cells),.str yarr,row (ysubs.map Form.cells),row (yargs.map Expr.cells)]] .live none)):=⟨_,rfl⟩
    have hF8:Fr c7 h7 h8 (c7+1):=by rw [hh8]; exact (Fr.refl _ _).upd (Nat.le_refl _) (Nat.le_succ _)
    have hb8:h8 c7=_:=(congrFun hh8 c7).trans af
    have hone:=htake false yarr ysubs hyok acc2 _ es3 h8 (c7+1) (j1.frame hF8) (hCF j4 hF8) j5 (by omega)
    simp [hv2,hj,hy,Expr.cells_mk,←hh8,hb8]
    refine hone.mono ?_
    rintro av ⟨h9,c9⟩ hc9 ⟨rfl,t2,t3⟩
    simp only at hc9 t3
    have hysp:fW p.arrays φ (.mk yop yn yform yarr ysubs yargs)=bT p.arrays φ yarr ysubs:=rfl
    by_cases hk:(bT p.arrays φ yarr ysubs).2=true
    ·obtain ⟨acc3,u1,u2⟩:=t2 hk
     simp only at u1
     simp [hk,hv2,hwj]
     rw [hInv2]
     have htk:rd.take (j+1)=rd.take j++[.mk yop yn yform yarr ysubs yargs]:=by rw [List.take_add_one,List.getElem?_eq_getElem hj,hy]; rfl
     refine ⟨acc3,_,by rw [show n+((j+1:Nat):Int)=n+j+1 by push_cast; omega]; exact u1,fun hle=>?_,?_,t3,u2⟩
     ·rw [if_pos (by push_cast at hle; omega),htk,j2 (by push_cast at hle; omega)]
      simp [hysp]
     ·rw [htk]
      intro z hz
      rcases List.mem_append.1 hz with hz | hz
      ·exact j3 z hz
      ·rw [List.mem_singleton.1 hz]; exact hk
    ·have hkf:(bT p.arrays φ yarr ysubs).2=false:=by simpa using hk
     have hxf:x.ok p.arrays=false:=by
      rw [hokx,Bool.and_eq_false_iff]
      refine .inl ?_
      rw [List.all_eq_false]
      exact ⟨_,aM hl3,by rw [hysp,hkf]; decide⟩
     simp [hkf]
     simpa using hbad hxf t3
 ·intro i x xs v s' hi hx hl hv hI
  rw [hInv] at hI
  obtain ⟨⟨ver,m1⟩,m2,m3⟩:=hI
  obtain ⟨h2,c2⟩:=s'
  simp only at m1 m2 m3
  have hw:=ae (x:=(i:Int)+1) (by omega) (by omega)
  have q6:=(m2 (c1+1+1) (by omega) (by omega)).trans a6
  have hnew:dI ((p.arrays.take i).map fun a=>(a.key,a)) x.key x=(p.arrays.take (i+1)).map fun a=>(a.key,a):=by
   rw [oH,List.take_add_one,List.getElem?_eq_getElem hi,hx,List.map_append]
   ·rfl
   ·intro q hq
    obtain ⟨a,ha,rfl⟩:=List.mem_map.1 hq
    obtain ⟨j,hj,hja⟩:=List.mem_iff_getElem.1 ha
    simp at hj hja
    exact hp.apart i j x a (by rw [List.getElem?_eq_getElem hi,hx]) (by rw [List.getElem?_eq_getElem (by omega),hja]) (by omega)
  have hmu:=kP eJ (f:=fun a:Wb.Array=>AV.agg (Array.cells a)) (g:=c1+1) (s:=⟨upd h2 c2 (some (.row 2 [[.str x.key,row (aj x.sizes)]] .live none)),c2+1⟩) ((ad (by omega)).trans m1) x.key x
  rw [hnew] at hmu
  have hc16:¬c1+1+1=c2:=by omega
  simp only [Array.cells] at hmu
  simp [hv,hi,hx,Array.cells,q6,hc16,hmu,hw]
  rw [hInv]
  refine ⟨⟨c2+1,by show upd _ _ _ _=_; rw [af,List.map_take]; rfl⟩,fun k hk hk2=>?_,by show _≤c2+1+1; omega⟩
  show upd (upd h2 c2 _) (c1+1) _ k=_
  rw [ad hk2,ad (by omega)]; exact m2 k hk hk2
end Go.Proofs.YtocppbmmfklbmaaGreat
set_option maxRecDepth 20000
set_option maxHeartbeats 4000000
namespace Go.Proofs.YtocppbmmfklbmaaGreat
open Go.AM Go.Wb
deriving instance DecidableEq for Wb.Spot
abbrev Mem:=Wb.Spot→Int
def ig (op:Int):List Int→Int
 | [a,b]=>if op=4 then (a+b) % 1000003 else if op=5 then (a-b) % 1000003 else (a*b) % 1000003
 | _=>0
mutual
def bp (M:Mem) (φ:ByteArray→Int):Wb.Expr→List Wb.Spot→Int×List Wb.Spot
 | .mk op n form _ _ args,rs=>if op=1 then (n,rs) else if op=2 then (aG φ form % 1000003,rs) else if op=3 then (M (rs.headD ⟨⟨#[]⟩,0⟩),rs.tail) else (ig op (fk M φ args rs).1,(fk M φ args rs).2)
def fk (M:Mem) (φ:ByteArray→Int):List Wb.Expr→List Wb.Spot→List Int×List Wb.Spot
 | [],rs=>([],rs)
 | e::es,rs=>((bp M φ e rs).1::(fk M φ es (bp M φ e rs).2).1,(fk M φ es (bp M φ e rs).2).2)
end
def d6 (M:Mem):Prop:=∀ s,0≤M s∧M s≤1000002
theorem kL (n:Int):0≤n % 1000003∧n % 1000003≤1000002:=by
 have h1:=Int.emod_nonneg n (b:=1000003) (by decide)
 have h2:=Int.emod_lt_of_pos n (b:=1000003) (by decide)
 omega
theorem rR (op:Int) (l:List Int):0≤ig op l∧ig op l≤1000002:=by
 unfold ig
 split
 ·split
  ·exact kL _
  ·split <;> exact kL _
 ·omega
theorem fi {M:Mem} (hM:d6 M) (φ:ByteArray→Int) {A:List Wb.Array} {e:Wb.Expr} (he:cr A e) (rs:List Wb.Spot):0≤(bp M φ e rs).1∧(bp M φ e rs).1≤1000002:=by
 obtain ⟨op,n,form,array,subs,args⟩:=e
 simp only [cr] at he
 simp only [bp]
 split
 ·rename_i h1
  rcases he with h | h | h | h
  ·exact h.2.2
  ·omega
  ·omega
  ·omega
 ·split
  ·exact kL _
  ·split
   ·exact hM _
   ·exact rR _ _
mutual
theorem gd (M:Mem) (φ:ByteArray→Int) {A:List Wb.Array}:∀ (e:Wb.Expr) (rs:List Wb.Spot),cr A e→(bp M φ e rs).2=rs.drop (aR e)
 | .mk op n form array subs args,rs,h=>by
  simp only [cr] at h
  simp only [bp,aR]
  rcases h with h | h | h | h
  ·rw [if_pos h.1,if_neg (by omega),h.2.1]; simp [bg]
  ·rw [if_neg (by omega),if_pos h.1,if_neg (by omega),h.2.1]; simp [bg]
  ·rw [if_neg (by omega),if_neg (by omega),if_pos h.1,if_pos h.1]; cases rs <;> rfl
  ·rw [if_neg (by omega),if_neg (by omega),if_neg (by omega),if_neg (by omega)]
   exact n8 M φ args rs h.2.2.2
theorem n8 (M:Mem) (φ:ByteArray→Int) {A:List Wb.Array}:∀ (l:List Wb.Expr) (rs:List Wb.Spot),cL A l→(fk M φ l rs).2=rs.drop (bg l)
 | [],rs,_=>by simp [fk,bg]
 | e::es,rs,h=>by
  simp only [cL] at h
  simp only [fk,bg]
  rw [gd M φ e rs h.1,n8 M φ es _ h.2,List.drop_drop]
end
def gM (A:List Wb.Array) (M:Mem) (x:Inst):Mem:=fun s=>if s=x.sets A then (bp M (aw x.env) (Step.expr x.step) (x.reads A)).1 else M s
def dk (A:List Wb.Array) (l:List Inst) (order:List Int) (M:Mem):Mem:=order.foldl (fun M k=>match l[k.toNat]? with | some x=>gM A M x | none=>M) M
def cU (M:Mem) (g:Wb.Grid):Mem:=fun s=>if s.array=g.key∧0≤s.cell∧s.cell<g.values.length then g.values.getD s.cell.toNat 0 else M s
def dn (gs:List Wb.Grid):Mem:=gs.foldl cU fun _=>0
def bn (M:Mem) (a:Wb.Array):List Int:=(List.range (bA a.sizes).toNat).map fun (j:Nat)=>M ⟨a.key,j⟩
theorem tY {A:List Wb.Array} {M:Mem} (hM:d6 M) {x:Inst} (hx:cr A (Step.expr x.step)):d6 (gM A M x):=fun s=>by
 unfold gM
 split
 ·exact fi hM _ hx _
 ·exact hM s
def ly (A:List Wb.Array) (s:Wb.Spot):Prop:=∃ a∈A,a.key=s.array∧0≤s.cell∧s.cell<bA a.sizes
theorem lF (l:List Int):∀ k:Int,l.foldl (·*·) k=k*l.foldl (·*·) 1:=by
 induction l with
 | nil=>intro k; simp
 | cons z l ih=>intro k; simp only [List.foldl_cons,Int.one_mul]; rw [ih (k*z),ih z,Int.mul_assoc]
theorem hU:∀ (l:List Int),(∀ z∈l,1≤z)→1≤l.foldl (·*·) 1
 | [],_=>by simp
 | z::l,h=>by
  simp only [List.foldl_cons,Int.one_mul]
  rw [lF]
  have h1:=h z List.mem_cons_self
  have h2:=hU l fun y hy=>h y (List.mem_cons_of_mem _ hy)
  exact Int.le_trans (by omega) (Int.mul_le_mul h1 h2 (by omega) (by omega))
theorem pR (φ:ByteArray→Int):∀ (zs:List Int) (fs:List Wb.Form) (n K:Int),(∀ z∈zs,1≤z∧z≤20000)→zs.length=fs.length→0≤n→n<K→K*zs.foldl (·*·) 1≤20000→(cG φ zs fs n true).2=true→0≤(cG φ zs fs n true).1∧(cG φ zs fs n true).1<K*zs.foldl (·*·) 1
 | [],[],n,K,_,_,h0,h1,h2,_=>by simp [cG]; omega
 | [],_::_,_,_,_,h,_,_,_,_=>by simp at h
 | _::_,[],_,_,_,h,_,_,_,_=>by simp at h
 | z::zs,f::fs,n,K,hz,hl,h0,h1,h2,hok=>by
  simp only [cG,Bool.true_and] at hok ⊢
  simp only [List.foldl_cons,Int.one_mul] at h2 ⊢
  rw [lF,←Int.mul_assoc] at h2 ⊢
  have hz1:=hz z List.mem_cons_self
  have hp:=hU zs fun y hy=>(hz y (List.mem_cons_of_mem _ hy)).1
  by_cases hin:0≤aG φ f∧aG φ f≤z-1
  ·rw [decide_eq_true hin] at hok ⊢
   have hKz:K*z≤20000:=by
    have:K*z*1≤K*z*zs.foldl (·*·) 1:=Int.mul_le_mul_of_nonneg_left hp (Int.mul_nonneg (by omega) (by omega))
    omega
   have hnz:0≤n*z:=Int.mul_nonneg h0 (by omega)
   have hnK:n*z+z≤K*z:=by
    have:(n+1)*z≤K*z:=Int.mul_le_mul_of_nonneg_right (by omega) (by omega)
    rw [Int.add_mul,Int.one_mul] at this; exact this
   have w1:=ae (x:=n*z) (by omega) (by omega)
   have w2:=ae (x:=n*z+aG φ f) (by omega) (by omega)
   rw [w1,w2] at hok ⊢
   exact pR φ zs fs _ (K*z) (fun y hy=>hz y (List.mem_cons_of_mem _ hy)) (by simpa using hl) (by omega) (by omega) h2 hok
  ·rw [decide_eq_false hin] at hok
   rw [gI] at hok; cases hok
theorem oU {A:List Wb.Array} (hA:∀ a∈A,OkArray a) {φ:ByteArray→Int} {key:ByteArray} {subs:List Wb.Form} (hs:eH A key subs) (hok:(bT A φ key subs).2=true):ly A (bT A φ key subs).1:=by
 obtain ⟨i,a,h1,h2,h3,h4,h5⟩:=hs
 have ha:=hA a (List.mem_of_getElem? h1)
 have hsz:=kz h1 h2
 unfold bT at hok ⊢
 rw [hsz] at hok ⊢
 have hc:=ha.cells
 have:=pR φ a.sizes subs 0 1 ha.sizes h4 (by omega) (by omega) (by unfold bA at hc; omega) hok
 refine ⟨a,List.mem_of_getElem? h1,h3,this.1,?_⟩
 have h6:=this.2
 rw [Int.one_mul] at h6
 exact h6
theorem Inst.ok_in {A:List Wb.Array} (hA:∀ a∈A,OkArray a) {all:List (Wb.Step×List Wb.Step)} {x:Inst} (hx:InstOk A all x) (hok:x.ok A=true):(∀ s∈x.reads A,ly A s)∧ly A (x.sets A):=by
 unfold Inst.ok at hok
 rw [Bool.and_eq_true] at hok
 refine ⟨fun s hs=>?_,oU hA hx.subs hok.2⟩
 unfold Inst.reads at hs
 rw [jW] at hs hok
 obtain ⟨y,hy,rfl⟩:=List.mem_map.1 hs
 exact oU hA (kR _ hx.expr y hy) (List.all_eq_true.1 hok.1 y hy)
end Go.Proofs.YtocppbmmfklbmaaGreat
set_option maxRecDepth 20000
set_option maxHeartbeats 4000000
namespace Go.Proofs.YtocppbmmfklbmaaGreat
open Go.AM Go.Wb
def RdAt (h:Heap) (sz:Nat) (rv:AV) (es:List (List AV)):Prop:=∃ g all off st,rv=.row g sz off es.length∧h g=some (.row sz all st none)∧(all.drop off).take es.length=es∧off+es.length≤all.length
theorem RdAt.head {h:Heap} {sz:Nat} {rv:AV} {e:List AV} {es:List (List AV)} (r:RdAt h sz rv (e::es)):∃ g all off st,rv=.row g sz off (es.length+1)∧h g=some (.row sz all st none)∧all[off]?=some e∧RdAt h sz (.row g sz (off+1) es.length) es:=by
 obtain ⟨g,all,off,st,h1,h2,h3,h4⟩:=r
 simp only [List.length_cons] at h1 h3 h4
 have h0:off<all.length:=by omega
 rw [List.drop_eq_getElem_cons h0,List.take_succ_cons] at h3
 injection h3 with h5 h6
 exact ⟨g,all,off,st,h1,h2,by rw [List.getElem?_eq_getElem h0,h5],g,all,off+1,st,rfl,h2,h6,by omega⟩
theorem RdAt.cell {h:Heap} {sz:Nat} {rv:AV} {es:List (List AV)} (r:RdAt h sz rv es):rv.cell=true:=by
 obtain ⟨g,all,off,st,rfl,_⟩:=r; rfl
theorem RdAt.frame {h h':Heap} {sz:Nat} {rv:AV} {es:List (List AV)} (r:RdAt h sz rv es) (hh:∀ k,an rv k→h' k=h k):RdAt h' sz rv es:=by
 obtain ⟨g,all,off,st,rfl,h2,h3,h4⟩:=r
 exact ⟨g,all,off,st,rfl,(hh g (aq.2 rfl)).trans h2,h3,h4⟩
def RdN (h:Heap) (sz:Nat) (rv:AV) (es:List (List AV)):Prop:=(es=[]∧∃ b,rv=.sl [] b)∨RdAt h sz rv es
theorem RdN.head {h:Heap} {sz:Nat} {rv:AV} {e:List AV} {es:List (List AV)} (r:RdN h sz rv (e::es)):∃ g all off st,rv=.row g sz off (es.length+1)∧h g=some (.row sz all st none)∧all[off]?=some e∧RdAt h sz (.row g sz (off+1) es.length) es:=by
 rcases r with ⟨h,_⟩ | r
 ·cases h
 ·exact r.head
theorem RdN.frame {h h':Heap} {sz:Nat} {rv:AV} {es:List (List AV)} (r:RdN h sz rv es) (hh:∀ k,an rv k→h' k=h k):RdN h' sz rv es:=r.imp id fun r=>r.frame hh
def kY (s:Wb.Spot):AV:=.agg (Spot.cells s)
theorem mH:KeyOk (.agg [.str,.int]) kY where
 wf a:=rfl
 eq a b:=by
  obtain ⟨a1,a2⟩:=a
  obtain ⟨b1,b2⟩:=b
  simp [kY,Spot.cells,ft,cz,fZ]
  rfl
theorem vj (A:List Wb.Array) (M:Mem) (hM:d6 M) (e:Env) (he:ed e):∀ (N:Nat) (x:Wb.Expr),SizeOf.sizeOf x≤N→cr A x→∀ (rs:List Wb.Spot) (g ge b ver:Nat) (m:List (Wb.Spot×Int)) (rv:AV) (h0:Heap) (c0:Nat),aR x≤rs.length→(∀ s,M s=(bL m s).getD 0)→h0 g=some (.map (kvs kY AV.int m) ver)→cO h0 ge e→ge<c0→g<c0→b<c0→b≠g→b≠ge→h0 b=some (.row 1 [[rv]] .live none)→RdN h0 2 rv (rs.map Spot.cells)→(∀ k,an rv k→k<c0∧k≠b) →
  ACalls Pg Fn57.n [.map g,x.av,.map ge,.ptr b 0 0] ⟨h0,c0⟩ fun av s'=>av=.int (bp M (aw e) x rs).1∧∃ rv',s'.h b=some (.row 1 [[rv']] .live none)∧RdN s'.h 2 rv' ((bp M (aw e) x rs).2.map Spot.cells)∧(∀ k,an rv' k→an rv k)∧∀ k,k<c0→k≠b→s'.h k=h0 k:=by
 intro N
 induction N with
 | zero=>intro x hx; obtain ⟨_,_,_,_,_,_⟩:=x; simp at hx
 | succ N ih=>
  intro x hx hok rs g ge b ver m rv h0 c0 hnr hm hg hge hgec hgc hbc hbg hbge hb hrd hrv
  obtain ⟨op,n,form,array,subs,args⟩:=x
  rw [Expr.av_mk]
  refine Fn57.calls .keep ?_
  unfold Fn57.ac
  have hbc0:¬b=c0:=by omega
  obtain ⟨hb1,hhb1⟩:∃ hb1,hb1=upd h0 c0 (some (.row 7 [[.int op,.int n,.int form.const,row (form.terms.map Term.cells),.str array,row (subs.map Form.cells),row (args.map Expr.cells)]] .live none)):=⟨_,rfl⟩
  have hlow:∀ k,k<c0→hb1 k=h0 k:=fun k hk=>by rw [hhb1,ad (by omega)]
  have hbx:=(congrFun hhb1 c0).trans af
  have b1:=(hlow b hbc).trans hb
  have g1:=(hlow g hgc).trans hg
  have r1:RdN hb1 2 rv (rs.map Spot.cells):=hrd.frame fun k hk=>hlow k (hrv k hk).1
  have e1:cO hb1 ge e:=by obtain ⟨v,hv⟩:=hge; exact ⟨v,(hlow ge hgec).trans hv⟩
  simp only [cr] at hok
  by_cases h1:op=1
  ·subst h1
   simp [←hhb1,hbx]
   refine ⟨by simp [bp],rv,b1,by simpa [bp] using r1,fun k hk=>hk,fun k hk _=>hlow k hk⟩
  by_cases h2:op=2
  ·subst h2
   have hf:OkForm form:=by
    rcases hok with h | h | h | h
    ·omega
    ·exact h.2.2
    ·omega
    ·omega
   have hva:=jn form hf e he ge hb1 (c0+1) e1 (by omega)
   rw [Form.av,Form.cells] at hva
   simp [←hhb1,hbx]
   refine ACalls.at hva fun c2 hc2=>?_
   simp
   refine ACalls.pure (lM _) fun c3 hc3=>?_
   simp
   exact ⟨by simp [bp],rv,b1,by simpa [bp] using r1,fun k hk=>hk,fun k hk _=>hlow k hk⟩
  by_cases h3:op=3
  ·subst h3
   obtain ⟨s,rs',rfl⟩:∃ s rs',rs=s::rs':=by
    cases rs with
    | nil=>simp [aR] at hnr
    | cons s rs'=>exact ⟨s,rs',rfl⟩
   obtain ⟨gr,all,off,st,u1,u2,u3,u4⟩:=r1.head
   rw [List.length_map] at u1 u4
   subst u1
   have hgr:=hrv gr (aq.2 rfl)
   simp only [Spot.cells] at u3
   obtain ⟨h2',hh2⟩:∃ h2',h2'=upd hb1 (c0+1) (some (.row 2 [[.str s.array,.int s.cell]] .live none)):=⟨_,rfl⟩
   have k2:∀ k,k<c0+1→h2' k=hb1 k:=fun k hk=>by rw [hh2,ad (by omega)]
   have bx2:=(congrFun hh2 (c0+1)).trans af
   have b2:=(k2 b (by omega)).trans b1
   obtain ⟨h3',hh3⟩:∃ h3',h3'=upd h2' b (some (.row 1 [[.row gr 2 (off+1) rs'.length]] .live none)):=⟨_,rfl⟩
   have k3:∀ k,k≠b→h3' k=h2' k:=fun k hk=>by rw [hh3,ad hk]
   have bx3:=(k3 (c0+1) (by omega)).trans bx2
   have g3:=(k3 g (Ne.symm hbg)).trans ((k2 g (by omega)).trans g1)
   have hlk:=gX mH (f:=AV.int) (z:=.int 0) (ok:=false) (s:=⟨h3',c0+1+1⟩) g3 s
   have hms:=hm s
   have hls:((bL m s).map AV.int).getD (.int 0)=.int (M s):=by rw [hms]; cases bL m s <;> rfl
   rw [hls] at hlk
   simp only [kY,Spot.cells] at hlk
   have hs1:srI 2 (.row gr 2 off (rs'.length+1)) (some (.int 1)) none none=some (.row gr 2 (off+1) rs'.length):=by
    have h1:(1:Int)≤(rs'.length:Int)+1:=by omega
    simp [srI,bnd,h1]
   simp [←hhb1,hbx,b1,u2,u3,←hh2,b2,hs1,←hh3,bx3,hlk]
   refine ⟨by simp [bp],.row gr 2 (off+1) rs'.length,(congrFun hh3 b).trans af,?_,fun k hk=>aq.2 (aq.1 hk),fun k hk hkb=>(k3 k hkb).trans ((k2 k (by omega)).trans (hlow k hk))⟩
   have:(bp M (aw e) (.mk 3 n form array subs args) (s::rs')).2=rs':=by simp [bp]
   rw [this]
   refine .inr (RdAt.frame (h:=hb1) ?_ fun k hk=>?_)
   ·simpa using u4
   ·have:=aq.1 hk
    subst this
    exact (k3 _ hgr.2).trans (k2 _ (by omega))
  have hargs:args.length=2∧cL A args:=by
   rcases hok with h | h | h | h
   ·omega
   ·omega
   ·omega
   ·exact h.2.2
  obtain ⟨xa,xb,rfl⟩:∃ xa xb,args=[xa,xb]:=by
   match args,hargs.1 with
   | [xa,xb],_=>exact ⟨xa,xb,rfl⟩
  simp only [cL] at hargs
  have hsz:SizeOf.sizeOf xa≤N∧SizeOf.sizeOf xb≤N:=by simp at hx; omega
  have hnr2:aR xa+aR xb≤rs.length:=by simp [aR,bg,h3] at hnr; omega
  have hevd:bp M (aw e) (.mk op n form array subs [xa,xb]) rs=(ig op [(bp M (aw e) xa rs).1,(bp M (aw e) xb (bp M (aw e) xa rs).2).1],(bp M (aw e) xb (bp M (aw e) xa rs).2).2):=by
   simp only [bp,if_neg h1,if_neg h2,if_neg h3,fk]
  rw [hevd]
  simp only [List.map_cons,List.map_nil] at hhb1 hbx
  simp [h1,h2,h3,←hhb1,hbx]
  have bda:=fi hM (aw e) hargs.2.1 rs
  have hleft:=gd M (aw e) xa rs hargs.2.1
  obtain ⟨ea,hea⟩:∃ ea,ea=bp M (aw e) xa rs:=⟨_,rfl⟩
  rw [←hea] at bda hleft ⊢
  have ha:=ih xa hsz.1 hargs.2.1 rs g ge b ver m rv hb1 (c0+1) (by omega) hm g1 e1 (by omega) (by omega) (by omega) hbg hbge b1 r1 (fun k hk=>by have:=hrv k hk; omega)
  rw [←hea] at ha
  have hca:Expr.av xa=.agg xa.cells:=rfl
  have hcb:Expr.av xb=.agg xb.cells:=rfl
  have l7:∀ y:Wb.Expr,y.cells.length=7:=fun y=>by obtain ⟨_,_,_,_,_,_⟩:=y; rfl
  have t7:∀ y:Wb.Expr,y.cells.take 7=y.cells:=fun y=>List.take_of_length_le (by rw [l7]; omega)
  rw [hca] at ha
  simp [l7,t7]
  refine ha.mono ?_
  rintro av ⟨h5,c5⟩ hc5 ⟨rfl,rv5,p1,p2,p3,p4⟩
  simp only at hc5 p1 p2 p4
  have x5:∀ {k},k<c0+1→k≠b→h5 k=hb1 k:=fun {k}=>p4 k
  have bx5:=(x5 (Nat.lt_succ_self _) (Ne.symm hbc0)).trans hbx
  have hb':=ih xb hsz.2 hargs.2.2.1 ea.2 g ge b ver m rv5 h5 c5 (by rw [hleft,List.length_drop]; omega) hm ((x5 (by omega) (Ne.symm hbg)).trans g1) (by obtain ⟨v,hv⟩:=e1; exact ⟨v,(x5 (by omega) (Ne.symm hbge)).trans hv⟩) (by omega) (by omega) (by omega) hbg hbge p1 p2 (fun k hk=>by have:=hrv k (p3 k hk); omega)
  have bdb:=fi hM (aw e) hargs.2.2.1 ea.2
  obtain ⟨eb,heb⟩:∃ eb,eb=bp M (aw e) xb ea.2:=⟨_,rfl⟩
  rw [←heb] at bdb hb' ⊢
  rw [hcb] at hb'
  simp [bx5,l7,t7]
  refine hb'.mono ?_
  rintro av ⟨h6,c6⟩ hc6 ⟨rfl,rv6,q1,q2,q3,q4⟩
  simp only at hc6 q1 q2 q4
  have bx6:=(q4 c0 (by omega) (Ne.symm hbc0)).trans bx5
  have hfin:∃ rv',h6 b=some (.row 1 [[rv']] .live none)∧RdN h6 2 rv' (eb.2.map Spot.cells)∧(∀ k,an rv' k→an rv k)∧∀ k,k<c0→k≠b→h6 k=h0 k:=
   ⟨rv6,q1,q2,fun k hk=>p3 k (q3 k hk),fun k hk hkb=>(q4 k (by omega) hkb).trans ((x5 (by omega) hkb).trans (hlow k hk))⟩
  by_cases h4:op=4
  ·subst h4
   have hw:=ae (x:=ea.1+eb.1) (by omega) (by omega)
   simp [bx6,hw]
   refine ACalls.pure (lM _) fun c7 hc7=>?_
   simp
   exact ⟨by simp [ig],hfin⟩
  by_cases h5:op=5
  ·subst h5
   have hw:=ae (x:=ea.1-eb.1) (by omega) (by omega)
   simp [bx6,hw]
   refine ACalls.pure (lM _) fun c7 hc7=>?_
   simp
   exact ⟨by simp [ig],hfin⟩
  have hmul:0≤ea.1*eb.1∧ea.1*eb.1≤1000002*1000002:=⟨Int.mul_nonneg bda.1 bdb.1,Int.mul_le_mul bda.2 bdb.2 bdb.1 (by decide)⟩
  have hw:=ae (x:=ea.1*eb.1) (by omega) (by omega)
  simp [bx6,h4,h5,hw]
  refine ACalls.pure (lM _) fun c7 hc7=>?_
  simp
  exact ⟨by simp [ig,h4,h5],hfin⟩
end Go.Proofs.YtocppbmmfklbmaaGreat
set_option maxRecDepth 20000
set_option maxHeartbeats 4000000
namespace Go.Proofs.YtocppbmmfklbmaaGreat
open Go.AM Go.Wb
def ct (A:List Wb.Array) (G:List Nat):List (ByteArray×AV):=List.zipWith (fun a gi=>(a.key,AV.row gi 1 0 (bA a.sizes).toNat)) A G
def gH (A:List Wb.Array):Prop:=∀ (i j:Nat) (a b:Wb.Array),A[i]?=some a→A[j]?=some b→j<i→b.key≠a.key
theorem mT:∀ {A:List Wb.Array} {G:List Nat},gH A→∀ (j:Nat) (a:Wb.Array) (gi:Nat),A[j]?=some a→G[j]?=some gi→bL (ct A G) a.key=some (.row gi 1 0 (bA a.sizes).toNat)
 | [],_,_,j,a,gi,h,_=>by simp at h
 | x::A,[],_,j,a,gi,_,h=>by simp at h
 | x::A,y::G,hA,0,a,gi,h,h'=>by
  simp at h h'; subst h; subst h'
  simp [ct,bL]
 | x::A,y::G,hA,j+1,a,gi,h,h'=>by
  have h2:A[j]?=some a:=by simpa using h
  have hne:¬a.key=x.key:=fun e=>hA (j+1) 0 a x h rfl (by omega) e.symm
  have:=mT (A:=A) (G:=G) (fun i j a b h1 h2 h3=>hA (i+1) (j+1) a b (by simpa using h1) (by simpa using h2) (by omega)) j a gi h2 (by simpa using h')
  simp only [ct,List.zipWith_cons_cons,bL,if_neg hne]
  exact this
structure MemAt (h:Heap) (c g:Nat) (A:List Wb.Array) (M:Mem) (G:List Nat):Prop where
 len:G.length=A.length
 map:∃ ver,h g=some (.map (kvs AV.str (fun v:AV=>v) (ct A G)) ver)
 rows:∀ (i:Nat) (a:Wb.Array) (gi:Nat),A[i]?=some a→G[i]?=some gi→h gi=some (.row 1 (aj (bn M a)) .live none)
 lt:∀ gi∈G,gi<c∧gi≠g
 nd:G.Nodup
 gc:g<c
theorem MemAt.frame {h h':Heap} {c c' g:Nat} {A:List Wb.Array} {M:Mem} {G:List Nat} (x:MemAt h c g A M G) (hc:c≤c') (hh:∀ k,k=g∨k∈G→h' k=h k):MemAt h' c' g A M G:=by
 obtain ⟨ver,hm⟩:=x.map
 exact ⟨x.len,⟨ver,(hh g (.inl rfl)).trans hm⟩,fun i a gi h1 h2=>(hh gi (.inr (List.mem_of_getElem? h2))).trans (x.rows i a gi h1 h2),fun gi hg=>⟨by have:=(x.lt gi hg).1; omega,(x.lt gi hg).2⟩,x.nd,by have:=x.gc; omega⟩
theorem iz (M:Mem) (a:Wb.Array):(bn M a).length=(bA a.sizes).toNat:=by simp [bn]
theorem MemAt.spot {h:Heap} {c g:Nat} {A:List Wb.Array} {M:Mem} {G:List Nat} (x:MemAt h c g A M G) (hA:gH A) {s:Wb.Spot} (hs:ly A s) :
  ∃ (i:Nat) (a:Wb.Array) (gi n:Nat),A[i]?=some a∧G[i]?=some gi∧a.key=s.array∧s.cell=n∧n<(bA a.sizes).toNat∧bL (ct A G) s.array=some (.row gi 1 0 (bA a.sizes).toNat)∧h gi=some (.row 1 (aj (bn M a)) .live none)∧(aj (bn M a))[n]?=some [.int (M s)]:=by
 obtain ⟨a,ha,h1,h2,h3⟩:=hs
 obtain ⟨i,hi,hia⟩:=List.mem_iff_getElem.1 ha
 have hia':A[i]?=some a:=by rw [List.getElem?_eq_getElem hi,hia]
 have hig:i<G.length:=by rw [x.len]; exact hi
 have hgi:G[i]?=some G[i]:=List.getElem?_eq_getElem hig
 refine ⟨i,a,G[i],s.cell.toNat,hia',hgi,h1,by omega,by omega,by rw [←h1]; exact mT hA i a _ hia' hgi,x.rows i a _ hia' hgi,?_⟩
 have hn:s.cell.toNat<(bA a.sizes).toNat:=by omega
 have:(⟨a.key,(s.cell.toNat:Int)⟩:Wb.Spot)=s:=by
  obtain ⟨sa,sc⟩:=s
  simp only at h1 h2
  simp [h1]; omega
 have hv:(bn M a)[s.cell.toNat]?=some (M ⟨a.key,(s.cell.toNat:Int)⟩):=by
  unfold bn
  rw [List.getElem?_map,List.getElem?_range hn]; rfl
 rw [this] at hv
 unfold aj
 rw [List.getElem?_map,hv]; rfl
theorem MemAt.set {h:Heap} {c g:Nat} {A:List Wb.Array} {M:Mem} {G:List Nat} (x:MemAt h c g A M G) (hA:gH A) {s:Wb.Spot} {i n gi:Nat} {a:Wb.Array} (h1:A[i]?=some a) (h2:G[i]?=some gi) (h3:a.key=s.array) (h4:s.cell=n) (h5:n<(bA a.sizes).toNat) (v:Int) :
  MemAt (AM.upd h gi (some (.row 1 ((aj (bn M a)).set n [.int v]) .live none))) c g A (fun s'=>if s'=s then v else M s') G:=by
 obtain ⟨ver,hm⟩:=x.map
 have hg:=x.lt gi (List.mem_of_getElem? h2)
 refine ⟨x.len,⟨ver,(ad (Ne.symm hg.2)).trans hm⟩,fun j b gj e1 e2=>?_,x.lt,x.nd,x.gc⟩
 by_cases hij:j=i
 ·subst hij
  rw [h1] at e1; injection e1 with e1; subst e1
  rw [h2] at e2; injection e2 with e2; subst e2
  rw [af]
  have:(aj (bn M a)).set n [.int v]=aj (bn (fun s'=>if s'=s then v else M s') a):=by
   refine List.ext_getElem? fun k=>?_
   by_cases hk:k<(bA a.sizes).toNat
   ·by_cases hkn:k=n
    ·subst hkn
     have:(⟨a.key,(k:Int)⟩:Wb.Spot)=s:=by
      obtain ⟨sa,sc⟩:=s
      simp only at h3 h4
      simp [h3,h4]
     rw [List.getElem?_set_self (by rw [show (aj (bn M a)).length=(bA a.sizes).toNat by simp [aj,bn]]; exact hk)]
     simp [aj,bn,hk,this]
    ·have:¬(⟨a.key,(k:Int)⟩:Wb.Spot)=s:=by
      obtain ⟨sa,sc⟩:=s
      simp only at h3 h4
      simp [h4]; omega
     rw [List.getElem?_set_ne (fun e=>hkn e.symm)]
     simp [aj,bn,hk,this]
   ·rw [List.getElem?_eq_none (by simp [aj,bn]; omega),List.getElem?_eq_none (by simp [aj,bn]; omega)]
  rw [this]
 ·have hne:gj≠gi:=fun e=>by
   subst e
   have hj1:=List.getElem?_eq_some_iff.1 e2
   have hi1:=List.getElem?_eq_some_iff.1 h2
   obtain ⟨hj2,hj3⟩:=hj1
   obtain ⟨hi2,hi3⟩:=hi1
   have:=List.pairwise_iff_getElem.1 x.nd
   rcases Nat.lt_trichotomy i j with h | h | h
   ·exact this i j hi2 hj2 h (by rw [hi3,hj3])
   ·exact hij h.symm
   ·exact this j i hj2 hi2 h (by rw [hi3,hj3])
  rw [ad hne,x.rows j b gj e1 e2]
  have hkey:b.key≠s.array:=by
   rw [←h3]
   rcases Nat.lt_trichotomy i j with h | h | h
   ·exact fun e=>hA j i b a e1 h1 h e.symm
   ·exact absurd h.symm hij
   ·exact fun e=>hA i j a b h1 e1 h e
  have:bn (fun s'=>if s'=s then v else M s') b=bn M b:=by
   unfold bn
   refine List.map_congr_left fun k _=>?_
   refine if_neg fun e=>?_
   exact hkey (by rw [←e])
  rw [this]
end Go.Proofs.YtocppbmmfklbmaaGreat
set_option maxRecDepth 20000
set_option maxHeartbeats 4000000
namespace Go.Proofs.YtocppbmmfklbmaaGreat
open Go.AM Go.Wb
def pt (go:Nat) (stm which vals:AV) (k:Nat):Prop:=k=go∨an stm k∨an which k∨an vals k
theorem PlO.re {h h':Heap} {c c' go:Nat} {st:List (Wb.Step×List Wb.Step)} {l:List Inst} {stm which vals:AV} (x:PlO h c go st l stm which vals) (hc:c≤c') (hh:∀ k,pt go stm which vals k→h' k=h k):PlO h' c' go st l stm which vals:=by
 obtain ⟨⟨a,b,d,x1⟩,x2,x3,x4,x5,x6,x7,x8⟩:=x
 exact ⟨⟨a,b,d,(hh go (.inl rfl)).trans x1⟩,x2.frame fun k hk=>hh k (.inr (.inl hk)),x3.frame fun k hk=>hh k (.inr (.inr (.inl hk))),x4.frame fun k hk=>hh k (.inr (.inr (.inr hk))),by omega,fun k hk=>by have:=x6 k hk; omega,fun k hk=>by have:=x7 k hk; omega,fun k hk=>by have:=x8 k hk; omega⟩
theorem PlO.plt {h:Heap} {c go:Nat} {st:List (Wb.Step×List Wb.Step)} {l:List Inst} {stm which vals:AV} (x:PlO h c go st l stm which vals) {k:Nat} (hk:pt go stm which vals k):k<c:=by
 rcases hk with rfl | hk | hk | hk
 ·exact x.goc
 ·exact x.sb k hk
 ·exact x.wb k hk
 ·exact x.vb k hk
def fS (i:Nat) (u:Bool×Wb.Spot):List AV:=dZ i u.1 u.2
theorem vJ (A:List Wb.Array) (hA:gH A) (M:Mem) (hM:d6 M) (st:List (Wb.Step×List Wb.Step)) (l:List Inst) (stm which vals:AV) (go i:Nat) (I:Inst) (hI:l[i]?=some I) (hIo:InstOk A st I) (hst:∀ y∈st,y.2.length≤1000000):∀ (N:Nat) (x:Wb.Expr),SizeOf.sizeOf x≤N→cr A x→∀ (us:List (Bool×Wb.Spot)) (g b:Nat) (G:List Nat) (rv:AV) (h0:Heap) (c0:Nat),aR x≤us.length→(∀ u∈us,ly A u.2)→MemAt h0 c0 g A M G→PlO h0 c0 go st l stm which vals→b<c0→b≠g→b∉G→¬pt go stm which vals b→h0 b=some (.row 1 [[rv]] .live none)→RdAt h0 4 rv (us.map (fS i))→(∀ k,an rv k→k<c0∧k≠b) →
  ACalls Pg Fn94.n [.ptr go 0 0,.int i,x.av,.map g,.ptr b 0 0] ⟨h0,c0⟩ fun av s'=>av=.int (bp M (aw I.env) x (us.map (·.2))).1∧∃ rv',s'.h b=some (.row 1 [[rv']] .live none)∧RdAt s'.h 4 rv' ((us.drop (aR x)).map (fS i))∧(∀ k,an rv' k→an rv k)∧∀ k,k<c0→k≠b→s'.h k=h0 k:=by
 intro N
 induction N with
 | zero=>intro x hx; obtain ⟨_,_,_,_,_,_⟩:=x; simp at hx
 | succ N ih=>
  intro x hx hok us g b G rv h0 c0 hnr hus hm hp hbc hbg hbG hbp hb hrd hrv
  obtain ⟨op,n,form,array,subs,args⟩:=x
  rw [Expr.av_mk]
  refine Fn94.calls .keep ?_
  unfold Fn94.ac
  have hbc0:¬b=c0:=by omega
  have hgc:=hm.gc
  obtain ⟨hb1,hhb1⟩:∃ hb1,hb1=upd h0 c0 (some (.row 7 [[.int op,.int n,.int form.const,row (form.terms.map Term.cells),.str array,row (subs.map Form.cells),row (args.map Expr.cells)]] .live none)):=⟨_,rfl⟩
  have hlow:∀ k,k<c0→hb1 k=h0 k:=fun k hk=>by rw [hhb1,ad (by omega)]
  have hbx:=(congrFun hhb1 c0).trans af
  have b1:=(hlow b hbc).trans hb
  have m1:MemAt hb1 (c0+1) g A M G:=hm.frame (Nat.le_succ _) fun k hk=>hlow k (hk.elim (fun h=>by omega) fun h=>(hm.lt k h).1)
  have p1:PlO hb1 (c0+1) go st l stm which vals:=hp.re (Nat.le_succ _) fun k hk=>hlow k (hp.plt hk)
  have r1:RdAt hb1 4 rv (us.map (fS i)):=hrd.frame fun k hk=>hlow k (hrv k hk).1
  have hφ:=cw hIo.env
  simp only [cr] at hok
  by_cases h1:op=1
  ·subst h1
   have hn0:aR (.mk 1 n form array subs args)=0:=by
    rcases hok with h | h | h | h
    ·rw [h.2.1]; simp [aR,bg]
    ·omega
    ·omega
    ·omega
   simp [←hhb1,hbx]
   refine ⟨by simp [bp],rv,b1,by rw [hn0]; exact r1,fun k hk=>hk,fun k hk _=>hlow k hk⟩
  by_cases h2:op=2
  ·subst h2
   have hf:OkForm form∧args=[]:=by
    rcases hok with h | h | h | h
    ·omega
    ·exact ⟨h.2.2,h.2.1⟩
    ·omega
    ·omega
   have hn0:aR (.mk 2 n form array subs args)=0:=by rw [hf.2]; simp [aR,bg]
   have hva:=qx A st l stm which vals go i I hI hIo hst form hf.1 hb1 (c0+1) p1
   rw [Form.av,Form.cells] at hva
   simp [←hhb1,hbx]
   refine ACalls.at hva fun c2 hc2=>?_
   simp
   refine ACalls.pure (jP _) fun c3 hc3=>?_
   simp
   exact ⟨by simp [bp],rv,b1,by rw [hn0]; exact r1,fun k hk=>hk,fun k hk _=>hlow k hk⟩
  by_cases h3:op=3
  ·subst h3
   have hn1:aR (.mk 3 n form array subs args)=1:=by simp [aR]
   obtain ⟨u,us',rfl⟩:∃ u us',us=u::us':=by
    cases us with
    | nil=>rw [hn1] at hnr; simp at hnr
    | cons u us'=>exact ⟨u,us',rfl⟩
   obtain ⟨gr,all,off,st',u1,u2,u3,u4⟩:=r1.head
   rw [List.length_map] at u1 u4
   subst u1
   have hgr:=hrv gr (aq.2 rfl)
   simp only [fS,dZ] at u3
   obtain ⟨j,a,gi,nn,t1,t2,t3,t4,t5,t6,_,t8⟩:=m1.spot hA (hus u List.mem_cons_self)
   rw [t4] at u3
   obtain ⟨h2',hh2⟩:∃ h2',h2'=upd hb1 (c0+1) (some (.row 4 [[.int i,.bool u.1,.str u.2.array,.int nn]] .live none)):=⟨_,rfl⟩
   have k2:∀ k,k<c0+1→h2' k=hb1 k:=fun k hk=>by rw [hh2,ad (by omega)]
   have bx2:=(congrFun hh2 (c0+1)).trans af
   have b2:=(k2 b (by omega)).trans b1
   obtain ⟨h3',hh3⟩:∃ h3',h3'=upd h2' b (some (.row 1 [[.row gr 4 (off+1) us'.length]] .live none)):=⟨_,rfl⟩
   have k3:∀ k,k≠b→h3' k=h2' k:=fun k hk=>by rw [hh3,ad hk]
   have bx3:=(k3 (c0+1) (by omega)).trans bx2
   have m3:MemAt h3' (c0+1+1) g A M G:=m1.frame (Nat.le_succ _) fun k hk=>by
    rcases hk with rfl | hk
    ·exact (k3 _ (Ne.symm hbg)).trans (k2 _ (by omega))
    ·exact (k3 k (fun e=>hbG (e▸hk))).trans (k2 k (m1.lt k hk).1)
   have t7:=m3.rows j a gi t1 t2
   obtain ⟨ver,hmap⟩:=m3.map
   have hlk:=gX eJ (f:=fun v:AV=>v) (z:=.nil) (ok:=false) (s:=⟨h3',c0+1+1⟩) hmap u.2.array
   rw [t6] at hlk
   obtain ⟨K,hK⟩:∃ K,K=(bA a.sizes).toNat:=⟨_,rfl⟩
   rw [←hK] at hlk t5
   have hs1:srI 4 (.row gr 4 off (us'.length+1)) (some (.int 1)) none none=some (.row gr 4 (off+1) us'.length):=by
    have h1:(1:Int)≤(us'.length:Int)+1:=by omega
    simp [srI,bnd,h1]
   simp [←hhb1,hbx,b1,u2,u3,←hh2,b2,hs1,←hh3,bx3,hlk,t5,t7,t8]
   refine ⟨by simp [bp],.row gr 4 (off+1) us'.length,(congrFun hh3 b).trans af,?_,fun k hk=>aq.2 (aq.1 hk),fun k hk hkb=>(k3 k hkb).trans ((k2 k (by omega)).trans (hlow k hk))⟩
   rw [hn1]
   refine RdAt.frame (h:=hb1) (by simpa using u4) fun k hk=>?_
   have:=aq.1 hk
   subst this
   exact (k3 _ hgr.2).trans (k2 _ (by omega))
  have hargs:args.length=2∧cL A args:=by
   rcases hok with h | h | h | h
   ·omega
   ·omega
   ·omega
   ·exact h.2.2
  obtain ⟨xa,xb,rfl⟩:∃ xa xb,args=[xa,xb]:=by
   match args,hargs.1 with
   | [xa,xb],_=>exact ⟨xa,xb,rfl⟩
  simp only [cL] at hargs
  have hsz:SizeOf.sizeOf xa≤N∧SizeOf.sizeOf xb≤N:=by simp at hx; omega
  have hnrs:aR (.mk op n form array subs [xa,xb])=aR xa+aR xb:=by simp [aR,bg,h3]
  rw [hnrs] at hnr
  obtain ⟨φ,hφ'⟩:∃ φ,φ=aw I.env:=⟨_,rfl⟩
  rw [←hφ'] at ih ⊢
  have hevd:bp M φ (.mk op n form array subs [xa,xb]) (us.map (·.2))=(ig op [(bp M φ xa (us.map (·.2))).1,(bp M φ xb (bp M φ xa (us.map (·.2))).2).1],(bp M φ xb (bp M φ xa (us.map (·.2))).2).2):=by
   simp only [bp,if_neg h1,if_neg h2,if_neg h3,fk]
  rw [hevd,hnrs]
  simp only [List.map_cons,List.map_nil] at hhb1 hbx
  simp [h1,h2,h3,←hhb1,hbx]
  have bda:=fi hM φ hargs.2.1 (us.map (·.2))
  have hleft:=gd M φ xa (us.map (·.2)) hargs.2.1
  rw [←List.map_drop] at hleft
  have ha:=ih xa hsz.1 hargs.2.1 us g b G rv hb1 (c0+1) (by omega) hus m1 p1 (by omega) hbg hbG hbp b1 r1 (fun k hk=>by have:=hrv k hk; omega)
  obtain ⟨ea,hea⟩:∃ ea,ea=bp M φ xa (us.map (·.2)):=⟨_,rfl⟩
  rw [←hea] at ha bda hleft ⊢
  have hca:Expr.av xa=.agg xa.cells:=rfl
  have hcb:Expr.av xb=.agg xb.cells:=rfl
  have l7:∀ y:Wb.Expr,y.cells.length=7:=fun y=>by obtain ⟨_,_,_,_,_,_⟩:=y; rfl
  have t7:∀ y:Wb.Expr,y.cells.take 7=y.cells:=fun y=>List.take_of_length_le (by rw [l7]; omega)
  rw [hca] at ha
  simp [l7,t7]
  refine ha.mono ?_
  rintro av ⟨h5,c5⟩ hc5 ⟨rfl,rv5,z1,z2,z3,z4⟩
  simp only at hc5 z1 z2 z4
  have bx5:=(z4 c0 (Nat.lt_succ_self _) (Ne.symm hbc0)).trans hbx
  have m5:MemAt h5 c5 g A M G:=m1.frame hc5 fun k hk=>by
   rcases hk with rfl | hk
   ·exact z4 _ (by omega) (Ne.symm hbg)
   ·exact z4 k (m1.lt k hk).1 fun e=>hbG (e▸hk)
  have p5:PlO h5 c5 go st l stm which vals:=p1.re hc5 fun k hk=>z4 k (p1.plt hk) fun e=>hbp (e▸hk)
  have hb':=ih xb hsz.2 hargs.2.2.1 (us.drop (aR xa)) g b G rv5 h5 c5 (by rw [List.length_drop]; omega) (fun u hu=>hus u (List.mem_of_mem_drop hu)) m5 p5 (by omega) hbg hbG hbp z1 z2 (fun k hk=>by have:=hrv k (z3 k hk); omega)
  rw [←hleft] at hb'
  have bdb:=fi hM φ hargs.2.2.1 ea.2
  obtain ⟨eb,heb⟩:∃ eb,eb=bp M φ xb ea.2:=⟨_,rfl⟩
  rw [←heb] at bdb hb' ⊢
  rw [hcb] at hb'
  simp [bx5,l7,t7]
  refine hb'.mono ?_
  rintro av ⟨h6,c6⟩ hc6 ⟨rfl,rv6,q1,q2,q3,q4⟩
  simp only at hc6 q1 q2 q4
  have bx6:=(q4 c0 (by omega) (Ne.symm hbc0)).trans bx5
  rw [List.drop_drop] at q2
  have hfin:∃ rv',h6 b=some (.row 1 [[rv']] .live none)∧RdAt h6 4 rv' ((us.drop (aR xa+aR xb)).map (fS i))∧(∀ k,an rv' k→an rv k)∧∀ k,k<c0→k≠b→h6 k=h0 k:=
   ⟨rv6,q1,q2,fun k hk=>z3 k (q3 k hk),fun k hk hkb=>(q4 k (by omega) hkb).trans ((z4 k (by omega) hkb).trans (hlow k hk))⟩
  simp only [List.map_drop] at hfin
  by_cases h4:op=4
  ·subst h4
   have hw:=ae (x:=ea.1+eb.1) (by omega) (by omega)
   simp [bx6,hw]
   refine ACalls.pure (jP _) fun c7 hc7=>?_
   simp
   exact ⟨by simp [ig],hfin⟩
  by_cases h5:op=5
  ·subst h5
   have hw:=ae (x:=ea.1-eb.1) (by omega) (by omega)
   simp [bx6,hw]
   refine ACalls.pure (jP _) fun c7 hc7=>?_
   simp
   exact ⟨by simp [ig],hfin⟩
  have hmul:0≤ea.1*eb.1∧ea.1*eb.1≤1000002*1000002:=⟨Int.mul_nonneg bda.1 bdb.1,Int.mul_le_mul bda.2 bdb.2 bdb.1 (by decide)⟩
  have hw:=ae (x:=ea.1*eb.1) (by omega) (by omega)
  simp [bx6,h4,h5,hw]
  refine ACalls.pure (jP _) fun c7 hc7=>?_
  simp
  exact ⟨by simp [ig,h4,h5],hfin⟩
end Go.Proofs.YtocppbmmfklbmaaGreat
