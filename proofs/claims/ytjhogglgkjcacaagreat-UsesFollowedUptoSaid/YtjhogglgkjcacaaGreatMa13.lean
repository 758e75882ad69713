/- Part of the claim: see its last text. -/
import Derived.Test.YtjhogglgkjcacaaGreatMa12
set_option linter.all false
namespace Go.AM
theorem pS {G:Gh} {s s':St} {w:World} {v v':AV} {x:Value} (h:fz1 v s=some (v',s')) (ai:Rep G v x) (o:Sim G s w):∃ l,Stp G s w l s' w/\Sim l s' w/\Rep l v' x:=by
 have bc:norm v=v'->s'=s->∃ l,Stp G s w l s' w/\Sim l s' w/\Rep l v' x:=by
  rintro rfl rfl;exact ⟨G,Stp.refl G _ w,o,kg _ _ ai⟩
 unfold fz1 at h;split at h
 ·rename_i g b1 off len;split at h
  ·rename_i t d bi b0 y;split at h
   ·rename_i K;obtain ⟨bN,a9,a'⟩:=K;subst a9;injection h with h; injection h with c q; subst c; subst q;cases ai with
    | row _ _ _ a D Q bx a1 a4=>
     obtain ⟨l',ab,a2,a3,Y,bo⟩:=o.blk g _ y;rw [Q] at ab; injection ab with am; subst am;have a8:∀ f,bi≠.lent f:=by rintro f rfl; rcases a' with h | h <;> cases h
     have aa:0<a.cap->oY G s g a.b:=fun K=>o.freeRow y a8 Q K;have S:=iZ Q;have J:Sim G { s with h:=upd s.h g (some (.row t d .frz none)) } w:=by
      have:=Sim.put (g:=g) (b':=.row t d .frz none) (l':=a) (c':=s.c) (w':=w) o (q5 _) (o.hLt y) (by rw [S]; exact .refl G) aa (fun _ _ _=>rfl)
       (fun bW v _ a6=>o.mem _ _ _ a6) (by simp) ⟨a2,a3,by rw [S]; exact Y,fun h=>absurd rfl h⟩
      rwa [S] at this
     have W:Stp G s w G { s with h:=upd s.h g (some (.row t d .frz none)) } w:=by
      refine ⟨.refl G,q5 _,rfl,rfl,rfl,q5 _,fun _ _ _=>rfl,?_⟩;rintro bl bm ⟨f,T,C,P,z,b,u⟩;have e:upd s.h g (some (.row t d .frz none)) f=some T:=P;unfold upd at e;split at e
      ·rename_i ao; subst ao; exact ⟨f,_,C,y,z,b,u⟩
      ·exact ⟨f,T,C,e,z,b,u⟩
     have R:((d.drop off).take len).length=len:=by simp; omega
     by_cases ax:len=0
     ·subst ax;refine ⟨G,W,J,?_⟩;simp only [List.take_zero,aP];exact Rep.sl [] false D (a.cap-off) 0 0 0 (fun _ _=>default) (by simp) (by simp) (by simp) (by simp) (by simp) (by simp) (by simp)
     ·have Z:0<a.cap:=by omega
      obtain ⟨k,b2,U,bt,N⟩:=Y.flat Z;have a0:=J.addMem U (fun f bk ar bj bf C P bb z u=>by
       have e:upd s.h g (some (.row t d .frz none)) f=some (.row bk ar bj bf):=P;unfold upd at e;split at e
       ·injection e with e; injection e with _ _ ap _; exact absurd ap.symm bb
       ·rename_i a7; exact aa Z f _ C a7 e z u)
      have ag:=J.leMem U;refine ⟨G.addMem a.b k,W.trans (Stp.addMem ag),a0,?_⟩;have a5:=(N.drop off).take len;have al:Rep (G.addMem a.b k) (.sl ((d.drop off).take len) false) (.slice D ((d.drop off).take len).length (a.cap-off)):=by
       refine .sl _ false D _ a.b (off*a.sz) a.sz (fun i j=>k.getD (off*a.sz+i*a.sz+j) default) (by rw [R]; omega) (by simp) (fun _=>a1 (by omega)) (fun i m b=>(a5.2 i m b).1) ?_ ?_ (by rw [R]; exact a4)
       ·intro i m j H b O;show (if a.b=a.b then k[off*a.sz+i*a.sz+j]? else _)=_
        rw [if_pos rfl];have M:d[off+i]?=some m:=by
         rw [s0] at b;split at b
         ·rwa [s8] at b
         ·cases b
        obtain ⟨_,v,c,_⟩:=(N.2 _ m M).2 j H O;have p:k[(off+i)*a.sz+j]?=some v:=by
         rw [s0] at c;split at c
         ·simpa using c
         ·cases c
        rw [tn] at p;simp [r5,p]
       ·intro i m j H b O;have M:d[off+i]?=some m:=by
         rw [s0] at b;split at b
         ·rwa [s8] at b
         ·cases b
        obtain ⟨_,v,c,q⟩:=(N.2 _ m M).2 j H O;have p:k[(off+i)*a.sz+j]?=some v:=by
         rw [s0] at c;split at c
         ·simpa using c
         ·cases c
        rw [tn] at p;have:k.getD (off*a.sz+i*a.sz+j) default=v:=by simp [r5,p]
        rw [this];exact q.mono ag
      rw [R] at al;have:=kg _ _ al;simpa [norm] using this
   ·cases h
  ·cases h
 all_goals (injection h with h; injection h with c q; exact bc c q.symm)
theorem vW {G:Gh} {w:World}:∀ (vs vs':List AV) (s s':St) (xs:List Value) (G:Gh),fzL vs s=some (vs',s')->RepL G vs xs->Sim G s w->∃ c,Stp G s w c s' w/\Sim c s' w/\RepL c vs' xs
 | [],vs',s,s',xs,G,a,b,f=>by
  simp only [fzL] at a; injection a with a; injection a with d e; subst d; subst e;exact ⟨G,Stp.refl G _ w,f,b⟩
 | J::vs,vs',s,s',xs,G,a,b,f=>by
  cases xs with
  | nil=>have:=b.1; simp at this
  | cons M xs=>
   simp only [fzL] at a;split at a
   ·rename_i N C d;split at a
    ·rename_i K D e;injection a with a; injection a with u v; subst u; subst v;obtain ⟨g,h,m,o⟩:=pS d (b.2 0 J M rfl rfl) f;have y:RepL g vs xs:=RepL.mono h.le ⟨by simpa using b.1,fun j t H x z=>b.2 (j+1) t H (by simpa using x) (by simpa using z)⟩
     obtain ⟨l,k,p,q⟩:=vW (G:=G) vs K C D xs g e y m;exact ⟨l,h.trans k,p,RepL.cons (o.mono k.le) q⟩
    ·cases a
   ·cases a
theorem tq {G:Gh} {s s':St} {w:World} {v v':AV} {x:Value} (h:fzI v s=some (v',s')) (c:Rep G v x) (b:Sim G s w):∃ a,Stp G s w a s' w/\Sim a s' w/\Rep a v' x:=by
 unfold fzI at h;split at h
 ·rename_i g;split at h
  ·rename_i cs' p m;injection h with h; injection h with k l; subst k; subst l;obtain ⟨xs,rfl,o⟩:=c.ofAgg;obtain ⟨a,d,e,f⟩:=vW (G:=G) g cs' s p xs.toList G m o b;exact ⟨a,d,e,by simpa using f.toAgg⟩
  ·cases h
 ·exact pS h c b
theorem uL {w:World}:∀ (vs vs':List AV) (s s':St) (xs:List Value) (G:Gh),fzR.go vs s=some (vs',s')->RepL G vs xs->Sim G s w->∃ c,Stp G s w c s' w/\Sim c s' w/\RepL c vs' xs
 | [],vs',s,s',xs,G,a,b,f=>by
  simp only [fzR.go] at a; injection a with a; injection a with d e; subst d; subst e;exact ⟨G,Stp.refl G _ w,f,b⟩
 | J::vs,vs',s,s',xs,G,a,b,f=>by
  cases xs with
  | nil=>have:=b.1; simp at this
  | cons M xs=>
   simp only [fzR.go] at a;split at a
   ·rename_i N C d;split at a
    ·rename_i K D e;injection a with a; injection a with u v; subst u; subst v;obtain ⟨g,h,m,o⟩:=tq d (b.2 0 J M rfl rfl) f;have y:RepL g vs xs:=RepL.mono h.le ⟨by simpa using b.1,fun j t H x z=>b.2 (j+1) t H (by simpa using x) (by simpa using z)⟩
     obtain ⟨l,k,p,q⟩:=uL vs K C D xs g e y m;exact ⟨l,h.trans k,p,RepL.cons (o.mono k.le) q⟩
    ·cases a
   ·cases a
theorem AT {G:Gh} {s s':St} {w:World} {v v':AV} {x:Value} (h:fzR v s=some (v',s')) (c:Rep G v x) (b:Sim G s w):∃ a,Stp G s w a s' w/\Sim a s' w/\Rep a v' x:=by
 unfold fzR at h;split at h
 ·rename_i g;split at h
  ·rename_i cs' p m;injection h with h; injection h with k l; subst k; subst l;obtain ⟨xs,rfl,o⟩:=c.ofTup;obtain ⟨a,d,e,f⟩:=uL g cs' s p xs.toList G m o b;exact ⟨a,d,e,by simpa using f.toTup⟩
  ·cases h
 ·exact tq h c b
theorem nY {G:Gh} {s s':St} {w:World} {md:Md} {v v':AV} {x:Value} (h:dt md v s=some (v',s')) (d:Rep G v x) (c:Sim G s w):∃ e,Stp G s w e s' w/\Sim e s' w/\Rep e v' x:=by
 unfold dt at h;split at h
 ·exact tq h d c
 ·rename_i f;split at h
  ·split at h
   ·rename_i o;injection h with h; injection h with a b; subst a; subst b;obtain ⟨a,b⟩:=mj c o;cases d with
    | sl _ _ g k p D H q u m t C y z=>
     have l:k=0:=m rfl;subst l;refine ⟨_,b,a,?_⟩;have:=Rep.row (G:=G.addLoc s.c ⟨0,0,f⟩) s.c 0 0 ⟨0,0,f⟩ g (ci _ _ _) (q5 _) (fun h=>absurd h (u6 _)) (v7 _);simpa using this
   ·cases h
  ·injection h with h; injection h with a b; subst a; subst b;exact ⟨G,Stp.refl G _ w,c,d⟩
 ·injection h with h; injection h with a b; subst a; subst b;exact ⟨G,Stp.refl G _ w,c,d⟩
theorem iQ {tmps:Array Value} {a t:Nat} {v:Value} (c:a<tmps.size):(tmps.setIfInBounds a v).getD t undef=if t=a then v else tmps.getD t undef:=by
 by_cases b:t=a
 ·subst b;rw [if_pos rfl];simp [r5,c]
 ·rw [if_neg b];simp [r5,s4 b]
theorem d8 {G:Gh} {sl:Slots} {a:Act} {b:Option Tmp} {av:AV} {v:Value} (h:RepSl G sl a) (c:∀ t,b=some t->t<a.tmps.size) (d:Rep G av v):RepSl G (put sl b av) (a.put b v):=by
 intro t;cases b with
 | none=>exact h t
 | some b=>
  show Rep G (if t=b then av else sl t) ((a.tmps.setIfInBounds b v).getD t undef)
  rw [iQ (c b rfl)];split
  ·exact d
  ·exact h t
theorem cT (a:Act) (b:Option Tmp) (v:Value):(a.put b v).tmps.size=a.tmps.size:=by cases b <;> simp [Act.put]
theorem d5 (a:Act) (b:Option Tmp) (v:Value):(a.put b v).defers=a.defers:=by cases b <;> rfl
theorem jW {P:Program} {n:Nat} {md:Tmp->Md} {k:Array Oper} {o:Oper} {c:AO} (h:cD P n md k o=some c) :
  cOp P o=some c.i/\c.dst=o.dst/\(∀ t,o.dst=some t->t<n)/\c.re=[]/\((o.guard=none/\c.grd=none)\/∃ j b t,o.guard=some (j,b)/\(k[j]?).bind (·.dst)=some t/\c.grd=some (t,b)) /\
  (∀ t,o.dst=some t->c.md=md t)/\(o.dst=none->c.md=.plain):=by
 unfold cD at h;split at h
 ·rename_i i f d;split at h
  ·rename_i e;injection h with h; subst h;exact ⟨f,d.symm,by simp [d],rfl,.inl ⟨e,rfl⟩,by simp [d],fun _=>rfl⟩
  ·cases h
 ·rename_i i m f d;split at h
  ·rename_i g;split at h
   ·rename_i e;injection h with h; subst h;exact ⟨f,d.symm,fun t a=>by rw [d] at a; injection a with a; subst a; exact g,rfl,.inl ⟨e,rfl⟩,fun t a=>by rw [d] at a; injection a with a; subst a; rfl,by simp [d]⟩
   ·rename_i j b e;split at h
    ·rename_i t l;injection h with h; subst h;exact ⟨f,d.symm,fun t a=>by rw [d] at a; injection a with a; subst a; exact g,rfl,.inr ⟨j,b,t,e,l,rfl⟩,fun t a=>by rw [d] at a; injection a with a; subst a; rfl,by simp [d]⟩
    ·cases h
  ·cases h
 ·cases h
theorem mt (G:Gh):Rep G (.tup []) undef:=.tup [] #[] rfl (fun j b c a=>by simp at a)
theorem nZ {G:Gh} {sl:Slots} {a:Act} {q:Array Oper} {o:Oper} {g:Option (Nat×Bool)} {b:Bool} (v:RepSl G sl a) (w:∀ j d t,o.guard=some (j,d)->(q[j]?).bind (·.dst)=some t->t<a.tmps.size)
  (x:(o.guard=none/\g=none)\/∃ j b t,o.guard=some (j,b)/\(q[j]?).bind (·.dst)=some t/\g=some (t,b)) (h:gdI g sl=some b):Region.wanted o (yielded q a.tmps)=b:=by
 rcases x with ⟨c,rfl⟩ | ⟨j,d,t,c,l,rfl⟩
 ·simp [gdI] at h; subst h;simp [Region.wanted,c]
 ·simp only [gdI] at h;split at h
  ·rename_i u m;injection h with h; subst h;have f:=v t;rw [m] at f;obtain ⟨k,_⟩:=bH f;have e:=w j d t c l;have p:a.tmps[t]?=some (.bool u):=by
    rw [r5,rm e] at k;rw [rm e];simpa using k
   simp only [Region.wanted,c,yielded,l,zb,p];cases u <;> cases d <;> rfl
  ·rename_i m;injection h with h; subst h;have f:=v t;rw [m] at f;obtain ⟨y,k,z⟩:=f.ofTup;have e:=w j d t c l;have p:a.tmps[t]?=some (.tuple y):=by
    rw [r5,rm e] at k;rw [rm e];simpa using k
   simp only [Region.wanted,c,yielded,l,zb,p];cases d <;> rfl
  ·cases h
set_option maxHeartbeats 400000 in
theorem yG {P:Program} {o:Oper} {f:Nat} {args:List X} (a:aS P o=some (.call f args)):∃ c,o.op=.call c/\c.callee=.value (.func f)/\cXs c.args=some args:=by
 cases d:o.op with
 | call c=>
  simp only [aS,d] at a;split at a
  ·rename_i h k;injection a with a; injection a with e g; subst e; subst g;exact ⟨c,rfl,h,k⟩
  all_goals (repeat' (split at a))
  all_goals first | (cases a; done) | (injection a with a; cases a; done) | (obtain ⟨_,_,b⟩:=ay a; cases b; done)
 | makeFunc f xs ys=>
  cases f <;> simp only [aS,d] at a
  all_goals (repeat' (split at a))
  all_goals first | (cases a; done) | (injection a with a; cases a; done) | (obtain ⟨_,_,b⟩:=ay a; cases b; done)
 | makeMap p r=>
  cases r <;> simp only [aS,d] at a
  all_goals (repeat' (split at a))
  all_goals first | (cases a; done) | (injection a with a; cases a; done) | (obtain ⟨_,_,b⟩:=ay a; cases b; done)
 | next m l=>
  cases l <;> simp only [aS,d] at a
  all_goals (repeat' (split at a))
  all_goals first | (cases a; done) | (injection a with a; cases a; done) | (obtain ⟨_,_,b⟩:=ay a; cases b; done)
 | typeAssert t u q ok=>
  cases ok <;> simp only [aS,d] at a
  all_goals (repeat' (split at a))
  all_goals first | (cases a; done) | (injection a with a; cases a; done) | (obtain ⟨_,_,b⟩:=ay a; cases b; done)
 | _=>
  simp only [aS,d] at a
  all_goals (repeat' (split at a))
  all_goals first | (cases a; done) | (injection a with a; cases a; done) | (obtain ⟨_,_,b⟩:=ay a; cases b; done)
set_option maxHeartbeats 400000 in
theorem vL {P:Program} {o:Oper} {x:X} {args:List X} (a:aS P o=some (.callv x args)):∃ c y,o.op=.call c/\c.callee=.value y/\cX y=some x/\cXs c.args=some args:=by
 cases d:o.op with
 | call c=>
  simp only [aS,d] at a;split at a
  ·injection a with a; cases a
  ·rename_i y q t h k;obtain ⟨C,l,m⟩:=ay a;injection m with e f; subst e; subst f;exact ⟨c,y,rfl,h,l,k⟩
  all_goals (repeat' (split at a))
  all_goals first | (cases a; done) | (injection a with a; cases a; done) | (obtain ⟨_,_,b⟩:=ay a; cases b; done)
 | makeFunc g xs ys=>
  cases g <;> simp only [aS,d] at a
  all_goals (repeat' (split at a))
  all_goals first | (cases a; done) | (injection a with a; cases a; done) | (obtain ⟨_,_,b⟩:=ay a; cases b; done)
 | makeMap v r=>
  cases r <;> simp only [aS,d] at a
  all_goals (repeat' (split at a))
  all_goals first | (cases a; done) | (injection a with a; cases a; done) | (obtain ⟨_,_,b⟩:=ay a; cases b; done)
 | next u p=>
  cases p <;> simp only [aS,d] at a
  all_goals (repeat' (split at a))
  all_goals first | (cases a; done) | (injection a with a; cases a; done) | (obtain ⟨_,_,b⟩:=ay a; cases b; done)
 | typeAssert x z w ok=>
  cases ok <;> simp only [aS,d] at a
  all_goals (repeat' (split at a))
  all_goals first | (cases a; done) | (injection a with a; cases a; done) | (obtain ⟨_,_,b⟩:=ay a; cases b; done)
 | _=>
  simp only [aS,d] at a
  all_goals (repeat' (split at a))
  all_goals first | (cases a; done) | (injection a with a; cases a; done) | (obtain ⟨_,_,b⟩:=ay a; cases b; done)
theorem lV {G:Gh} {sl:Slots} {a:Act} (h:RepSl G sl a) {xs:Array Operand} {ys:List X} (f:cXs xs=some ys) (md:Md):RepL G (dh md sl ys) (xs.map a.eval).toList:=by
 have c:=mX h f;unfold dh;split
 ·exact c
 ·refine ⟨by have:=c.1; simpa using this,fun j k g b e=>?_⟩
  rw [rb] at b;cases d:ys[j]? with
  | none=>simp [d] at b
  | some l=>
   simp [d] at b; subst b;exact kg _ _ (c.2 j _ g (by simp [rb,d]) e)
set_option maxHeartbeats 400000 in
theorem vM {P:Program} {o:Oper} {op:BinOp} {x y:X} (a:aS P o=some (.bin .slNil op x y)) :
  ∃ t e ox oy g,o.op=.binOp op t ox oy g/\P.underlying t=some (.slice e)/\cX ox=some x/\oy=.const (.slice none 0 0):=by
 cases d:o.op
 case binOp D t ox oy g=>
  simp only [aS,d] at a;split at a
  ·rename_i C H M b q w;injection a with a; injection a with h k l m; subst h; subst k; subst l; subst m;unfold cBk at b;split at b
   all_goals first
    | (cases b; done)
    | (injection b with b; cases b; done)
    | (split at b <;> first | (cases b; done) | (split at b <;> first | (cases b; done) | (injection b with b; cases b; done)) | (injection b with b; cases b; done) | skip)
   rename_i e u f;refine ⟨t,e,ox,oy,g,rfl,u,q,?_⟩;unfold zD at f;split at f
   ·rfl
   ·cases f
  ·cases a
 case makeFunc p xs ys=>
  cases p <;> simp only [aS,d] at a
  all_goals (repeat' (split at a))
  all_goals first | (cases a; done) | (injection a with a; cases a; done) | (obtain ⟨_,_,c⟩:=ay a; cases c; done)
 case makeMap t r=>
  cases r <;> simp only [aS,d] at a
  all_goals (repeat' (split at a))
  all_goals first | (cases a; done) | (injection a with a; cases a; done) | (obtain ⟨_,_,c⟩:=ay a; cases c; done)
 case next z v=>
  cases v <;> simp only [aS,d] at a
  all_goals (repeat' (split at a))
  all_goals first | (cases a; done) | (injection a with a; cases a; done) | (obtain ⟨_,_,c⟩:=ay a; cases c; done)
 case typeAssert J K G ok=>
  cases ok <;> simp only [aS,d] at a
  all_goals (repeat' (split at a))
  all_goals first | (cases a; done) | (injection a with a; cases a; done) | (obtain ⟨_,_,c⟩:=ay a; cases c; done)
 all_goals
  simp only [aS,d] at a
  all_goals (repeat' (split at a))
  all_goals first | (cases a; done) | (injection a with a; cases a; done) | (obtain ⟨_,_,c⟩:=ay a; cases c; done)
set_option maxHeartbeats 400000 in
theorem AN {P:Program} {o:Oper} {x:X} (a:aS P o=some (.nx x)):∃ ox,o.op=.next ox false/\cX ox=some x:=by
 cases c:o.op
 case next g h=>
  cases h with
  | true=>simp [aS,c] at a
  | false=>
   simp only [aS,c] at a;obtain ⟨q,f,d⟩:=ay a;injection d with d; subst d;exact ⟨g,rfl,f⟩
 case makeFunc e xs ys=>
  cases e <;> simp only [aS,c] at a
  all_goals (repeat' (split at a))
  all_goals first | (cases a; done) | (injection a with a; cases a; done) | (obtain ⟨_,_,b⟩:=ay a; cases b; done)
 case makeMap k r=>
  cases r <;> simp only [aS,c] at a
  all_goals (repeat' (split at a))
  all_goals first | (cases a; done) | (injection a with a; cases a; done) | (obtain ⟨_,_,b⟩:=ay a; cases b; done)
 case typeAssert m p l ok=>
  cases ok <;> simp only [aS,c] at a
  all_goals (repeat' (split at a))
  all_goals first | (cases a; done) | (injection a with a; cases a; done) | (obtain ⟨_,_,b⟩:=ay a; cases b; done)
 all_goals
  simp only [aS,c] at a
  all_goals (repeat' (split at a))
  all_goals first | (cases a; done) | (injection a with a; cases a; done) | (obtain ⟨_,_,b⟩:=ay a; cases b; done)
set_option maxHeartbeats 400000 in
theorem Aa {P:Program} {o:Oper} {g:List (TypeId×FuncId×Option (Option Nat))} {x:X} {args:List X} (a:aS P o=some (.inv g x args)):∃ c y name,o.op=.call c/\c.callee=.invoke y name/\g=pW P name/\cX y=some x/\cXs c.args=some args:=by
 cases d:o.op
 case call c=>
  simp only [aS,d] at a;split at a
  ·injection a with a; cases a
  ·obtain ⟨u,f,e⟩:=ay a;cases e
  ·rename_i y name v p q;obtain ⟨u,f,e⟩:=ay a;injection e with h k l; subst h; subst k; subst l;exact ⟨c,y,name,rfl,p,rfl,f,q⟩
  all_goals (repeat' (split at a))
  all_goals first | (cases a; done) | (injection a with a; cases a; done) | (obtain ⟨_,_,b⟩:=ay a; cases b; done)
 case makeFunc m xs ys=>
  cases m <;> simp only [aS,d] at a
  all_goals (repeat' (split at a))
  all_goals first | (cases a; done) | (injection a with a; cases a; done) | (obtain ⟨_,_,b⟩:=ay a; cases b; done)
 case makeMap z r=>
  cases r <;> simp only [aS,d] at a
  all_goals (repeat' (split at a))
  all_goals first | (cases a; done) | (injection a with a; cases a; done) | (obtain ⟨_,_,b⟩:=ay a; cases b; done)
 case next w t=>
  cases t <;> simp only [aS,d] at a
  all_goals (repeat' (split at a))
  all_goals first | (cases a; done) | (injection a with a; cases a; done) | (obtain ⟨_,_,b⟩:=ay a; cases b; done)
 case typeAssert D G C ok=>
  cases ok <;> simp only [aS,d] at a
  all_goals (repeat' (split at a))
  all_goals first | (cases a; done) | (injection a with a; cases a; done) | (obtain ⟨_,_,b⟩:=ay a; cases b; done)
 all_goals
  simp only [aS,d] at a
  all_goals (repeat' (split at a))
  all_goals first | (cases a; done) | (injection a with a; cases a; done) | (obtain ⟨_,_,b⟩:=ay a; cases b; done)
theorem wv {P:Program} {G:Gh} {s:St} {w:World} {t:TypeId} {l:Option Nat} (o:tAg P t=some l) {a av:AV} {x:Value} (h:ldI l a s=some av) (p:Rep G a x) (m:Sim G s w) :
  ∃ b v,x=.pointer (some b)/\(loadVar t b).run P w=.ok v w/\Rep G av v:=by
 unfold ldI at h;split at h
 ·rename_i y u C;cases d:s.elem y u with
  | none=>simp [d] at h
  | some q=>
   simp [d] at h;obtain ⟨H,z,D,e,g,_⟩:=m.elem d;cases p with
   | ptr _ _ _ J c=>
    rw [z] at c; injection c with c; subst c;obtain ⟨v,k,f⟩:=gJ (P:=P) e g o h;exact ⟨_,v,rfl,k,f⟩
 ·rename_i q C;obtain ⟨b,a,D,rfl,e,g⟩:=m.zp p;obtain ⟨v,k,f⟩:=gJ (P:=P) e g o h;exact ⟨_,v,rfl,k,f⟩
 ·cases h
theorem zh {P:Program} {t:TypeId} {name:String} {f:FuncId} (h:oa P t name=some (f,none)) (n:Nat) (v:Value) (w:World):(method (n+1) t v name).run P w=.ok (f,v) w:=by
 unfold oa at h;split at h
 ·rename_i i e;split at h
  ·rename_i q g;split at h
   ·rename_i k;unfold method;split at h
    ·rename_i m c;split at h
     ·rename_i p d;injection h with h; injection h with b a; subst b;simp [typeInfo,e,g,k,follow,c,receiverAt,run_underlying d,Place.get]
     ·cases h
    ·rename_i m c;split at h
     ·obtain ⟨_,_,a⟩:=ay h;injection a with _ a; cases a
     ·rename_i l o d;injection h with h; injection h with b a; subst b;cases l <;> first | (exact absurd rfl (o _)) | simp [typeInfo,e,g,k,follow,c,receiverAt,run_underlying d,Place.get]
     ·cases h
    ·cases h
   ·cases h
  ·cases h
 ·cases h
theorem zj {P:Program} {t:TypeId} {name:String} {f:FuncId} {g:Option Nat} (h:oa P t name=some (f,some g)):∃ e,tAg P e=some g/\∀ (n:Nat) (a:Addr) (d:Value) (w:World),(loadVar e a).run P w=.ok d w->(method (n+1) t (.pointer (some a)) name).run P w=.ok (f,d) w:=by
 unfold oa at h;split at h
 ·rename_i i m;split at h
  ·rename_i y p;split at h
   ·rename_i q;split at h
    ·split at h
     ·injection h with h; injection h with _ b; cases b
     ·cases h
    ·rename_i H l;split at h
     ·rename_i e v;obtain ⟨ag',k,b⟩:=ay h;injection b with b c; subst b; injection c with c; subst c;refine ⟨e,k,fun n a d w o=>?_⟩;have u:y.path=#[]:=by simpa using q
      have x:∀ G D z C,Builtin.ssaWrapNilChk_ G D #[.pointer (some a),.string z,.string C]=pure (.pointer (some a)):=fun _ _ _ _=>rfl;unfold method;simp [typeInfo,m,p,u,follow,l,receiverAt,run_underlying v,Place.get,x,strVal,asAddr,o]
     ·injection h with h; injection h with _ b; cases b
     ·cases h
    ·cases h
   ·cases h
  ·cases h
 ·cases h
theorem oF {P:Program} {name:String} {t:TypeId} {a:TypeId×FuncId×Option (Option Nat)} (h:(pW P name).find? (fun a=>a.1==t)=some a):a.1=t/\oa P t name=some a.2:=by
 have b:=List.find?_some h;have c:=List.mem_of_find?_eq_some h;simp at b;unfold pW at c;obtain ⟨g,_,d⟩:=Es.1 c;obtain ⟨r,e,f⟩:=ay d;subst f;simp at b;subst b;exact ⟨rfl,e⟩
theorem As {P:Program} {o:Oper} {c:AO} (m:aS P o=some c.i) {sl:Slots} {s:St} {K:AV->St->Prop} (h:opW P c sl s K) {G:Gh} {w:World} {a:Act} (U:Sim G s w) (C:RepSl G sl a)
  {next:Act->World->Prop} {Q:Exit->Act->World->Prop} (W:∀ v av z s' w',Stp G s w z s' w'->Sim z s' w'->Rep z av v->K av s'->next (a.put o.dst v) w'):o.wp P a w next Q:=by
 have call:∀ (g:FuncId) (R:Array Value) (aa:List AV),(execOp a.eval o).run P w=(callFunc g R).run P w->RepL G aa R.toList->ACalls P g aa s K->o.wp P a w next Q:=by
  intro g R aa y e a5;have:=a5 G w R.toList U e;simp only [Array.toArray_toList] at this;unfold Oper.wp;rw [y];unfold CallOk at this;split at this
  ·rename_i b0 bs bt k;rw [k];refine this.mono fun H w' ai=>?_;cases H with
   | returned v=>
    obtain ⟨av,z,s',l,q,x,T⟩:=ai;exact W v av z s' w' l q x T
   | panicked bN=>exact ai.elim
   | outgrown=>exact ai.elim
  ·rename_i v bt k;rw [k];obtain ⟨av,z,s',l,q,x,T⟩:=this;exact W v av z s' _ l q x T
  ·exact this.elim
 have own:(∀ g p,c.i≠.call g p)->(∀ d p,c.i≠.callv d p)->(∀ M d D,c.i≠.bin .slNil M d D)->(∀ d,c.i≠.nx d)->(∀ Z d p,c.i≠.inv Z d p)->o.wp P a w next Q:=by
  intro k l q x T;unfold opW at h;split at h
  ·rename_i g p y; exact absurd y (k g p)
  ·rename_i d p y; exact absurd y (l d p)
  ·rename_i M d D y; exact absurd y (q M d D)
  ·rename_i d y; exact absurd y (x d)
  ·rename_i Z d p y; exact absurd y (T Z d p)
  ·split at h
   ·rename_i v s' Y;obtain ⟨n,O,w',z,u,f,S,ab,ag⟩:=zE m Y U C;unfold Oper.wp;rw [u];cases n <;> simp only [vw] at f <;> first
     | (injection f with f; subst f; exact W _ v z s' w' S ab ag h)
     | (cases f; done)
   ·exact h.elim
 cases b:c.i with
 | call g p=>
  unfold opW at h;rw [b] at h;simp only at h;rw [b] at m;obtain ⟨t,k,l,q⟩:=yG m;refine call g (t.args.map a.eval) _ ?_ (lV C q c.md) h;unfold execOp;simp [k,resolve,l,Act.eval,Deferred.ofValue,invoke]
 | callv d p=>
  unfold opW at h;rw [b] at h;simp only at h;rw [b] at m;obtain ⟨t,D,k,l,q,x⟩:=vL m;split at h
  ·rename_i g bo R ao;have e:=bh C q;rw [ao] at e;cases J:a.eval D with
   | func bW first ax=>
    rw [J] at e;cases e with
    | fn _ _ _ _ _ bf bi bk bl=>
     refine call g (first++t.args.map a.eval++ax) _ ?_ ?_ h
     ·unfold execOp;simp [k,resolve,l,J,Deferred.ofValue,invoke]
     ·have ap:RepL G bo first.toList:=⟨by simpa using bf,fun j c v m am=>bk j c v m (by simpa using am)⟩
      have ar:RepL G R ax.toList:=⟨by simpa using bi,fun j c v m am=>bl j c v m (by simpa using am)⟩
      have:=(ap.append (lV C x c.md)).append ar;simpa using this
   | _=>rw [J] at e; cases e
  ·exact h.elim
 | nx d=>
  unfold opW at h;rw [b] at h;simp only at h;rw [b] at m;obtain ⟨ox,k,l⟩:=AN m;obtain ⟨v,w',av,s',u,f,S,ab,ag⟩:=Cd (P:=P) o.type h (bh C l) U;unfold Oper.wp execOp;simp only [k,Sem.run_bind,u,Result.andThen_ok,Sem.run_pure];exact W v av G s' w' f S ab ag
 | bin bc M d D=>
  by_cases a2:bc=.slNil
  ·subst a2;unfold opW at h;rw [b] at h;simp only at h;rw [b] at m;obtain ⟨N,H,ox,oy,b6,k,l,q,x⟩:=vM m;subst x;obtain ⟨r,av,u,f,S⟩:=zl (P:=P) (w:=w) (ox:=ox) (oy:=.const (.slice none 0 0)) l h (bh C q);unfold Oper.wp execOp;have a0:(do eqGuard M N ox (.const (.slice none 0 0)) (a.eval ox) (a.eval (.const (.slice none 0 0))); binOp M N (a.eval ox) (a.eval (.const (.slice none 0 0)))).run P w=.ok r w:=u
   simp only [k,Sem.run_bind] at a0 ⊢;rw [a0];exact W r av G s w (Stp.refl G s w) U f S
  ·exact own (by rw [b]; simp) (by rw [b]; simp) (by rw [b]; intro b1 b4 b5 H; injection H with H; exact a2 H) (by rw [b]; simp) (by rw [b]; simp)
 | inv Z d p=>
  unfold opW at h;rw [b] at h;simp only at h;rw [b] at m;obtain ⟨t,D,name,k,l,rfl,q,x⟩:=Aa m;split at h
  ·rename_i N v ao;have e:=bh C q;rw [ao] at e;cases J:a.eval D with
   | iface b2 O=>
    rw [J] at e;cases e with
    | ifc _ _ _ e=>
     have a1:=lV C x c.md;have Y:(execOp a.eval o)=(do callMethod (.iface N O) name (t.args.map a.eval):Sem Next):=by
      have a':(#[Value.iface N O]++Array.map a.eval t.args)[0]?=some (.iface N O):=by rw [xq (by simp)]; rfl
      have a8:(Array.map a.eval t.args).extract 0 t.args.size=Array.map a.eval t.args:=by
       have:=Array.extract_size (xs:=Array.map a.eval t.args)
       rwa [Array.size_map] at this
      unfold execOp;simp [k,resolve,l,J,invoke,a',a8]
     have a9:∃ n,P.types.size+Made.depth=n+1:=⟨P.types.size+Made.depth-1,by unfold Made.depth; omega⟩
     obtain ⟨n,a3⟩:=a9;split at h
     ·rename_i bm g al;obtain ⟨u,f⟩:=oF al;simp only at u f;subst u;refine call g (#[O]++t.args.map a.eval) _ ?_ ?_ h
      ·rw [Y];simp [callMethod,a3,zh f n O w]
      ·have:=RepL.cons e a1;simpa using this
     ·rename_i bm g bx al;obtain ⟨u,f⟩:=oF al;simp only at u f;subst u;split at h
      ·rename_i b3 bb;obtain ⟨H,a6,a7⟩:=zj f;obtain ⟨a4,r,ap,ar,bj⟩:=wv (P:=P) a6 bb e U;subst ap;refine call g (#[r]++t.args.map a.eval) _ ?_ ?_ h
       ·rw [Y];simp [callMethod,a3,a7 n a4 r w ar]
       ·have:=RepL.cons bj a1;simpa using this
      ·exact h.elim
     ·exact h.elim
   | _=>rw [J] at e; cases e
  ·exact h.elim
 | _=>exact own (by rw [b]; simp) (by rw [b]; simp) (by rw [b]; simp) (by rw [b]; simp) (by rw [b]; simp)
theorem tE {P:Program} {o:Oper} {c:AO} (b:cOp P o=some c.i) {sl:Slots} {s:St} {K:AV->St->Prop} (h:opW P c sl s K) {G:Gh} {w:World} {a:Act} (f:Sim G s w) (k:RepSl G sl a)
  {next:Act->World->Prop} {Q:Exit->Act->World->Prop} (g:∀ v av d s' w',Stp G s w d s' w'->Sim d s' w'->Rep d av v->K av s'->next (a.put o.dst v) w'):o.wp P a w next Q:=by
 unfold cOp at b;cases e:aS P o with
 | some i=>exact As (by rw [e]; rw [e] at b; simpa using b) h f k g
 | none=>
  rw [e] at b;simp only [Option.getD_none,xk] at b;unfold opW at h;rw [<-b] at h;simp [aO,exI,X.ev] at h
theorem oe {P:Program} {n:Nat} {md:Tmp->Md} {h:Array Oper} {Q:Exit->Act->World->Prop} (y:∀ (j:Nat) o t,h[j]?=some o->o.dst=some t->t<n) :
  ∀ (os:List Oper) (cs:List AO),os.mapM (cD P n md h)=some cs->∀ {K:Slots->St->Prop} {sl:Slots} {s:St} {G:Gh} {w:World} {a:Act},aQ P cs K sl s->Sim G s w->RepSl G sl a->n<=a.tmps.size ->
   (∀ l s' d b w',K l s'->Stp G s w d s' w'->Sim d s' w'->RepSl d l b->b.tmps.size=a.tmps.size->b.defers=a.defers->Q .normal b w')->wpList P h Q os a w
 | [],cs,c,K,sl,s,G,w,a,e,u,f,k,q=>by
  simp at c; subst c;exact q sl s G a w e (Stp.refl G s w) u f rfl rfl
 | o::os,cs,c,K,sl,s,G,w,a,e,u,f,k,q=>by
  rw [v1] at c;cases m:cD P n md h o with
  | none=>simp [m] at c
  | some ax=>
   cases p:os.mapM (cD P n md h) with
   | none=>simp [m,p] at c
   | some cs'=>
    simp [m,p] at c;subst c;obtain ⟨Y,O,R,a0,S,a1,a2⟩:=jW m;simp only [aQ] at e;unfold wpList;have U:∀ j W t,o.guard=some (j,W)->(h[j]?).bind (·.dst)=some t->t<a.tmps.size:=by
     intro j W t _ g;cases x:h[j]? with
     | none=>simp [x] at g
     | some aa=>simp [x] at g; exact ro (y j aa t x g) k
    split at e
    ·rename_i v;rw [nZ f U S v,if_neg (by simp)]
     refine oe y os cs' p e u ?_ (by rw [cT]; exact k) ?_
     ·rw [O];exact d8 f (fun t g=>ro (R t g) k) (mt _)
     ·intro l s' d b w' z C D H J M;exact q l s' d b w' z C D H (by rw [J,cT]) (by rw [M,d5])
    ·rename_i v;rw [nZ f U S v,if_pos rfl];refine .inl (tE Y e u f ?_);intro a5 av ap a3 a7 ab ag ai N;split at N
     ·rename_i a6 a4 Z;obtain ⟨ar,al,am,ao⟩:=nY Z ai ag;have T:=ab.trans al;refine oe y os cs' p N.2 am ?_ (by rw [cT]; exact k) ?_
      ·rw [O];exact d8 (f.mono T.le) (fun t g=>ro (R t g) k) ao
      ·intro l s' d b w' z C D H J M;exact q l s' d b w' z (T.trans C) D H (by rw [J,cT]) (by rw [M,d5])
     ·exact N.elim
    ·exact e.elim
end Go.AM
