/- Printed code of functions; checked by the kernel. -/
import Derived.Test.YtjhogglgkjcacaaGreatMa36
import Derived.Test.YtjhogglgkjcacaaGreatProg
import Derived.KernelRfl
set_option linter.all false
namespace Go.Proofs.YtjhogglgkjcacaaGreat
open Go.AM
def Fn102.ac:AC:=Sq [Oc 8 (.int 0)]<|.seq (Sq [Om 14 1,Oe 15 14,Oc 16 (.int 0)]<|.block 0<|.loop<|Sq [Oo 17 (.bin .sc .lss (.t 16) (.t 15))]<|.seq (.cond (.t 17) (.skip) (.exit 0))<|.seq (.block 1<|Sq [Oo 18 (.ia 15 (.t 14) (.t 16)),Oo 19 (.ld (some 15) (.t 18)),Oo 10 (.al [.int 0,.str ⟨#[]⟩,.nil,.nil,.nil,.nil,.str ⟨#[]⟩,.nil,.int 0,.int 0,.int 0,.nil,.str ⟨#[]⟩,.nil,.nil]),Ow (.st 15 (.t 10) (.t 19))]<|Sq [Om 20 0,On 21 20,Of 22 3 21,Ol 23 22,Oo 24 (.bin .sc .add (.t 23) (.c (.int 1))),On 25 20,Of 26 3 25,Ow (.st 1 (.t 26) (.t 24))]<|.seq (Sq [Om 27 3,Oo 28 (.bin .sc .gtr (.t 27) (.c (.int 12)))]<|.cond (.t 28) (Sq [Oc 8 (.int 2)]<|.ret) (.skip))<|.seq (Sq [Om 29 0,Oo 30 (.ld (some 15) (.t 10)),Om 31 2,Oo 32 (.call 174 [(.t 29),(.t 30),(.t 31)]),Om 11 32]<|Sq [Om 33 11,Oo 34 (.bin .sc .neq (.t 33) (.c (.int 0)))]<|.cond (.t 34) (Sq [Om 35 11,Om 8 35]<|.ret) (.skip))<|Sq [Om 36 2,Om 12 36]<|.seq (Sq [Of 37 0 10,Ol 38 37,Oo 39 (.bin .sc .eql (.t 38) (.c (.int 1)))]<|.cond (.t 39) (.ops [Om 40 2,Of 42 1 10,Ol 43 42,Oo 44 (.bs 1 [.str ⟨#[]⟩] 1 [(0,(.t 43))]),⟨(some 41),none,.plain,.call 140 [(.t 40)],[(43,none,.ld none (.t 42))]⟩,⟨(some 45),none,.fz,.ap 1 16 (.t 41) (.t 44),[]⟩,Om 12 45]) (.skip))<|Sq [Om 46 0,Of 47 5 10,Ol 48 47,Om 49 12,Om 50 3,Oo 51 (.bin .sc .add (.t 50) (.c (.int 1))),Oo 52 (.call 102 [(.t 46),(.t 48),(.t 49),(.t 51)]),Om 13 52]<|Sq [Om 53 13,Oo 54 (.bin .sc .neq (.t 53) (.c (.int 0)))]<|.cond (.t 54) (Sq [Om 55 13,Om 8 55]<|.ret) (.skip))<|.ops [Oo 56 (.bin .sc .add (.t 16) (.c (.int 1))),Om 16 56])<|Sq [Oc 8 (.int 0)]<|.ret
abbrev Fn102.n:Nat:=102
abbrev Fn102.W0:List Nat:=[8,10,11,12,13,16,17,18,19,20,21,22,23,24,25,26,27,28,29,30,31,32,33,34,35,36,37,38,39,40,41,42,43,44,45,46,47,48,49,50,51,52,53,54,55,56]
def Fn102.md:Tmp→Md:=fun t=>match t with | 45=>.fz | _=>.plain
def Fn102.pl:Nat→PL:=fun t=>match t with | 12=>.one [⟨0,[],[]⟩,⟨2,[],[]⟩,⟨3,[2],[]⟩,⟨4,[2,3],[]⟩,⟨1,[0],[3]⟩,⟨5,[0,1,2,3,4],[]⟩,⟨6,[0,1,2,3,4,5],[]⟩] | _=>.one []
theorem Fn102.calls:aj Tryz.prog 102 Fn102.ac [.t 8]:=fun {args s R} q h=>@af Tryz.prog 102 Tryz.f102 ((Tryz.f102.body).getD .skip) Fn102.ac [.t 8] Fn102.md q Tryz.call102 Tryz.func102 (by kernel_rfl) Fn102.pl (by kernel_rfl) (by kernel_rfl) args s R h
def Fn103.ac:AC:=Sq [Oc 4 (.int 0)]<|Sq [Om 5 0,Om 6 1,Oo 7 (.call 175 [(.t 5),(.t 6)]),Om 4 7]<|.ret
abbrev Fn103.n:Nat:=103
theorem Fn103.calls:aj Tryz.prog 103 Fn103.ac [.t 4]:=fun {args s R} q h=>@af Tryz.prog 103 Tryz.f103 ((Tryz.f103.body).getD .skip) Fn103.ac [.t 4] Pmd q Tryz.call103 Tryz.func103 (by kernel_rfl) Ppl (by kernel_rfl) (by kernel_rfl) args s R h
def Fn104.ac:AC:=Sq [Oc 4 (.int 0)]<|.seq (Sq [Om 6 0,Oe 7 6,Oc 8 (.int 0)]<|.block 0<|.loop<|Sq [Oo 9 (.bin .sc .lss (.t 8) (.t 7))]<|.seq (.cond (.t 9) (.skip) (.exit 0))<|.seq (.block 1<|Sq [Om 10 8,Om 5 10]<|Sq [Om 11 1,Om 12 0,Om 13 5,Oo 14 (.ia 1 (.t 12) (.t 13)),Ol 15 14,Oo 16 (.bin .sc .eql (.t 11) (.t 15))]<|.cond (.t 16) (Sq [Om 17 5,Om 4 17]<|.ret) (.skip))<|.ops [Oo 18 (.bin .sc .add (.t 8) (.c (.int 1))),Om 8 18])<|Sq [Oc 4 (.int (-1))]<|.ret
abbrev Fn104.n:Nat:=104
abbrev Fn104.W0:List Nat:=[4,5,8,9,10,11,12,13,14,15,16,17,18]
theorem Fn104.calls:aj Tryz.prog 104 Fn104.ac [.t 4]:=fun {args s R} q h=>@af Tryz.prog 104 Tryz.f104 ((Tryz.f104.body).getD .skip) Fn104.ac [.t 4] Pmd q Tryz.call104 Tryz.func104 (by kernel_rfl) Ppl (by kernel_rfl) (by kernel_rfl) args s R h
def Fn117.ac:AC:=Sq [Oo 2 (.bx (.t 0) 2),Oo 3 (.bx (.t 1) 1),Oc 4 (.int 0)]<|Sq [Of 5 0 2,Ol 6 5,Oo 7 (.mf 187 [] [(.t 3)]),Oo 8 (.call 153 [(.t 6),(.t 7)]),Om 4 8]<|.ret
abbrev Fn117.n:Nat:=117
theorem Fn117.calls:aj Tryz.prog 117 Fn117.ac [.t 4]:=fun {args s R} q h=>@af Tryz.prog 117 Tryz.f117 ((Tryz.f117.body).getD .skip) Fn117.ac [.t 4] Pmd q Tryz.call117 Tryz.func117 (by kernel_rfl) Ppl (by kernel_rfl) (by kernel_rfl) args s R h
def Fn118.ac:AC:=Sq [Oo 1 (.bx (.t 0) 2),Oc 2 (.int 0)]<|Sq [Oc 3 (.int 1)]<|.seq (Sq [Of 6 1 1,Ol 7 6,Oe 8 7,Oc 9 (.int 0)]<|.block 0<|.loop<|Sq [Oo 10 (.bin .sc .lss (.t 9) (.t 8))]<|.seq (.cond (.t 10) (.skip) (.exit 0))<|.seq (.block 1<|Sq [Oo 11 (.ia 1 (.t 7) (.t 9)),Ol 12 11,Om 5 12]<|.ops [Om 13 3,Om 14 5,Oo 15 (.bin .sc .mul (.t 13) (.t 14)),Om 3 15])<|.ops [Oo 16 (.bin .sc .add (.t 9) (.c (.int 1))),Om 9 16])<|Sq [Om 17 3,Om 2 17]<|.ret
abbrev Fn118.n:Nat:=118
abbrev Fn118.W0:List Nat:=[3,5,9,10,11,12,13,14,15,16]
theorem Fn118.calls:aj Tryz.prog 118 Fn118.ac [.t 2]:=fun {args s R} q h=>@af Tryz.prog 118 Tryz.f118 ((Tryz.f118.body).getD .skip) Fn118.ac [.t 2] Pmd q Tryz.call118 Tryz.func118 (by kernel_rfl) Ppl (by kernel_rfl) (by kernel_rfl) args s R h
end Go.Proofs.YtjhogglgkjcacaaGreat
