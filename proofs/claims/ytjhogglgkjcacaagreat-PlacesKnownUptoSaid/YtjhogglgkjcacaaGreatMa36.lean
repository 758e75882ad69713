/- Part of the claim: see its last text. -/
import Derived.Test.YtjhogglgkjcacaaGreatMa31
import Derived.Test.YtjhogglgkjcacaaGreatMa30
set_option linter.all false
namespace Go.AM
abbrev Om (d s:Nat):AO:=⟨some d,none,.plain,.mv (.t s),[]⟩
abbrev Oc (d:Nat) (a:AV):AO:=⟨some d,none,.plain,.mv (.c a),[]⟩
abbrev Oo (d:Nat) (i:I):AO:=⟨some d,none,.plain,i,[]⟩
abbrev Ow (i:I):AO:=⟨none,none,.plain,i,[]⟩
abbrev Og (d t:Nat) (i:I):AO:=⟨some d,some (t,true),.plain,i,[]⟩
abbrev Oh (d t s:Nat):AO:=⟨some d,some (t,true),.plain,.mv (.t s),[]⟩
abbrev Ol (d s:Nat):AO:=⟨some d,none,.plain,.ld none (.t s),[]⟩
abbrev Of (d k s:Nat):AO:=⟨some d,none,.plain,.fa k (.t s),[]⟩
abbrev On (d s:Nat):AO:=⟨some d,none,.plain,.nc (.t s),[]⟩
abbrev Oe (d s:Nat):AO:=⟨some d,none,.plain,.len 1 (.t s),[]⟩
abbrev aj (P:Program) (n:FuncId) (ac:AC) (r:List RX):Prop:=∀ {args:List AV} {s:St} {R:AV→St→Prop} (q:RM),acW P ac (l8 q r s R) (nB args) s→ACalls P n args s R
abbrev Sq (l:List AO) (a:AC):AC:=.seq (.ops l) a
abbrev Pmd:Tmp→Md:=fun _=>.plain
abbrev Ppl:Nat→PL:=fun _=>.one []
end Go.AM
