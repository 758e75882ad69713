/- Part of the claim: see its last text. -/
import Derived.Test.YtocppbmmfklbmaaGreatMa28
set_option linter.all false
namespace Go.Wb
open Go.AM
structure Array where
 key:ByteArray
 sizes:List Int
structure Term where
 name:ByteArray
 coef:Int
structure Form where
 const:Int
 terms:List Term
structure Bound where
 form:Form
 div:Int
inductive Expr where
 | mk (op n:Int) (form:Form) (array:ByteArray) (subs:List Form) (args:List Expr)
inductive Step where
 | mk (kind:Int) (name:ByteArray) (low high:List Bound) (conds:List Form) (body:List Step) (array:ByteArray) (subs:List Form) (expr:Expr)
structure Prog where
 arrays:List Array
 steps:List Step
structure Grid where
 key:ByteArray
 values:List Int
structure Slot where
 name:ByteArray
 value:Int
structure Spot where
 array:ByteArray
 cell:Int
abbrev row (l:List (List AV)):AV:=.sl l false
def aj (l:List Int):List (List AV):=l.map fun n=>[.int n]
def aB (l:List ByteArray):List (List AV):=l.map fun s=>[.str s]
def uZ (l:List Bool):List (List AV):=l.map fun b=>[.bool b]
def Array.cells (a:Array):List AV:=[.str a.key,row (aj a.sizes)]
def Term.cells (t:Term):List AV:=[.str t.name,.int t.coef]
def Form.cells (f:Form):List AV:=[.int f.const,row (f.terms.map Term.cells)]
def Bound.cells (b:Bound):List AV:=[.int b.form.const,row (b.form.terms.map Term.cells),.int b.div]
def Grid.cells (g:Grid):List AV:=[.str g.key,row (aj g.values)]
def Slot.cells (s:Slot):List AV:=[.str s.name,.int s.value]
def Spot.cells (s:Spot):List AV:=[.str s.array,.int s.cell]
mutual
def Expr.cells:Expr→List AV
 | .mk op n form array subs args=>[.int op,.int n,.int form.const,row (form.terms.map Term.cells),.str array,row (subs.map Form.cells),row (Expr.list args)]
def Expr.list:List Expr→List (List AV)
 | []=>[]
 | e::es=>Expr.cells e::Expr.list es
end
mutual
def Step.cells:Step→List AV
 | .mk kind name low high conds body array subs expr=>[.int kind,.str name,row (low.map Bound.cells),row (high.map Bound.cells),row (conds.map Form.cells),row (Step.list body),.str array,row (subs.map Form.cells)]++expr.cells
def Step.list:List Step→List (List AV)
 | []=>[]
 | e::es=>Step.cells e::Step.list es
end
theorem Expr.list_map:∀ l,Expr.list l=l.map Expr.cells
 | []=>rfl
 | e::es=>by rw [Expr.list,Expr.list_map es]; rfl
theorem Step.list_map:∀ l,Step.list l=l.map Step.cells
 | []=>rfl
 | e::es=>by rw [Step.list,Step.list_map es]; rfl
def Form.av (f:Form):AV:=.agg f.cells
def Bound.av (b:Bound):AV:=.agg b.cells
def Expr.av (e:Expr):AV:=.agg e.cells
def Step.av (e:Step):AV:=.agg e.cells
def Array.av (a:Array):AV:=.agg a.cells
def Grid.av (a:Grid):AV:=.agg a.cells
def Prog.av (p:Prog):AV:=.agg [row (p.arrays.map Array.cells),row (p.steps.map Step.cells)]
theorem cN {α:Type} {f:α→List AV} (h:∀ x,aT (f x)=f x):∀ l:List α,bo (l.map f)=l.map f
 | []=>rfl
 | x::l=>by simp [bo,h x,cN h l]
@[simp] theorem AU (v:Value):norm (.sc v)=.sc v:=rfl
@[simp] theorem zI (l:List (List AV)):norm (row l)=row (bo l):=rfl
@[simp] theorem ya (l:List Int):bo (aj l)=aj l:=cN (fun _=>rfl) l
@[simp] theorem xV (l:List ByteArray):bo (aB l)=aB l:=cN (fun _=>rfl) l
@[simp] theorem xh (l:List Bool):bo (uZ l)=uZ l:=cN (fun _=>rfl) l
@[simp] theorem qU (l:List Term):bo (l.map Term.cells)=l.map Term.cells:=cN (fun _=>rfl) l
@[simp] theorem qT (a:Array):aT a.cells=a.cells:=by simp [Array.cells,aT]
@[simp] theorem nX (a:Form):aT a.cells=a.cells:=by simp [Form.cells,aT]
@[simp] theorem qX (a:Bound):aT a.cells=a.cells:=by simp [Bound.cells,aT]
@[simp] theorem rW (a:Grid):aT a.cells=a.cells:=by simp [Grid.cells,aT]
@[simp] theorem xp (a:Slot):aT a.cells=a.cells:=by simp [Slot.cells,aT]
@[simp] theorem si (a:Spot):aT a.cells=a.cells:=by simp [Spot.cells,aT]
@[simp] theorem qY (l:List Form):bo (l.map Form.cells)=l.map Form.cells:=cN nX l
@[simp] theorem wD (l:List Bound):bo (l.map Bound.cells)=l.map Bound.cells:=cN qX l
@[simp] theorem qh (l:List Array):bo (l.map Array.cells)=l.map Array.cells:=cN qT l
@[simp] theorem wZ (l:List Grid):bo (l.map Grid.cells)=l.map Grid.cells:=cN rW l
mutual
theorem ip:∀ e:Expr,aT e.cells=e.cells
 | .mk op n form array subs args=>by simp [Expr.cells,aT,jG args]
theorem jG:∀ l:List Expr,bo (Expr.list l)=Expr.list l
 | []=>rfl
 | e::es=>by simp [Expr.list,bo,ip e,jG es]
end
theorem qe:∀ (a b:List AV),aT (a++b)=aT a++aT b
 | [],b=>rfl
 | x::a,b=>by simp [aT,qe a b]
mutual
theorem jV:∀ e:Step,aT e.cells=e.cells
 | .mk kind name low high conds body array subs expr=>by simp [Step.cells,aT,jE body,ip expr]
theorem jE:∀ l:List Step,bo (Step.list l)=Step.list l
 | []=>rfl
 | e::es=>by simp [Step.list,bo,jV e,jE es]
end
attribute [simp] ip jV
@[simp] theorem wN (l:List Step):bo (l.map Step.cells)=l.map Step.cells:=cN jV l
@[simp] theorem wW (l:List Expr):bo (l.map Expr.cells)=l.map Expr.cells:=cN ip l
@[simp] theorem yJ (f:Form):norm f.av=f.av:=by simp [Form.av,norm]
@[simp] theorem xU (f:Bound):norm f.av=f.av:=by simp [Bound.av,norm]
@[simp] theorem y7 (f:Expr):norm f.av=f.av:=by simp [Expr.av,norm]
@[simp] theorem ze (f:Step):norm f.av=f.av:=by simp [Step.av,norm]
@[simp] theorem xr (f:Array):norm f.av=f.av:=by simp [Array.av,norm]
@[simp] theorem yX (f:Grid):norm f.av=f.av:=by simp [Grid.av,norm]
@[simp] theorem yE (f:Prog):norm f.av=f.av:=by simp [Prog.av,norm,aT]
end Go.Wb
