/- Part of the claim: see its last text. -/
import Derived.Test.YtjhogglgkjcacaaGreatMa28
set_option linter.all false
namespace Go.Wb
open Go.AM
structure Array where
 key:ByteArray
 sizes:List Int
structure Term where
 name:ByteArray
 coef:Int
structure Form where
 const:Int
 terms:List Term
structure Bound where
 form:Form
 div:Int
inductive Expr where
 | mk (op n:Int) (form:Form) (array:ByteArray) (subs:List Form) (args:List Expr)
inductive Step where
 | mk (kind:Int) (name:ByteArray) (low high:List Bound) (conds:List Form) (body:List Step) (array:ByteArray) (subs:List Form) (expr:Expr)
structure Prog where
 arrays:List Array
 steps:List Step
structure Grid where
 key:ByteArray
 values:List Int
structure Slot where
 name:ByteArray
 value:Int
structure Spot where
 array:ByteArray
 cell:Int
abbrev row (l:List (List AV)):AV:=.sl l false
def ak (l:List Int):List (List AV):=l.map fun n=>[.int n]
def ay (l:List ByteArray):List (List AV):=l.map fun s=>[.str s]
def Array.cells (a:Array):List AV:=[.str a.key,row (ak a.sizes)]
def Term.cells (t:Term):List AV:=[.str t.name,.int t.coef]
def Form.cells (f:Form):List AV:=[.int f.const,row (f.terms.map Term.cells)]
def Bound.cells (b:Bound):List AV:=[.int b.form.const,row (b.form.terms.map Term.cells),.int b.div]
def Grid.cells (g:Grid):List AV:=[.str g.key,row (ak g.values)]
def Slot.cells (s:Slot):List AV:=[.str s.name,.int s.value]
def Spot.cells (s:Spot):List AV:=[.str s.array,.int s.cell]
mutual
def Expr.cells:Expr→List AV
 | .mk op n form array subs args=>[.int op,.int n,.int form.const,row (form.terms.map Term.cells),.str array,row (subs.map Form.cells),row (Expr.list args)]
def Expr.list:List Expr→List (List AV)
 | []=>[]
 | e::es=>Expr.cells e::Expr.list es
end
mutual
def Step.cells:Step→List AV
 | .mk kind name low high conds body array subs expr=>[.int kind,.str name,row (low.map Bound.cells),row (high.map Bound.cells),row (conds.map Form.cells),row (Step.list body),.str array,row (subs.map Form.cells)]++expr.cells
def Step.list:List Step→List (List AV)
 | []=>[]
 | e::es=>Step.cells e::Step.list es
end
theorem Expr.list_map:∀ l,Expr.list l=l.map Expr.cells
 | []=>rfl
 | e::es=>by rw [Expr.list,Expr.list_map es]; rfl
theorem Step.list_map:∀ l,Step.list l=l.map Step.cells
 | []=>rfl
 | e::es=>by rw [Step.list,Step.list_map es]; rfl
def Form.av (f:Form):AV:=.agg f.cells
def Bound.av (b:Bound):AV:=.agg b.cells
def Expr.av (e:Expr):AV:=.agg e.cells
def Step.av (e:Step):AV:=.agg e.cells
def Array.av (a:Array):AV:=.agg a.cells
def Grid.av (a:Grid):AV:=.agg a.cells
def Prog.av (p:Prog):AV:=.agg [row (p.arrays.map Array.cells),row (p.steps.map Step.cells)]
theorem cI {α:Type} {f:α→List AV} (h:∀ x,aQ (f x)=f x):∀ l:List α,aW (l.map f)=l.map f
 | []=>rfl
 | x::l=>by simp [aW,h x,cI h l]
@[simp] theorem AK (v:Value):norm (.sc v)=.sc v:=rfl
@[simp] theorem zH (l:List (List AV)):norm (row l)=row (aW l):=rfl
@[simp] theorem yb (l:List Int):aW (ak l)=ak l:=cI (fun _=>rfl) l
@[simp] theorem yd (l:List ByteArray):aW (ay l)=ay l:=cI (fun _=>rfl) l
@[simp] theorem qP (l:List Term):aW (l.map Term.cells)=l.map Term.cells:=cI (fun _=>rfl) l
@[simp] theorem qQ (a:Array):aQ a.cells=a.cells:=by simp [Array.cells,aQ]
@[simp] theorem np (a:Form):aQ a.cells=a.cells:=by simp [Form.cells,aQ]
@[simp] theorem qR (a:Bound):aQ a.cells=a.cells:=by simp [Bound.cells,aQ]
@[simp] theorem rO (a:Grid):aQ a.cells=a.cells:=by simp [Grid.cells,aQ]
@[simp] theorem yf (a:Slot):aQ a.cells=a.cells:=by simp [Slot.cells,aQ]
@[simp] theorem rP (a:Spot):aQ a.cells=a.cells:=by simp [Spot.cells,aQ]
@[simp] theorem qO (l:List Form):aW (l.map Form.cells)=l.map Form.cells:=cI np l
@[simp] theorem wJ (l:List Bound):aW (l.map Bound.cells)=l.map Bound.cells:=cI qR l
@[simp] theorem qh (l:List Array):aW (l.map Array.cells)=l.map Array.cells:=cI qQ l
@[simp] theorem xc (l:List Grid):aW (l.map Grid.cells)=l.map Grid.cells:=cI rO l
mutual
theorem ie:∀ e:Expr,aQ e.cells=e.cells
 | .mk op n form array subs args=>by simp [Expr.cells,aQ,jy args]
theorem jy:∀ l:List Expr,aW (Expr.list l)=Expr.list l
 | []=>rfl
 | e::es=>by simp [Expr.list,aW,ie e,jy es]
end
mutual
theorem jV:∀ e:Step,aQ e.cells=e.cells
 | .mk kind name low high conds body array subs expr=>by simp [Step.cells,aQ,jz body,ie expr]
theorem jz:∀ l:List Step,aW (Step.list l)=Step.list l
 | []=>rfl
 | e::es=>by simp [Step.list,aW,jV e,jz es]
end
attribute [simp] ie jV
@[simp] theorem xe (l:List Step):aW (l.map Step.cells)=l.map Step.cells:=cI jV l
@[simp] theorem xb (l:List Expr):aW (l.map Expr.cells)=l.map Expr.cells:=cI ie l
@[simp] theorem yV (f:Form):norm f.av=f.av:=by simp [Form.av,norm]
@[simp] theorem yh (f:Bound):norm f.av=f.av:=by simp [Bound.av,norm]
@[simp] theorem yU (f:Expr):norm f.av=f.av:=by simp [Expr.av,norm]
@[simp] theorem y8 (f:Step):norm f.av=f.av:=by simp [Step.av,norm]
@[simp] theorem yg (f:Array):norm f.av=f.av:=by simp [Array.av,norm]
@[simp] theorem yW (f:Grid):norm f.av=f.av:=by simp [Grid.av,norm]
@[simp] theorem yY (f:Prog):norm f.av=f.av:=by simp [Prog.av,norm,aQ]
end Go.Wb
