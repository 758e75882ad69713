/- Part of the claim: see its last text. -/
import Derived.Test.YtocppbmmfklbmaaGreatMa28
set_option linter.all false
namespace Go.Wb
open Go.AM
structure Array where
 key:ByteArray
 sizes:List Int
structure Term where
 name:ByteArray
 coef:Int
structure Form where
 const:Int
 terms:List Term
structure Bound where
 form:Form
 div:Int
inductive Expr where
 | mk (op n:Int) (form:Form) (array:ByteArray) (subs:List Form) (args:List Expr)
inductive Step where
 | mk (kind:Int) (name:ByteArray) (low high:List Bound) (conds:List Form) (body:List Step) (array:ByteArray) (subs:List Form) (expr:Expr)
structure Prog where
 arrays:List Array
 steps:List Step
structure Grid where
 key:ByteArray
 values:List Int
structure Slot where
 name:ByteArray
 value:Int
structure Spot where
 array:ByteArray
 cell:Int
abbrev row (l:List (List AV)):AV:=.sl l false
def ak (l:List Int):List (List AV):=l.map fun n=>[.int n]
def ay (l:List ByteArray):List (List AV):=l.map fun s=>[.str s]
def Array.cells (a:Array):List AV:=[.str a.key,row (ak a.sizes)]
def Term.cells (t:Term):List AV:=[.str t.name,.int t.coef]
def Form.cells (f:Form):List AV:=[.int f.const,row (f.terms.map Term.cells)]
def Bound.cells (b:Bound):List AV:=[.int b.form.const,row (b.form.terms.map Term.cells),.int b.div]
def Grid.cells (g:Grid):List AV:=[.str g.key,row (ak g.values)]
def Slot.cells (s:Slot):List AV:=[.str s.name,.int s.value]
def Spot.cells (s:Spot):List AV:=[.str s.array,.int s.cell]
mutual
def Expr.cells:Expr→List AV
 | .mk op n form array subs args=>[.int op,.int n,.int form.const,row (form.terms.map Term.cells),.str array,row (subs.map Form.cells),row (Expr.list args)]
def Expr.list:List Expr→List (List AV)
 | []=>[]
 | e::es=>Expr.cells e::Expr.list es
end
mutual
def Step.cells:Step→List AV
 | .mk kind name low high conds body array subs expr=>[.int kind,.str name,row (low.map Bound.cells),row (high.map Bound.cells),row (conds.map Form.cells),row (Step.list body),.str array,row (subs.map Form.cells)]++expr.cells
def Step.list:List Step→List (List AV)
 | []=>[]
 | e::es=>Step.cells e::Step.list es
end
theorem Expr.list_map:∀ l,Expr.list l=l.map Expr.cells
 | []=>rfl
 | e::es=>by rw [Expr.list,Expr.list_map es]; rfl
theorem Step.list_map:∀ l,Step.list l=l.map Step.cells
 | []=>rfl
 | e::es=>by rw [Step.list,Step.list_map es]; rfl
def Form.av (f:Form):AV:=.agg f.cells
def Bound.av (b:Bound):AV:=.agg b.cells
def Expr.av (e:Expr):AV:=.agg e.cells
def Step.av (e:Step):AV:=.agg e.cells
def Array.av (a:Array):AV:=.agg a.cells
def Grid.av (a:Grid):AV:=.agg a.cells
def Prog.av (p:Prog):AV:=.agg [row (p.arrays.map Array.cells),row (p.steps.map Step.cells)]
theorem b8 {α:Type} {f:α→List AV} (h:∀ x,aQ (f x)=f x):∀ l:List α,aX (l.map f)=l.map f
 | []=>rfl
 | x::l=>by simp [aX,h x,b8 h l]
@[simp] theorem Af (v:Value):norm (.sc v)=.sc v:=rfl
@[simp] theorem za (l:List (List AV)):norm (row l)=row (aX l):=rfl
@[simp] theorem rz (l:List Int):aX (ak l)=ak l:=b8 (fun _=>rfl) l
@[simp] theorem xC (l:List ByteArray):aX (ay l)=ay l:=b8 (fun _=>rfl) l
@[simp] theorem qC (l:List Term):aX (l.map Term.cells)=l.map Term.cells:=b8 (fun _=>rfl) l
@[simp] theorem qD (a:Array):aQ a.cells=a.cells:=by simp [Array.cells,aQ]
@[simp] theorem nf (a:Form):aQ a.cells=a.cells:=by simp [Form.cells,aQ]
@[simp] theorem qE (a:Bound):aQ a.cells=a.cells:=by simp [Bound.cells,aQ]
@[simp] theorem rA (a:Grid):aQ a.cells=a.cells:=by simp [Grid.cells,aQ]
@[simp] theorem xE (a:Slot):aQ a.cells=a.cells:=by simp [Slot.cells,aQ]
@[simp] theorem rB (a:Spot):aQ a.cells=a.cells:=by simp [Spot.cells,aQ]
@[simp] theorem qB (l:List Form):aX (l.map Form.cells)=l.map Form.cells:=b8 nf l
@[simp] theorem wi (l:List Bound):aX (l.map Bound.cells)=l.map Bound.cells:=b8 qE l
@[simp] theorem pV (l:List Array):aX (l.map Array.cells)=l.map Array.cells:=b8 qD l
@[simp] theorem wy (l:List Grid):aX (l.map Grid.cells)=l.map Grid.cells:=b8 rA l
mutual
theorem gZ:∀ e:Expr,aQ e.cells=e.cells
 | .mk op n form array subs args=>by simp [Expr.cells,aQ,jn args]
theorem jn:∀ l:List Expr,aX (Expr.list l)=Expr.list l
 | []=>rfl
 | e::es=>by simp [Expr.list,aX,gZ e,jn es]
end
mutual
theorem jN:∀ e:Step,aQ e.cells=e.cells
 | .mk kind name low high conds body array subs expr=>by simp [Step.cells,aQ,jo body,gZ expr]
theorem jo:∀ l:List Step,aX (Step.list l)=Step.list l
 | []=>rfl
 | e::es=>by simp [Step.list,aX,jN e,jo es]
end
attribute [simp] gZ jN
@[simp] theorem wB (l:List Step):aX (l.map Step.cells)=l.map Step.cells:=b8 jN l
@[simp] theorem wx (l:List Expr):aX (l.map Expr.cells)=l.map Expr.cells:=b8 gZ l
@[simp] theorem yr (f:Form):norm f.av=f.av:=by simp [Form.av,norm]
@[simp] theorem xG (f:Bound):norm f.av=f.av:=by simp [Bound.av,norm]
@[simp] theorem yq (f:Expr):norm f.av=f.av:=by simp [Expr.av,norm]
@[simp] theorem yz (f:Step):norm f.av=f.av:=by simp [Step.av,norm]
@[simp] theorem xF (f:Array):norm f.av=f.av:=by simp [Array.av,norm]
@[simp] theorem yu (f:Grid):norm f.av=f.av:=by simp [Grid.av,norm]
@[simp] theorem yw (f:Prog):norm f.av=f.av:=by simp [Prog.av,norm,aQ]
end Go.Wb
