/- Part of the claim: see its last text. -/
import Derived.Test.YtjhogglgkjcacaaGreatMa32
set_option linter.all false
namespace Go.AM
def an (x:AV) (k:Nat):Prop:=∃ sz off n,x=.row k sz off n
theorem au {g sz off n k:Nat}:an (.row g sz off n) k↔k=g:=by
 constructor
 ·rintro ⟨_,_,_,h⟩; injection h with h; exact h.symm
 ·rintro rfl; exact ⟨_,_,_,rfl⟩
theorem aK {es:List (List AV)} {b:Bool} {k:Nat}:¬an (.sl es b) k:=by rintro ⟨_,_,_,h⟩; cases h
def RowPre (h:Heap) (sz:Nat) (x:AV) (es:List (List AV)):Prop:=(x=.sl [] true∧es=[])∨∃ g full,x=.row g sz 0 es.length∧h g=some (.row sz (es++full) .live none)
def RowAt (h:Heap) (sz:Nat) (x:AV) (es:List (List AV)):Prop:=(x=.sl [] true∧es=[])∨∃ g,x=.row g sz 0 es.length∧h g=some (.row sz es .live none)
theorem RowPre.frame {h h':Heap} {sz:Nat} {x:AV} {es:List (List AV)} (r:RowPre h sz x es) (hh:∀ k,an x k→h' k=h k):RowPre h' sz x es:=by
 rcases r with r | ⟨g,full,rfl,hg⟩
 ·exact .inl r
 ·exact .inr ⟨g,full,rfl,(hh g (au.2 rfl)).trans hg⟩
theorem RowAt.frame {h h':Heap} {sz:Nat} {x:AV} {es:List (List AV)} (r:RowAt h sz x es) (hh:∀ k,an x k→h' k=h k):RowAt h' sz x es:=by
 rcases r with r | ⟨g,rfl,hg⟩
 ·exact .inl r
 ·exact .inr ⟨g,rfl,(hh g (au.2 rfl)).trans hg⟩
theorem RowAt.pre {h:Heap} {sz:Nat} {x:AV} {es:List (List AV)} (r:RowAt h sz x es):RowPre h sz x es:=by
 rcases r with r | ⟨g,rfl,hg⟩
 ·exact .inl r
 ·exact .inr ⟨g,[],rfl,by simpa using hg⟩
theorem RowAt.cell {h:Heap} {sz:Nat} {x:AV} {es:List (List AV)} (r:RowAt h sz x es):x.cell=true:=by
 rcases r with ⟨rfl,_⟩ | ⟨g,rfl,hg⟩ <;> rfl
theorem RowPre.cell {h:Heap} {sz:Nat} {x:AV} {es:List (List AV)} (r:RowPre h sz x es):x.cell=true:=by
 rcases r with ⟨rfl,_⟩ | ⟨g,_,rfl,hg⟩ <;> rfl
theorem RowPre.len {h:Heap} {sz:Nat} {x:AV} {es:List (List AV)} (r:RowPre h sz x es) (s:St):ee 1 x s=some (.int es.length):=by
 rcases r with ⟨rfl,rfl⟩ | ⟨g,_,rfl,hg⟩ <;> rfl
theorem RowAt.len {h:Heap} {sz:Nat} {x:AV} {es:List (List AV)} (r:RowAt h sz x es) (s:St):ee 1 x s=some (.int es.length):=r.pre.len s
theorem RowPre.norm {h:Heap} {sz:Nat} {x:AV} {es:List (List AV)} (r:RowPre h sz x es):x=.sl [] true∧es=[]∨norm x=x:=by
 rcases r with r | ⟨g,_,rfl,hg⟩
 ·exact .inl r
 ·exact .inr rfl
theorem we {α:Type} {es full:List α} {b x:α}:(es++b::full).set es.length x=es++x::full:=by
 rw [List.set_append_right _ _ (Nat.le_refl _),Nat.sub_self,List.set_cons_zero]
theorem RowPre.push {sz bytes:Nat} {md:Md} {x:AV} {es:List (List AV)} {h:Heap} {c:Nat} (r:RowPre h sz x es) (hmd:md≠.fork) (h0:0<sz) (hb:0<bytes) (hb':bytes≤2048) {e:List AV} {b:Bool} (he:aB sz e=true) (hes:∀ e∈es,aB sz e=true) (hm:es.length+1≤68719476736) (hx:∀ k,an x k→k<c) :
  ∃ x' h' c',apI sz bytes md x (.sl [e] b) ⟨h,c⟩=some (x',⟨h',c'⟩)∧RowPre h' sz x' (es++[e])∧c≤c'∧(∀ k,an x' k→an x k∨(k=c∧c<c'))∧(∀ k,k≠c→¬an x k→h' k=h k)∧(c'=c→h' c=h c∨an x c)∧∃ g,x'=.row g sz 0 (es.length+1):=by
 rcases r with ⟨rfl,rfl⟩ | ⟨g,full,rfl,hg⟩
 ·have:=cZ (sz:=sz) (bytes:=bytes) (md:=md) (es:=[]) (xs:=[e]) (b:=b) (s:=⟨h,c⟩) h0 hb hb' (by simp) (fun y hy=>by simp at hy; rw [hy]; exact he) (by simp) (.inr rfl)
  refine ⟨_,_,_,this,.inr ⟨c,[],rfl,?_⟩,by simp [newRow],fun k hk=>?_,fun k hk _=>?_,fun hc=>?_,c,rfl⟩
  ·simp [newRow]
  ·have:=au.1 hk; exact .inr ⟨this,by simp [newRow]⟩
  ·simp [newRow,ad hk]
  ·simp [newRow] at hc
 ·cases full with
  | nil=>
   have hgc:g<c:=hx g (au.2 rfl)
   have hg':h g=some (.row sz es .live none):=by simpa using hg
   have:=bV (sz:=sz) (bytes:=bytes) (md:=md) (x:=e) (b:=b) (s:=⟨h,c⟩) hmd hg' rfl h0 hb hb' he hm
   refine ⟨_,_,_,this,.inr ⟨c,[],by simp,?_⟩,by simp,fun k hk=>?_,fun k hk hk2=>?_,fun hc=>?_,c,rfl⟩
   ·simp
   ·have:=au.1 hk; exact .inr ⟨this,by simp⟩
   ·have:k≠g:=fun e=>hk2 (au.2 e)
    show upd (upd h g none) c _ k=h k
    rw [ad hk,ad this]
   ·simp at hc
  | cons y full=>
   have h1:[e].all (aB sz)=true:=List.all_eq_true.2 fun z hz=>by rw [List.mem_singleton.1 hz]; exact he
   have hlen:es.length≠(es++y::full).length:=by simp
   have hle:es.length+1≤(es++y::full).length:=by simp
   have htk:(es++y::full).take es.length=es:=by simp
   have hdr:(es++y::full).drop (es.length+1)=full:=by
    rw [List.drop_append,List.drop_of_length_le (by omega)]
    simp [show es.length+1-es.length=1 by omega]
   have hap:apI sz bytes md (.row g sz 0 es.length) (.sl [e] b) ⟨h,c⟩=some (.row g sz 0 (es.length+1),⟨upd h g (some (.row sz (es++[e]++full) .live none)),c⟩):=by
    simp only [apI,St.show_,h0,hb,h1,dT,and_self,if_true,hg,hb',List.length_cons,List.length_nil,Nat.zero_add,hm,if_neg hlen,hle]
    rw [htk,hdr]
   refine ⟨_,_,_,hap,.inr ⟨g,full,by simp,by rw [ah]⟩,Nat.le_refl _,fun k hk=>.inl (au.2 (au.1 hk)),fun k hk hk2=>ad fun e=>hk2 (au.2 e),fun _=>?_,g,rfl⟩
   by_cases hcg:c=g
   ·exact .inr (au.2 hcg)
   ·exact .inl (ad hcg)
theorem RowAt.push {sz bytes:Nat} {md:Md} {x:AV} {es:List (List AV)} {h:Heap} {c:Nat} (r:RowAt h sz x es) (hmd:md≠.fork) (h0:0<sz) (hb:0<bytes) (hb':bytes≤2048) {e:List AV} {b:Bool} (he:aB sz e=true) (hes:∀ e∈es,aB sz e=true) (hm:es.length+1≤68719476736) (hx:∀ k,an x k→k<c) :
  ∃ h',apI sz bytes md x (.sl [e] b) ⟨h,c⟩=some (.row c sz 0 (es.length+1),⟨h',c+1⟩)∧h' c=some (.row sz (es++[e]) .live none)∧RowAt h' sz (.row c sz 0 (es.length+1)) (es++[e])∧(∀ k,k≠c→¬an x k→h' k=h k):=by
 rcases r with ⟨rfl,rfl⟩ | ⟨g,rfl,hg⟩
 ·have:=cZ (sz:=sz) (bytes:=bytes) (md:=md) (es:=[]) (xs:=[e]) (b:=b) (s:=⟨h,c⟩) h0 hb hb' (by simp) (fun y hy=>by simp at hy; rw [hy]; exact he) (by simp) (.inr rfl)
  refine ⟨_,this,by simp [newRow],.inr ⟨c,rfl,by simp [newRow]⟩,fun k hk _=>by simp [newRow,ad hk]⟩
 ·have hgc:g<c:=hx g (au.2 rfl)
  have:=bV (sz:=sz) (bytes:=bytes) (md:=md) (x:=e) (b:=b) (s:=⟨h,c⟩) hmd hg rfl h0 hb hb' he hm
  refine ⟨_,this,ah,.inr ⟨c,by simp,ah⟩,fun k hk hk2=>?_⟩
  have:k≠g:=fun e=>hk2 (au.2 e)
  show upd (upd h g none) c _ k=h k
  rw [ad hk,ad this]
theorem RowPre.pop {h:Heap} {sz:Nat} {x:AV} {es:List (List AV)} {e:List AV} (r:RowPre h sz x (es++[e])):∃ g,x=.row g sz 0 (es.length+1)∧srI sz x none (some (.int es.length)) none=some (.row g sz 0 es.length)∧RowPre h sz (.row g sz 0 es.length) es:=by
 rcases r with ⟨_,r⟩ | ⟨g,full,rfl,hg⟩
 ·simp at r
 ·refine ⟨g,by simp,?_,.inr ⟨g,e::full,rfl,by simpa using hg⟩⟩
  have h1:(es++[e]).length=es.length+1:=by simp
  have h2:(es.length:Int)≤(es.length:Int)+1:=by omega
  simp [srI,bnd,h1,h2]
theorem RowPre.last {h:Heap} {sz:Nat} {x:AV} {es:List (List AV)} {e:List AV} (r:RowPre h sz x (es++[e])):∃ g full,x=.row g sz 0 (es.length+1)∧h g=some (.row sz (es++e::full) .live none):=by
 rcases r with ⟨_,r⟩ | ⟨g,full,rfl,hg⟩
 ·simp at r
 ·exact ⟨g,full,by simp,by simpa using hg⟩
end Go.AM
