/-
  The library of the proof, part 4.
-/
import Derived.Test.YtkmilnnddljcnaaGreatVLc
import Derived.Lib.ItoaNum
import Derived.Sort.Grow
import Derived.Deep.Draws
set_option linter.unusedVariables false
set_option linter.unusedSimpArgs false
namespace Go.D
set_option linter.unusedSectionVars false
section
variable {α:Type} [Inhabited α] {κ:α→Int}
def ixs (l:List α) (f:Nat→Nat):List α:=(List.range l.length).map fun k=>l.getD (f k) default
theorem ixs_len (l:List α) (f:Nat→Nat):(ixs l f).length=l.length:=by simp[ixs]
theorem ixs_get (l:List α) (f:Nat→Nat) {k:Nat} (h:k<l.length):(ixs l f).getD k default=l.getD (f k) default:=by
 simp[ixs,List.getD_eq_getElem?_getD,h]
theorem ext_getD {l m:List α} (h:l.length=m.length) (h2:∀ k,k<l.length→l.getD k default=m.getD k default):l=m:=by
 apply List.ext_getElem h
 intro k h3 h4
 have:=h2 k h3
 simpa [List.getD_eq_getElem?_getD,h3,h4] using this
theorem ixs_ixs (l:List α) (f g:Nat→Nat) (h:∀ k,k<l.length→g k<l.length):ixs (ixs l f) g=ixs l (fun k=>f (g k)):=by
 refine ext_getD (by simp[ixs_len]) fun k hk=>?_
 rw[ixs_len,ixs_len] at hk
 rw[ixs_get _ _ (by rw[ixs_len];exact hk),ixs_get _ _ (h k hk),ixs_get _ _ hk]
theorem ixs_congr (l:List α) {f g:Nat→Nat} (h:∀ k,k<l.length→f k=g k):ixs l f=ixs l g:=by
 refine ext_getD (by simp[ixs_len]) fun k hk=>?_
 rw[ixs_len] at hk
 rw[ixs_get _ _ hk,ixs_get _ _ hk,h k hk]
theorem ixs_id (l:List α):ixs l (fun k=>k)=l:=ext_getD (ixs_len _ _) fun k hk=>by rw[ixs_len] at hk;rw[ixs_get _ _ hk]
def swI (i j k:Nat):Nat:=if k=i then j else if k=j then i else k
def srI (a b n k:Nat):Nat:=if a≤k∧k<a+n then k-a+b else if b≤k∧k<b+n then k-b+a else k
def roI (a m b k:Nat):Nat:=if a≤k∧k<a+(b-m) then k-a+m else if a+(b-m)≤k∧k<b then k-(b-m) else k
def swapR (l:List α) (a b n:Nat):List α:=ixs l (srI a b n)
def rotR (l:List α) (a m b:Nat):List α:=ixs l (roI a m b)
theorem swap_set {l:List α} {i j:Nat} (hi:i<l.length) (hj:j<l.length):(l.set i (l.getD j default)).set j (l.getD i default)=ixs l (swI i j):=by
 refine ext_getD (by simp[ixs_len]) fun k hk=>?_
 simp only[List.length_set] at hk
 rw[ixs_get _ _ hk]
 simp only[List.getD_eq_getElem?_getD,List.getElem?_set,List.length_set,swI]
 by_cases h1:k=i
 ·subst h1
  by_cases h2:j=k
  ·subst h2;simp[hi]
  ·simp[h2,hi]
 ·by_cases h2:k=j
  ·subst h2;simp[hj,h1]
  ·simp[Ne.symm h1,Ne.symm h2,h1,h2]
theorem swapR_step {l:List α} {a b n:Nat} (hab:a+(n+1)≤b) (hb:b+(n+1)≤l.length):ixs (swapR l a b n) (swI (a+n) (b+n))=swapR l a b (n+1):=by
 unfold swapR
 rw[ixs_ixs _ _ _ fun k hk=>by unfold swI;split<;>(try split)<;>omega]
 refine ixs_congr _ fun k hk=>?_
 unfold srI swI
 repeat' split
 all_goals omega
theorem swapR_zero (l:List α) (a b:Nat):swapR l a b 0=l:=by
 unfold swapR
 refine(ixs_congr l fun k hk=>?_).trans (ixs_id l)
 unfold srI
 repeat' split
 all_goals omega
theorem rotR_len (l:List α) (a m b:Nat):(rotR l a m b).length=l.length:=ixs_len _ _
theorem swapR_len (l:List α) (a b n:Nat):(swapR l a b n).length=l.length:=ixs_len _ _
theorem rot_left {l:List α} {a m b:Nat} (h1:a<m) (h2:m<b) (hb:b≤l.length) (h:b-m<m-a):rotR (swapR l a m (b-m)) (a+(b-m)) m b=rotR l a m b:=by
 unfold rotR swapR
 rw[ixs_ixs _ _ _ fun k hk=>by unfold roI;split<;>(try split)<;>omega]
 refine ixs_congr _ fun k hk=>?_
 unfold roI srI
 repeat' split
 all_goals omega
theorem rot_right {l:List α} {a m b:Nat} (h1:a<m) (h2:m<b) (hb:b≤l.length) (h:m-a<b-m):rotR (swapR l a (b-(m-a)) (m-a)) a m (b-(m-a))=rotR l a m b:=by
 unfold rotR swapR
 rw[ixs_ixs _ _ _ fun k hk=>by unfold roI;split<;>(try split)<;>omega]
 refine ixs_congr _ fun k hk=>?_
 unfold roI srI
 repeat' split
 all_goals omega
theorem rot_same {l:List α} {a m b:Nat} (h1:a<m) (h2:m<b) (hb:b≤l.length) (h:m-a=b-m):swapR l a m (b-m)=rotR l a m b:=by
 unfold rotR swapR
 refine ixs_congr _ fun k hk=>?_
 unfold roI srI
 repeat' split
 all_goals omega
theorem rot_up {l:List α} {a k:Nat} (h1:a≤k) (hb:k+1<l.length):ixs (rotR l a (a+1) (k+1)) (swI k (k+1))=rotR l a (a+1) (k+2):=by
 unfold rotR
 rw[ixs_ixs _ _ _ fun k hk=>by unfold swI;split<;>(try split)<;>omega]
 refine ixs_congr _ fun k hk=>?_
 unfold roI swI
 repeat' split
 all_goals omega
theorem rot_dn {l:List α} {m k:Nat} (h0:0<k) (h1:k≤m) (hb:m<l.length):ixs (rotR l k m (m+1)) (swI k (k-1))=rotR l (k-1) m (m+1):=by
 unfold rotR
 rw[ixs_ixs _ _ _ fun k hk=>by unfold swI;split<;>(try split)<;>omega]
 refine ixs_congr _ fun k hk=>?_
 unfold roI swI
 repeat' split
 all_goals omega
theorem rot_none {l:List α} {a m b:Nat} (h:m≤a∧b≤a+1∨b≤m) (ha:a≤m):rotR l a m b=l:=by
 unfold rotR
 refine(ixs_congr l fun k hk=>?_).trans (ixs_id l)
 unfold roI
 repeat' split
 all_goals omega
theorem rotR_get {l:List α} {a m b k:Nat} (hk:k<l.length):(rotR l a m b).getD k default=l.getD (roI a m b k) default:=ixs_get _ _ hk
end
section
variable {α:Type} {κ:α→Int}
def ins1 (κ:α→Int) (x:α):List α→List α
 | []=>[x]
 | y::l=>if κ x≤κ y then x::y::l else y::ins1 κ x l
def isrt (κ:α→Int):List α→List α
 | []=>[]
 | x::l=>ins1 κ x (isrt κ l)
def SortedK (κ:α→Int) (l:List α):Prop:=l.Pairwise fun x y=>κ x≤κ y
def SimK (κ:α→Int) (l d:List α):Prop:=∀ c,d.filter (fun x=>κ x==c)=l.filter (fun x=>κ x==c)
theorem SimK.refl (l:List α):SimK κ l l:=fun _=>rfl
theorem SimK.trans {l d e:List α} (h:SimK κ l d) (h':SimK κ d e):SimK κ l e:=fun c=>(h' c).trans (h c)
theorem ins1_sorted {x:α}:∀ {l:List α},SortedK κ l→SortedK κ (ins1 κ x l)∧∀ y,y∈ins1 κ x l→y=x∨y∈l:=by
 intro l
 induction l with
 | nil=>intro _;simp[ins1,SortedK]
 | cons y l ih=>
  intro h
  have hp:=List.pairwise_cons.1 h
  unfold ins1
  split
  ·rename_i hxy
   refine⟨List.pairwise_cons.2 ⟨fun z hz=>?_,h⟩,fun z hz=>by simpa using hz⟩
   rcases List.mem_cons.1 hz with rfl|hz
   ·exact hxy
   ·exact Int.le_trans hxy (hp.1 z hz)
  ·rename_i hxy
   obtain⟨h1,h2⟩:=ih hp.2
   refine⟨List.pairwise_cons.2 ⟨fun z hz=>?_,h1⟩,fun z hz=>?_⟩
   ·rcases h2 z hz with rfl|hz
    ·omega
    ·exact hp.1 z hz
   ·rcases List.mem_cons.1 hz with rfl|hz
    ·exact .inr List.mem_cons_self
    ·rcases h2 z hz with rfl|hz
     ·exact .inl rfl
     ·exact .inr (List.mem_cons_of_mem _ hz)
theorem ins1_filter {x:α} (c:Int):∀ {l:List α},SortedK κ l→(ins1 κ x l).filter (fun z=>κ z==c)=(x::l).filter (fun z=>κ z==c):=by
 intro l
 induction l with
 | nil=>intro _;rfl
 | cons y l ih=>
  intro h
  have hp:=List.pairwise_cons.1 h
  unfold ins1
  split
  ·rfl
  ·rename_i hxy
   rw[List.filter_cons,ih hp.2]
   simp only[List.filter_cons,beq_iff_eq]
   by_cases h1:κ x=c<;>by_cases h2:κ y=c<;>simp[h1,h2]<;>omega
theorem isrt_sorted:∀ (l:List α),SortedK κ (isrt κ l)
 | []=>List.Pairwise.nil
 | x::l=>(ins1_sorted (isrt_sorted l)).1
theorem isrt_sim:∀ (l:List α),SimK κ l (isrt κ l)
 | [],_=>rfl
 | x::l,c=>by
  rw[isrt,ins1_filter c (isrt_sorted l),List.filter_cons,List.filter_cons,isrt_sim l c]
theorem sim_mem {l d:List α} (h:SimK κ l d) {x:α}:x∈d↔x∈l:=by
 have h1:=h (κ x)
 constructor<;>intro hx
 ·have:x∈d.filter (fun z=>κ z==κ x):=List.mem_filter.2 ⟨hx,by simp⟩
  rw[h1] at this
  exact(List.mem_filter.1 this).1
 ·have:x∈l.filter (fun z=>κ z==κ x):=List.mem_filter.2 ⟨hx,by simp⟩
  rw[←h1] at this
  exact(List.mem_filter.1 this).1
theorem sorted_uniq:∀ (l d:List α),SortedK κ l→SortedK κ d→SimK κ l d→d=l:=by
 intro l
 induction l with
 | nil=>
  intro d _ _ h
  cases d with
  | nil=>rfl
  | cons y d=>have:=(sim_mem h (x:=y)).1 List.mem_cons_self;cases this
 | cons x l ih=>
  intro d hl hd h
  cases d with
  | nil=>have:=(sim_mem h (x:=x)).2 List.mem_cons_self;cases this
  | cons y d=>
   have pl:=List.pairwise_cons.1 hl
   have pd:=List.pairwise_cons.1 hd
   have e1:κ x≤κ y:=by
    rcases List.mem_cons.1 ((sim_mem h (x:=y)).1 List.mem_cons_self) with e|hm
    ·rw[e];exact Int.le_refl _
    ·exact pl.1 y hm
   have e2:κ y≤κ x:=by
    rcases List.mem_cons.1 ((sim_mem h (x:=x)).2 List.mem_cons_self) with e|hm
    ·rw[e];exact Int.le_refl _
    ·exact pd.1 x hm
   have hk:κ y=κ x:=by omega
   have hx:=h (κ x)
   simp only[List.filter_cons,hk,beq_self_eq_true,if_true,List.cons.injEq] at hx
   obtain⟨rfl,hx⟩:=hx
   rw[ih d pl.2 pd.2 fun c=>?_]
   have:=h c
   simp only[List.filter_cons] at this
   split at this
   ·injection this
   ·exact this
theorem isrt_uniq {l d:List α} (hd:SortedK κ d) (h:SimK κ l d):d=isrt κ l:=sorted_uniq _ _ (isrt_sorted l) hd fun c=>(h c).trans (isrt_sim l c).symm
theorem isrt_len (l:List α):(isrt κ l).length=l.length:=by
 induction l with
 | nil=>rfl
 | cons x l ih=>
  have:∀ (m:List α),(ins1 κ x m).length=m.length+1:=by
   intro m
   induction m with
   | nil=>rfl
   | cons y m ihm=>unfold ins1;split<;>simp[ihm]
  rw[isrt,this,ih];rfl
end
section
variable {α:Type} [Inhabited α] {κ:α→Int}
def SrtIn (κ:α→Int) (l:List α) (a b:Nat):Prop:=∀ i j,a≤i→i≤j→j<b→κ (l.getD i default)≤κ (l.getD j default)
def seg (l:List α) (a b:Nat):List α:=(l.drop a).take (b-a)
theorem seg_len {l:List α} {a b:Nat} (h:b≤l.length):(seg l a b).length=b-a:=by simp[seg];omega
theorem seg_get {l:List α} {a b k:Nat} (h:k<b-a):(seg l a b).getD k default=l.getD (a+k) default:=by
 simp[seg,List.getD_eq_getElem?_getD,h,List.getElem?_drop]
theorem cut_at (l:List α) {a b:Nat} (hab:a≤b):l=l.take a++(seg l a b++l.drop b):=by
 have h:(l.drop a).drop (b-a)=l.drop b:=by rw[List.drop_drop];congr 1;omega
 rw[seg,←h,List.take_append_drop,List.take_append_drop]
theorem srt_seg {l:List α} {a b:Nat} (hb:b≤l.length):SortedK κ (seg l a b)↔SrtIn κ l a b:=by
 unfold SortedK SrtIn
 rw[List.pairwise_iff_getElem]
 have hl:=seg_len (l:=l) (a:=a) hb
 have hg:∀ (i:Nat) (hi:i<(seg l a b).length),(seg l a b)[i]=l.getD (a+i) default:=fun i hi=>by
  rw[←seg_get (b:=b) (by omega)]
  simp[List.getD_eq_getElem?_getD,hi]
 constructor
 ·intro h i j hi hij hj
  rcases Nat.lt_or_ge i j with h1|h1
  ·have:=h (i-a) (j-a) (by omega) (by omega) (by omega)
   rw[hg,hg] at this
   rw[show a+(i-a)=i by omega,show a+(j-a)=j by omega] at this
   exact this
  ·have:i=j:=by omega
   subst this;exact Int.le_refl _
 ·intro h i j hi hj hij
  rw[hg,hg]
  exact h _ _ (by omega) (by omega) (by omega)
def sortR (κ:α→Int) (a b:Nat) (l:List α):List α:=l.take a++(isrt κ (seg l a b)++l.drop b)
theorem sortR_len {l:List α} {a b:Nat} (hab:a≤b) (hb:b≤l.length):(sortR κ a b l).length=l.length:=by
 simp only[sortR,List.length_append,List.length_take,List.length_drop,isrt_len,seg_len hb];omega
theorem sortR_out {l:List α} {a b k:Nat} (hab:a≤b) (hb:b≤l.length) (h:k<a∨b≤k):(sortR κ a b l).getD k default=l.getD k default:=by
 simp only[sortR,List.getD_eq_getElem?_getD]
 rcases h with h|h
 ·rw[List.getElem?_append_left (by simp;omega)];simp[h]
 ·rw[List.getElem?_append_right (by simp;omega),List.getElem?_append_right (by simp[isrt_len,seg_len hb];omega)]
  simp only[isrt_len,seg_len hb,List.length_take,List.getElem?_drop]
  congr 2;omega
theorem sortR_seg {l:List α} {a b:Nat} (hab:a≤b) (hb:b≤l.length):seg (sortR κ a b l) a b=isrt κ (seg l a b):=by
 have h1:(l.take a).length=a:=by simp;omega
 have h2:(isrt κ (seg l a b)).length=b-a:=by rw[isrt_len,seg_len hb]
 rw[seg,sortR,List.drop_append_of_le_length (by omega),List.drop_of_length_le (by omega),List.nil_append,List.take_append_of_le_length (by omega),List.take_of_length_le (by omega)]
theorem sortR_srt {l:List α} {a b:Nat} (hab:a≤b) (hb:b≤l.length):SrtIn κ (sortR κ a b l) a b:=by
 rw[←srt_seg (by rw[sortR_len hab hb];exact hb),sortR_seg hab hb]
 exact isrt_sorted _
theorem sortR_sim {l:List α} {a b:Nat} (hab:a≤b):SimK κ l (sortR κ a b l):=by
 intro c
 conv=>rhs;rw[cut_at l hab]
 simp only[sortR,List.filter_append]
 rw[isrt_sim]
theorem sortR_in {l:List α} {a b k:Nat} (hab:a≤b) (hb:b≤l.length) (h1:a≤k) (h2:k<b):∃ k',a≤k'∧k'<b∧(sortR κ a b l).getD k default=l.getD k' default:=by
 have hs:=sortR_seg (κ:=κ) hab hb
 have hm:(sortR κ a b l).getD k default∈seg l a b:=by
  have e:(sortR κ a b l).getD k default=(seg (sortR κ a b l) a b).getD (k-a) default:=by rw[seg_get (by omega)];congr 1;omega
  rw[e,hs,←sim_mem (isrt_sim (κ:=κ) (seg l a b))]
  have hl:k-a<(isrt κ (seg l a b)).length:=by rw[isrt_len,seg_len hb];omega
  have:isrt κ (isrt κ (seg l a b))=isrt κ (seg l a b):=(isrt_uniq (isrt_sorted _) (SimK.refl _)).symm
  rw[←this]
  rw[this]
  rw[sim_mem (isrt_sim (κ:=κ) (seg l a b))]
  rw[←sim_mem (isrt_sim (κ:=κ) (seg l a b))]
  rw[List.getD_eq_getElem?_getD,List.getElem?_eq_getElem hl]
  exact List.getElem_mem hl
 obtain⟨i,hi,he⟩:=List.getElem_of_mem hm
 rw[seg_len hb] at hi
 refine⟨a+i,by omega,by omega,?_⟩
 rw[←seg_get hi,←he]
 simp[List.getD_eq_getElem?_getD,seg_len hb,hi]
theorem sortR_uniq {l d:List α} {a b:Nat} (hab:a≤b) (hb:b≤l.length) (hl:d.length=l.length) (ho:∀ k,k<l.length→k<a∨b≤k→d.getD k default=l.getD k default) (hs:SrtIn κ d a b) (hm:SimK κ l d):d=sortR κ a b l:=by
 have e1:d.take a=l.take a:=by
  refine ext_getD (by simp[hl]) fun k hk=>?_
  have h1:k<a:=by simp at hk;omega
  have:=ho k (by simp at hk;omega) (.inl h1)
  simpa [List.getD_eq_getElem?_getD,h1] using this
 have e2:d.drop b=l.drop b:=by
  refine ext_getD (by simp[hl]) fun k hk=>?_
  have h1:b+k<l.length:=by simp[hl] at hk;omega
  have:=ho (b+k) h1 (.inr (by omega))
  simpa [List.getD_eq_getElem?_getD,List.getElem?_drop] using this
 have e3:seg d a b=isrt κ (seg l a b):=by
  refine isrt_uniq ((srt_seg (by omega)).2 hs) fun c=>?_
  have h1:=hm c
  rw[cut_at d hab,cut_at l hab,e1,e2] at h1
  simp only[List.filter_append] at h1
  exact List.append_cancel_right (List.append_cancel_left h1)
 conv=>lhs;rw[cut_at d hab,e1,e2,e3]
 rfl
theorem sortR_one {l:List α} {a b:Nat} (hab:a≤b) (h:b≤a+1) (hb:b≤l.length):sortR κ a b l=l:=by
 refine(sortR_uniq hab hb rfl (fun _ _ _=>rfl) (fun i j h1 h2 h3=>?_) (SimK.refl l)).symm
 have:i=j:=by omega
 subst this;exact Int.le_refl _
theorem rot_list {l:List α} {a m b:Nat} (h1:a≤m) (h2:m≤b) (hb:b≤l.length):rotR l a m b=l.take a++(seg l m b++(seg l a m++l.drop b)):=by
 have q1:=seg_len (l:=l) (a:=a) (b:=m) (by omega)
 have q2:=seg_len (l:=l) (a:=m) hb
 have q0:(l.take a).length=a:=by simp;omega
 refine ext_getD ?_ fun k hk=>?_
 ·rw[rotR_len];simp only[List.length_append,q1,q2,q0,List.length_drop];omega
 ·rw[rotR_len] at hk
  rw[rotR_get hk]
  simp only[List.getD_eq_getElem?_getD]
  by_cases c1:k<a
  ·rw[List.getElem?_append_left (by omega)]
   simp only[List.getElem?_take,c1,if_true,roI]
   rw[if_neg (by omega),if_neg (by omega)]
  ·rw[List.getElem?_append_right (by omega),q0]
   by_cases c2:k<a+(b-m)
   ·rw[List.getElem?_append_left (by omega)]
    simp only[seg,List.getElem?_take,List.getElem?_drop,roI]
    rw[if_pos (by omega),if_pos (by omega)]
    congr 2;omega
   ·rw[List.getElem?_append_right (by omega),q2]
    by_cases c3:k<b
    ·rw[List.getElem?_append_left (by omega)]
     simp only[seg,List.getElem?_take,List.getElem?_drop,roI]
     rw[if_neg (by omega),if_pos (by omega),if_pos (by omega)]
     congr 2;omega
    ·rw[List.getElem?_append_right (by omega),q1]
     simp only[List.getElem?_drop,roI]
     rw[if_neg (by omega),if_neg (by omega)]
     congr 2;omega
theorem rot_sim {l:List α} {a m b:Nat} (h1:a≤m) (h2:m≤b) (hb:b≤l.length) (hk:∀ i j,a≤i→i<m→m≤j→j<b→κ (l.getD j default)<κ (l.getD i default)):SimK κ l (rotR l a m b):=by
 intro c
 rw[rot_list h1 h2 hb]
 have e:l=l.take a++(seg l a m++(seg l m b++l.drop b)):=by
  conv=>lhs;rw[cut_at l h1]
  congr 2
  have h3:(l.drop m).drop (b-m)=l.drop b:=by rw[List.drop_drop];congr 1;omega
  rw[seg,←h3,List.take_append_drop]
 conv=>rhs;rw[e]
 simp only[List.filter_append]
 congr 1
 rw[←List.append_assoc,←List.append_assoc]
 congr 1
 by_cases hA:(seg l a m).filter (fun x=>κ x==c)=[]
 ·rw[hA];simp
 ·have hB:(seg l m b).filter (fun x=>κ x==c)=[]:=by
   refine List.filter_eq_nil_iff.2 fun y hy hc=>?_
   obtain⟨x,hx⟩:=List.exists_mem_of_ne_nil _ hA
   obtain⟨hx1,hx2⟩:=List.mem_filter.1 hx
   obtain⟨i,hi,hie⟩:=List.getElem_of_mem hx1
   obtain⟨j,hj,hje⟩:=List.getElem_of_mem hy
   rw[seg_len (by omega)] at hi
   rw[seg_len hb] at hj
   have e1:l.getD (a+i) default=x:=by rw[←seg_get hi,←hie];simp[List.getD_eq_getElem?_getD,seg_len (l:=l) (a:=a) (b:=m) (by omega),hi]
   have e2:l.getD (m+j) default=y:=by rw[←seg_get hj,←hje];simp[List.getD_eq_getElem?_getD,seg_len (l:=l) (a:=m) hb,hj]
   have:=hk (a+i) (m+j) (by omega) (by omega) (by omega) (by omega)
   rw[e1,e2] at this
   simp only[beq_iff_eq] at hx2 hc
   omega
  rw[hB];simp
end
end Go.D
namespace Go.D
set_option linter.unusedSectionVars false
section
variable {α:Type} [Inhabited α] {κ:α→Int}
theorem sortR_sortR {l:List α} {a b c d:Nat} (h1:a≤c) (h2:c≤d) (h3:d≤b) (hb:b≤l.length):sortR κ a b (sortR κ c d l)=sortR κ a b l:=by
 have e:=sortR_len (κ:=κ) h2 (show d≤l.length by omega)
 refine sortR_uniq (by omega) hb ?_ (fun k hk ho=>?_) ?_ ?_
 ·rw[sortR_len (by omega) (by omega),e]
 ·rw[sortR_out (by omega) (by omega) ho,sortR_out h2 (by omega) (by omega)]
 ·exact sortR_srt (by omega) (by omega)
 ·exact(sortR_sim h2).trans (sortR_sim (by omega))
theorem rot_sorts {l:List α} {a b x m y:Nat} (h1:a≤x) (h2:x≤m) (h3:m≤y) (h4:y≤b) (hb:b≤l.length) (hk:∀ i j,x≤i→i<m→m≤j→j<y→κ (l.getD j default)<κ (l.getD i default))
 (hs:SrtIn κ (rotR l x m y) a b):rotR l x m y=sortR κ a b l:=by
 refine sortR_uniq (by omega) hb (rotR_len ..) (fun k hk ho=>?_) hs (rot_sim h2 h3 (by omega) hk)
 rw[rotR_get hk]
 unfold roI
 rw[if_neg (by omega),if_neg (by omega)]
theorem ins_step {l:List α} {a j i:Nat} (h1:a≤j) (h2:j≤i) (hi:i<l.length) (hs:SrtIn κ l a i) (hg:∀ k,j≤k→k<i→κ (l.getD i default)<κ (l.getD k default)) (hle:j=a∨κ (l.getD (j-1) default)≤κ (l.getD i default)) :
 rotR l j i (i+1)=sortR κ a (i+1) l:=by
 refine rot_sorts h1 h2 (by omega) (Nat.le_refl _) hi (fun x y hx1 hx2 hy1 hy2=>?_) fun x y hx hxy hy=>?_
 ·have:y=i:=by omega
  subst this;exact hg x hx1 hx2
 ·rw[rotR_get (by omega),rotR_get (by omega)]
  have low:∀ k,a≤k→k<j→κ (l.getD k default)≤κ (l.getD i default):=fun k hk1 hk2=>by
   rcases hle with e|h
   ·omega
   ·exact Int.le_trans (hs k (j-1) hk1 (by omega) (by omega)) h
  rcases Nat.lt_trichotomy x j with c1|c1|c1
  ·rcases Nat.lt_trichotomy y j with c2|c2|c2
   ·rw[show roI j i (i+1) x=x by unfold roI;rw[if_neg (by omega),if_neg (by omega)],show roI j i (i+1) y=y by unfold roI;rw[if_neg (by omega),if_neg (by omega)]]
    exact hs x y hx hxy (by omega)
   ·rw[show roI j i (i+1) x=x by unfold roI;rw[if_neg (by omega),if_neg (by omega)],show roI j i (i+1) y=i by unfold roI;rw[if_pos (by omega)];omega]
    exact low x hx c1
   ·rw[show roI j i (i+1) x=x by unfold roI;rw[if_neg (by omega),if_neg (by omega)],show roI j i (i+1) y=y-1 by unfold roI;rw[if_neg (by omega),if_pos (by omega)];omega]
    exact hs x (y-1) hx (by omega) (by omega)
  ·subst c1
   rcases Nat.eq_or_lt_of_le hxy with c2|c2
   ·subst c2;exact Int.le_refl _
   ·rw[show roI x i (i+1) x=i by unfold roI;rw[if_pos (by omega)];omega,show roI x i (i+1) y=y-1 by unfold roI;rw[if_neg (by omega),if_pos (by omega)];omega]
    exact Int.le_of_lt (hg (y-1) (by omega) (by omega))
  ·rw[show roI j i (i+1) x=x-1 by unfold roI;rw[if_neg (by omega),if_pos (by omega)];omega,show roI j i (i+1) y=y-1 by unfold roI;rw[if_neg (by omega),if_pos (by omega)];omega]
   exact hs (x-1) (y-1) (by omega) (by omega) (by omega)
theorem merge_one {l:List α} {a i b:Nat} (h1:a+1≤i) (h2:i≤b) (hb:b≤l.length) (hs:SrtIn κ l (a+1) b) (hl:∀ k,a+1≤k→k<i→κ (l.getD k default)<κ (l.getD a default)) (hg:∀ k,i≤k→k<b→κ (l.getD a default)≤κ (l.getD k default)) :
 rotR l a (a+1) i=sortR κ a b l:=by
 refine rot_sorts (Nat.le_refl _) (by omega) h1 h2 hb (fun x y hx1 hx2 hy1 hy2=>?_) fun x y hx hxy hy=>?_
 ·have:x=a:=by omega
  subst this;exact hl y hy1 hy2
 ·rw[rotR_get (by omega),rotR_get (by omega)]
  have e:∀ k,a≤k→k<b→(k+1<i∧roI a (a+1) i k=k+1)∨(k+1=i∧roI a (a+1) i k=a)∨(i≤k∧roI a (a+1) i k=k):=fun k hk1 hk2=>by
   unfold roI
   repeat' split
   all_goals omega
  rcases e x hx (by omega) with⟨c1,e1⟩|⟨c1,e1⟩|⟨c1,e1⟩<;>rcases e y (by omega) hy with⟨c2,e2⟩|⟨c2,e2⟩|⟨c2,e2⟩<;>rw[e1,e2]
  ·exact hs _ _ (by omega) (by omega) (by omega)
  ·exact Int.le_of_lt (hl _ (by omega) (by omega))
  ·exact hs _ _ (by omega) (by omega) (by omega)
  ·omega
  ·exact Int.le_refl _
  ·exact hg _ (by omega) (by omega)
  ·omega
  ·omega
  ·exact hs _ _ (by omega) (by omega) (by omega)
theorem merge_last {l:List α} {a i m:Nat} (h1:a≤i) (h2:i≤m) (hb:m+1≤l.length) (hs:SrtIn κ l a m) (hl:∀ k,a≤k→k<i→κ (l.getD k default)≤κ (l.getD m default)) (hg:∀ k,i≤k→k<m→κ (l.getD m default)<κ (l.getD k default)) :
 rotR l i m (m+1)=sortR κ a (m+1) l:=by
 refine ins_step h1 h2 (by omega) hs hg ?_
 by_cases e:i=a
 ·exact .inl e
 ·exact .inr (hl _ (by omega) (by omega))
structure MidK (κ:α→Int) (l d:List α) (a mid b:Nat):Prop where
 len:d.length=l.length
 out:∀ k,k<l.length→k<a∨b≤k→d.getD k default=l.getD k default
 sim:SimK κ l d
 le:∀ i j,a≤i→i<mid→mid≤j→j<b→κ (d.getD i default)≤κ (d.getD j default)
theorem MidK.left {l d:List α} {a mid b:Nat} (h:MidK κ l d a mid b) (h1:a≤mid) (h2:mid≤b) (hb:b≤l.length):MidK κ l (sortR κ a mid d) a mid b:=by
 have hl:=h.len
 refine⟨by rw[sortR_len h1 (by omega),hl],fun k hk ho=>?_,h.sim.trans (sortR_sim h1),fun i j hi1 hi2 hj1 hj2=>?_⟩
 ·rw[sortR_out h1 (by omega) (by omega)];exact h.out k hk ho
 ·obtain⟨k',q1,q2,q3⟩:=sortR_in (κ:=κ) h1 (show mid≤d.length by omega) hi1 hi2
  rw[q3,sortR_out h1 (by omega) (.inr hj1)]
  exact h.le _ _ q1 q2 hj1 hj2
theorem MidK.right {l d:List α} {a mid b:Nat} (h:MidK κ l d a mid b) (h1:a≤mid) (h2:mid≤b) (hb:b≤l.length):MidK κ l (sortR κ mid b d) a mid b:=by
 have hl:=h.len
 refine⟨by rw[sortR_len h2 (by omega),hl],fun k hk ho=>?_,h.sim.trans (sortR_sim h2),fun i j hi1 hi2 hj1 hj2=>?_⟩
 ·rw[sortR_out h2 (by omega) (by omega)];exact h.out k hk ho
 ·obtain⟨k',q1,q2,q3⟩:=sortR_in (κ:=κ) h2 (show b≤d.length by omega) hj1 hj2
  rw[q3,sortR_out h2 (by omega) (.inl hi2)]
  exact h.le _ _ hi1 hi2 q1 q2
theorem MidK.done {l d:List α} {a mid b:Nat} (h:MidK κ l d a mid b) (h1:a≤mid) (h2:mid≤b) (hb:b≤l.length) (hs1:SrtIn κ d a mid) (hs2:SrtIn κ d mid b):d=sortR κ a b l:=by
 refine sortR_uniq (by omega) hb h.len h.out (fun i j hi hij hj=>?_) h.sim
 by_cases c1:j<mid
 ·exact hs1 i j hi hij c1
 ·by_cases c2:mid≤i
  ·exact hs2 i j c2 hij hj
  ·exact h.le i j hi (by omega) (by omega) hj
theorem srt_keep {l:List α} {a mid b:Nat} (h1:a≤mid) (h2:mid≤b) (hb:b≤l.length) (hs:SrtIn κ l a mid):SrtIn κ (sortR κ mid b l) a mid:=by
 intro i j hi hij hj
 rw[sortR_out h2 hb (.inl (by omega)),sortR_out h2 hb (.inl hj)]
 exact hs i j hi hij hj
structure SymAt (κ:α→Int) (l:List α) (a m b mid s:Nat):Prop where
 lo1:a≤s
 lo2:mid+m≤b+s
 hi1:s≤mid
 hi2:s≤m
 ge:∀ c,a≤c→mid+m≤b+c→c<s→κ (l.getD c default)≤κ (l.getD (mid+m-1-c) default)
 lt:∀ c,s≤c→c<mid→c<m→κ (l.getD (mid+m-1-c) default)<κ (l.getD c default)
theorem sym_mid {l:List α} {a m b mid s:Nat} (h:SymAt κ l a m b mid s) (ham:a≤m) (hmb:m≤b) (hmid:a≤mid) (hmid2:mid≤b) (hb:b≤l.length) (hs1:SrtIn κ l a m) (hs2:SrtIn κ l m b) :
 MidK κ l (rotR l s m (mid+m-s)) a mid b∧SrtIn κ (rotR l s m (mid+m-s)) a s∧SrtIn κ (rotR l s m (mid+m-s)) s mid∧SrtIn κ (rotR l s m (mid+m-s)) mid (mid+m-s)∧SrtIn κ (rotR l s m (mid+m-s)) (mid+m-s) b:=by
 obtain⟨lo1,lo2,hi1,hi2,ge,lt⟩:=h
 have AB:∀ i j,s≤i→i<m→m≤j→j<mid+m-s→κ (l.getD j default)<κ (l.getD i default):=fun i j q1 q2 q3 q4=>by
  have h1:=lt s (Nat.le_refl _) (by omega) (by omega)
  have h2:=hs1 s i (by omega) q1 q2
  have h3:=hs2 j (mid+m-1-s) q3 (by omega) (by omega)
  omega
 have XY:∀ i j,a≤i→i<s→mid+m-s≤j→j<b→κ (l.getD i default)≤κ (l.getD j default):=fun i j q1 q2 q3 q4=>by
  have h1:=ge (s-1) (by omega) (by omega) (by omega)
  have h2:=hs1 i (s-1) q1 (by omega) (by omega)
  have h3:=hs2 (mid+m-1-(s-1)) j (by omega) (by omega) q4
  omega
 have e1:∀ k,k<s→roI s m (mid+m-s) k=k:=fun k hk=>by unfold roI;rw[if_neg (by omega),if_neg (by omega)]
 have e2:∀ k,s≤k→k<mid→roI s m (mid+m-s) k=k-s+m:=fun k hk hk2=>by unfold roI;rw[if_pos (by omega)]
 have e3:∀ k,mid≤k→k<mid+m-s→roI s m (mid+m-s) k=k-mid+s:=fun k hk hk2=>by unfold roI;rw[if_neg (by omega),if_pos (by omega)];omega
 have e4:∀ k,mid+m-s≤k→roI s m (mid+m-s) k=k:=fun k hk=>by unfold roI;rw[if_neg (by omega),if_neg (by omega)]
 refine⟨⟨rotR_len ..,fun k hk ho=>?_,rot_sim hi2 (by omega) (by omega) AB,fun i j q1 q2 q3 q4=>?_⟩,?_,?_,?_,?_⟩
 ·rw[rotR_get hk]
  rcases ho with ho|ho
  ·rw[e1 k (by omega)]
  ·rw[e4 k (by omega)]
 ·rw[rotR_get (by omega),rotR_get (by omega)]
  by_cases c1:i<s<;>by_cases c2:j<mid+m-s
  ·rw[e1 i c1,e3 j q3 c2];exact hs1 _ _ q1 (by omega) (by omega)
  ·rw[e1 i c1,e4 j (by omega)];exact XY _ _ q1 c1 (by omega) q4
  ·rw[e2 i (by omega) q2,e3 j q3 c2];exact Int.le_of_lt (AB _ _ (by omega) (by omega) (by omega) (by omega))
  ·rw[e2 i (by omega) q2,e4 j (by omega)];exact hs2 _ _ (by omega) (by omega) q4
 ·intro i j q1 q2 q3
  rw[rotR_get (by omega),rotR_get (by omega),e1 i (by omega),e1 j q3]
  exact hs1 _ _ q1 q2 (by omega)
 ·intro i j q1 q2 q3
  rw[rotR_get (by omega),rotR_get (by omega),e2 i q1 (by omega),e2 j (by omega) q3]
  exact hs2 _ _ (by omega) (by omega) (by omega)
 ·intro i j q1 q2 q3
  rw[rotR_get (by omega),rotR_get (by omega),e3 i q1 (by omega),e3 j (by omega) q3]
  exact hs1 _ _ (by omega) (by omega) (by omega)
 ·intro i j q1 q2 q3
  rw[rotR_get (by omega),rotR_get (by omega),e4 i q1,e4 j (by omega)]
  exact hs2 _ _ (by omega) q2 q3
theorem sym_end {l:List α} {a m b mid s:Nat} (h:SymAt κ l a m b mid s) (ham:a≤m) (hmb:m≤b) (hmid:a≤mid) (hmid2:mid≤b) (hb:b≤l.length) (hs1:SrtIn κ l a m) (hs2:SrtIn κ l m b) {d1 d2 d3:List α}
 (e1:d1=rotR l s m (mid+m-s)) (e2:d2=if a<s∧s<mid then sortR κ a mid d1 else d1) (e3:d3=if mid<mid+m-s∧mid+m-s<b then sortR κ mid b d2 else d2):d3=sortR κ a b l:=by
 obtain⟨k1,k2,k3,k4,k5⟩:=sym_mid h ham hmb hmid hmid2 hb hs1 hs2
 obtain⟨lo1,lo2,hi1,hi2,ge,lt⟩:=h
 rw[←e1] at k1 k2 k3 k4 k5
 have m2:MidK κ l d2 a mid b∧SrtIn κ d2 a mid:=by
  subst e2
  split
  ·exact⟨k1.left hmid hmid2 hb,sortR_srt hmid (by rw[k1.len];omega)⟩
  ·refine⟨k1,?_⟩
   by_cases c:s=a
   ·subst c;exact k3
   ·have:s=mid:=by omega
    subst this;exact k2
 have r2:¬ (mid<mid+m-s∧mid+m-s<b)→SrtIn κ d2 mid b:=by
  intro hn
  have hd:SrtIn κ d1 mid b:=by
   by_cases c:mid+m-s=b
   ·rw[c] at k4;exact k4
   ·have:mid+m-s=mid:=by omega
    rw[this] at k5;exact k5
  subst e2
  split
  ·intro i j q1 q2 q3
   rw[sortR_out hmid (by rw[k1.len];omega) (.inr q1),sortR_out hmid (by rw[k1.len];omega) (.inr (by omega))]
   exact hd i j q1 q2 q3
  ·exact hd
 subst e3
 split
 ·have hl:b≤d2.length:=by rw[m2.1.len];exact hb
  exact(m2.1.right hmid hmid2 hb).done hmid hmid2 hb (srt_keep hmid hmid2 hl m2.2) (sortR_srt hmid2 hl)
 ·rename_i hn
  exact m2.1.done hmid hmid2 hb m2.2 (r2 hn)
theorem mod_const {l:List α} {i:Nat} {y:α}:l.modify i (fun _=>y)=l.set i y:=by
 apply List.ext_getElem?
 intro k
 rw[List.getElem?_modify,List.getElem?_set]
 by_cases h:i=k
 ·subst h
  by_cases h2:i<l.length
  ·simp[h2]
  ·simp[h2]
 ·simp[h]
theorem swap_mod {l:List α} {i j:Nat} (hi:i<l.length) (hj:j<l.length):(l.modify i fun _=>l.getD j default).modify j (fun _=>l.getD i default)=ixs l (swI i j):=by
 rw[mod_const,mod_const,swap_set hi hj]
theorem swapI {l d:List α} {a b i:Int} (e:d=swapR l a.toNat b.toNat i.toNat) (ha:0≤a) (hi:0≤i) (hab:a+i+1≤b) (hb:b+i+1≤l.length) :
 (d.modify (a+i).toNat fun _=>d.getD (b+i).toNat default).modify (b+i).toNat (fun _=>d.getD (a+i).toNat default)=swapR l a.toNat b.toNat (i+1).toNat:=by
 have hl:d.length=l.length:=by rw[e,swapR_len]
 rw[swap_mod (by omega) (by omega),e,show(a+i).toNat=a.toNat+i.toNat by omega,show(b+i).toNat=b.toNat+i.toNat by omega,swapR_step (by omega) (by omega),show(i+1).toNat=i.toNat+1 by omega]
theorem swapI0 {l:List α} {a b:Nat}:l=swapR l a b 0:=(swapR_zero l a b).symm
theorem insI {l d:List α} {j i:Int} (e:d=rotR l j.toNat i.toNat (i.toNat+1)) (hj:0<j) (hji:j≤i) (hi:i<l.length) :
 (d.modify j.toNat fun _=>d.getD (j-1).toNat default).modify (j-1).toNat (fun _=>d.getD j.toNat default)=rotR l (j-1).toNat i.toNat (i.toNat+1):=by
 have hl:d.length=l.length:=by rw[e,rotR_len]
 rw[swap_mod (by omega) (by omega),e,show(j-1).toNat=j.toNat-1 by omega]
 exact rot_dn (by omega) (by omega) (by omega)
theorem insI_at {l d:List α} {j i:Int} (e:d=rotR l j.toNat i.toNat (i.toNat+1)) (hj:0≤j) (hji:j≤i) (hi:i<l.length):d.getD j.toNat default=l.getD i.toNat default∧(0<j→d.getD (j-1).toNat default=l.getD (j-1).toNat default):=by
 rw[e]
 refine⟨?_,fun h=>?_⟩
 ·rw[rotR_get (by omega)];congr 1;unfold roI;rw[if_pos (by omega)];omega
 ·rw[rotR_get (by omega)];congr 1;unfold roI;rw[if_neg (by omega),if_neg (by omega)]
theorem rot_self {l:List α} {i:Nat}:l=rotR l i i (i+1):=(rot_none (.inl ⟨Nat.le_refl _,Nat.le_refl _⟩) (Nat.le_refl _)).symm
theorem sort_next {l e d:List α} {a b i j:Int} (he:e=sortR κ a.toNat (min i b).toNat l) (ha:0≤a) (hai:a+1≤i) (hib:i<b) (hb:b≤l.length) (hd:d=rotR e j.toNat i.toNat (i.toNat+1)) (hj:a≤j) (hji:j≤i)
 (hg:∀ k,j.toNat≤k→k<i.toNat→κ (e.getD i.toNat default)<κ (e.getD k default)) (hle:j≤a∨κ (e.getD (j-1).toNat default)≤κ (e.getD i.toNat default)):d=sortR κ a.toNat (min (i+1) b).toNat l:=by
 have hl:e.length=l.length:=by rw[he,sortR_len (by omega) (by omega)]
 have hs:SrtIn κ e a.toNat i.toNat:=by
  rw[he,show(min i b).toNat=i.toNat by omega]
  exact sortR_srt (by omega) (by omega)
 rw[hd,ins_step (a:=a.toNat) (by omega) (by omega) (by omega) hs hg (by rcases hle with h|h;exact .inl (by omega);exact .inr (by rw[show j.toNat-1=(j-1).toNat by omega];exact h)),he,show(min (i+1) b).toNat=i.toNat+1 by omega,show(min i b).toNat=i.toNat by omega]
 exact sortR_sortR (Nat.le_refl _) (by omega) (by omega) (by omega)
theorem rotI_left {l:List α} {m i j:Int} (hi:0<i) (hj:0<j) (hij:j<i) (him:i≤m) (hb:m+j≤l.length):rotR (swapR l (m-i).toNat m.toNat j.toNat) (m-(i-j)).toNat m.toNat (m+j).toNat=rotR l (m-i).toNat m.toNat (m+j).toNat:=by
 have:=rot_left (l:=l) (a:=(m-i).toNat) (m:=m.toNat) (b:=(m+j).toNat) (by omega) (by omega) (by omega) (by omega)
 rw[show(m+j).toNat-m.toNat=j.toNat by omega,show(m-i).toNat+j.toNat=(m-(i-j)).toNat by omega] at this
 exact this
theorem rotI_right {l:List α} {m i j:Int} (hi:0<i) (hj:0<j) (hij:i<j) (him:i≤m) (hb:m+j≤l.length):rotR (swapR l (m-i).toNat (m+j-i).toNat i.toNat) (m-i).toNat m.toNat (m+(j-i)).toNat=rotR l (m-i).toNat m.toNat (m+j).toNat:=by
 have:=rot_right (l:=l) (a:=(m-i).toNat) (m:=m.toNat) (b:=(m+j).toNat) (by omega) (by omega) (by omega) (by omega)
 rw[show m.toNat-(m-i).toNat=i.toNat by omega,show(m+j).toNat-i.toNat=(m+j-i).toNat by omega] at this
 rw[show m+(j-i)=m+j-i by omega]
 exact this
theorem rotI_same {l:List α} {m i:Int} (hi:0<i) (him:i≤m) (hb:m+i≤l.length):swapR l (m-i).toNat m.toNat i.toNat=rotR l (m-i).toNat m.toNat (m+i).toNat:=by
 have:=rot_same (l:=l) (a:=(m-i).toNat) (m:=m.toNat) (b:=(m+i).toNat) (by omega) (by omega) (by omega) (by omega)
 rw[show(m+i).toNat-m.toNat=i.toNat by omega] at this
 exact this
structure SymI (κ:α→Int) (l:List α) (a m b s r:Int):Prop where
 lo1:a≤s
 lo2:(a+b) / 2+m≤b+s
 sr:s≤r
 hi1:r≤(a+b) / 2
 hi2:r≤m
 ge:∀ c:Nat,a≤c→(a+b) / 2+m≤b+c→(c:Int)<s→κ (l.getD c default)≤κ (l.getD ((a+b) / 2+m-1-c).toNat default)
 lt:∀ c:Nat,r≤c→(c:Int)<(a+b) / 2→(c:Int)<m→κ (l.getD ((a+b) / 2+m-1-c).toNat default)<κ (l.getD c default)
structure MgI (κ:α→Int) (l:List α) (a m b:Int):Prop where
 a0:0≤a
 am:a<m
 mb:m<b
 bl:b≤l.length
 s1:SrtIn κ l a.toNat m.toNat
 s2:SrtIn κ l m.toNat b.toNat
variable {l:List α} {a m b s r:Int}
theorem SymI.start (h:MgI κ l a m b):SymI κ l a m b (if(a+b) / 2<m then(a+b) / 2+m-b else a) (if(a+b) / 2<m then(a+b) / 2 else m):=by
 obtain⟨h0,h1,h2,h3,_,_⟩:=h
 split
 ·exact⟨by omega,by omega,by omega,by omega,by omega,fun c _ _ _=>by omega,fun c _ _ _=>by omega⟩
 ·exact⟨by omega,by omega,by omega,by omega,by omega,fun c _ _ _=>by omega,fun c _ _ _=>by omega⟩
theorem SymI.up (h:MgI κ l a m b) (hs:SymI κ l a m b s r) (hsr:s<r) (hk:κ (l.getD ((s+r) / 2).toNat default)≤κ (l.getD ((a+b) / 2+m-1-(s+r) / 2).toNat default)):SymI κ l a m b ((s+r) / 2+1) r:=by
 obtain⟨h0,h1,h2,h3,s1,s2⟩:=h
 obtain⟨l1,l2,l3,l4,l5,l6,l7⟩:=hs
 refine⟨by omega,by omega,by omega,l4,l5,fun c q1 q2 q3=>?_,l7⟩
 have e1:=s1 c ((s+r) / 2).toNat (by omega) (by omega) (by omega)
 have e2:=s2 ((a+b) / 2+m-1-(s+r) / 2).toNat ((a+b) / 2+m-1-c).toNat (by omega) (by omega) (by omega)
 omega
theorem SymI.down (h:MgI κ l a m b) (hs:SymI κ l a m b s r) (hsr:s<r) (hk:κ (l.getD ((a+b) / 2+m-1-(s+r) / 2).toNat default)<κ (l.getD ((s+r) / 2).toNat default)):SymI κ l a m b s ((s+r) / 2):=by
 obtain⟨h0,h1,h2,h3,s1,s2⟩:=h
 obtain⟨l1,l2,l3,l4,l5,l6,l7⟩:=hs
 refine⟨l1,l2,by omega,by omega,by omega,l6,fun c q1 q2 q3=>?_⟩
 have e1:=s1 ((s+r) / 2).toNat c (by omega) (by omega) (by omega)
 have e2:=s2 ((a+b) / 2+m-1-c).toNat ((a+b) / 2+m-1-(s+r) / 2).toNat (by omega) (by omega) (by omega)
 omega
theorem SymI.stop (h:MgI κ l a m b) (hs:SymI κ l a m b s r) (hsr:r≤s):SymAt κ l a.toNat m.toNat b.toNat ((a+b) / 2).toNat s.toNat:=by
 obtain⟨h0,h1,h2,h3,s1,s2⟩:=h
 obtain⟨l1,l2,l3,l4,l5,l6,l7⟩:=hs
 refine⟨by omega,by omega,by omega,by omega,fun c q1 q2 q3=>?_,fun c q1 q2 q3=>?_⟩
 ·have:=l6 c (by omega) (by omega) (by omega)
  rw[show((a+b) / 2+m-1-(c:Int)).toNat=((a+b) / 2).toNat+m.toNat-1-c by omega] at this
  exact this
 ·have:=l7 c (by omega) (by omega) (by omega)
  rw[show((a+b) / 2+m-1-(c:Int)).toNat=((a+b) / 2).toNat+m.toNat-1-c by omega] at this
  exact this
def symD1 (l:List α) (a m b s:Int):List α:=if s<m∧m<(a+b) / 2+m-s then rotR l s.toNat m.toNat ((a+b) / 2+m-s).toNat else l
theorem symD1_eq (h:MgI κ l a m b) (hs:SymI κ l a m b s r) (hsr:r≤s):symD1 l a m b s=rotR l s.toNat m.toNat (((a+b) / 2).toNat+m.toNat-s.toNat):=by
 obtain⟨h0,h1,h2,h3,s1,s2⟩:=h
 obtain⟨l1,l2,l3,l4,l5,l6,l7⟩:=hs
 unfold symD1
 split
 ·congr 1;omega
 ·rename_i hn
  by_cases e:s=m
  ·subst e
   unfold rotR
   refine((ixs_congr l fun k hk=>?_).trans (ixs_id l)).symm
   unfold roI
   repeat' split
   all_goals omega
  ·exact(rot_none (.inr (by omega)) (by omega)).symm
def symD2 (κ:α→Int) (l:List α) (a m b s:Int):List α:=if a<s∧s<(a+b) / 2 then sortR κ a.toNat ((a+b) / 2).toNat (symD1 l a m b s) else symD1 l a m b s
theorem symD1_len:(symD1 l a m b s).length=l.length:=by unfold symD1;split<;>simp[rotR_len]
theorem symI_left (h:MgI κ l a m b) (hs:SymI κ l a m b s r) (hsr:r≤s) (h1:a<s) (h2:s<(a+b) / 2):MgI κ (symD1 l a m b s) a s ((a+b) / 2):=by
 have ha:=hs.stop h hsr
 have e:=symD1_eq h hs hsr
 obtain⟨k1,k2,k3,k4,k5⟩:=sym_mid ha (by have:=h.am;have:=h.a0;omega) (by have:=h.mb;omega) (by have:=h.a0;have:=h.am;have:=h.mb;omega) (by have:=h.a0;have:=h.am;have:=h.mb;omega) (by have:=h.bl;have:=h.a0;have:=h.am;have:=h.mb;omega) h.s1 h.s2
 rw[←e] at k1 k2 k3 k4 k5
 exact⟨h.a0,h1,h2,by rw[symD1_len];have:=h.bl;have:=h.am;have:=h.mb;omega,k2,k3⟩
theorem symI_right (h:MgI κ l a m b) (hs:SymI κ l a m b s r) (hsr:r≤s) (h1:(a+b) / 2<(a+b) / 2+m-s) (h2:(a+b) / 2+m-s<b):MgI κ (symD2 κ l a m b s) ((a+b) / 2) ((a+b) / 2+m-s) b:=by
 have ha:=hs.stop h hsr
 have e:=symD1_eq h hs hsr
 have q0:=h.a0
 have q1:=h.am
 have q2:=h.mb
 have q3:=h.bl
 have l4:=hs.hi1
 have l5:=hs.hi2
 have l3:=hs.sr
 have l1:=hs.lo1
 have l2:=hs.lo2
 obtain⟨k1,k2,k3,k4,k5⟩:=sym_mid ha (by omega) (by omega) (by omega) (by omega) (by omega) h.s1 h.s2
 rw[←e] at k1 k2 k3 k4 k5
 have hl:=symD1_len (l:=l) (a:=a) (m:=m) (b:=b) (s:=s)
 have en:((a+b) / 2).toNat+m.toNat-s.toNat=((a+b) / 2+m-s).toNat:=by omega
 rw[en] at k4 k5
 have keep:∀ {x y:Nat},((a+b) / 2).toNat≤x→y≤l.length→SrtIn κ (symD1 l a m b s) x y→SrtIn κ (symD2 κ l a m b s) x y:=fun{x y} hx hy hh=>by
  unfold symD2
  split
  ·intro i j p1 p2 p3
   rw[sortR_out (by omega) (by omega) (.inr (by omega)),sortR_out (by omega) (by omega) (.inr (by omega))]
   exact hh i j p1 p2 p3
  ·exact hh
 refine⟨by omega,h1,h2,?_,keep (Nat.le_refl _) (by omega) k4,keep (by omega) (by omega) k5⟩
 unfold symD2
 split
 ·rw[sortR_len (by omega) (by omega),hl];exact q3
 ·rw[hl];exact q3
theorem symI_end (h:MgI κ l a m b) (hs:SymI κ l a m b s r) (hsr:r≤s) {d:List α} (e3:d=if(a+b) / 2<(a+b) / 2+m-s∧(a+b) / 2+m-s<b then sortR κ ((a+b) / 2).toNat b.toNat (symD2 κ l a m b s) else symD2 κ l a m b s):d=sortR κ a.toNat b.toNat l:=by
 have ha:=hs.stop h hsr
 have q0:=h.a0
 have q1:=h.am
 have q2:=h.mb
 have q3:=h.bl
 have l4:=hs.hi1
 have l5:=hs.hi2
 have l3:=hs.sr
 have l1:=hs.lo1
 have l2:=hs.lo2
 refine sym_end ha (by omega) (by omega) (by omega) (by omega) (by omega) h.s1 h.s2 (symD1_eq h hs hsr) (d2:=symD2 κ l a m b s) ?_ ?_
 ·unfold symD2
  by_cases c:a<s∧s<(a+b) / 2
  ·rw[if_pos c,if_pos (by omega)]
  ·rw[if_neg c,if_neg (by omega)]
 ·rw[e3]
  by_cases c:(a+b) / 2<(a+b) / 2+m-s∧(a+b) / 2+m-s<b
  ·rw[if_pos c,if_pos (by omega)]
  ·rw[if_neg c,if_neg (by omega)]
structure BsL (κ:α→Int) (l:List α) (a m b i j:Int):Prop where
 mi:m≤i
 ij:i≤j
 jb:j≤b
 lt:∀ k:Nat,m≤k→(k:Int)<i→κ (l.getD k default)<κ (l.getD a.toNat default)
 ge:∀ k:Nat,j≤k→(k:Int)<b→κ (l.getD a.toNat default)≤κ (l.getD k default)
theorem BsL.start (h:MgI κ l a m b):BsL κ l a m b m b:=⟨Int.le_refl _,Int.le_of_lt h.mb,Int.le_refl _,fun k _ _=>by omega,fun k _ _=>by omega⟩
theorem BsL.up {i j:Int} (h:MgI κ l a m b) (hs:BsL κ l a m b i j) (hij:i<j) (hk:κ (l.getD ((i+j) / 2).toNat default)<κ (l.getD a.toNat default)):BsL κ l a m b ((i+j) / 2+1) j:=by
 obtain⟨h1,h2,h3,h4,h5⟩:=hs
 have:=h.a0
 have:=h.am
 have:=h.mb
 exact⟨by omega,by omega,h3,fun k q1 q2=>Int.lt_of_le_of_lt (h.s2 k ((i+j) / 2).toNat (by omega) (by omega) (by omega)) hk,h5⟩
theorem BsL.down {i j:Int} (h:MgI κ l a m b) (hs:BsL κ l a m b i j) (hij:i<j) (hk:κ (l.getD a.toNat default)≤κ (l.getD ((i+j) / 2).toNat default)):BsL κ l a m b i ((i+j) / 2):=by
 obtain⟨h1,h2,h3,h4,h5⟩:=hs
 have:=h.a0
 have:=h.am
 have:=h.mb
 exact⟨h1,by omega,by omega,h4,fun k q1 q2=>Int.le_trans hk (h.s2 ((i+j) / 2).toNat k (by omega) (by omega) (by omega))⟩
theorem BsL.stop {i j:Int} (h:MgI κ l a m b) (hm:m=a+1) (hs:BsL κ l a m b i j) (hij:j≤i):rotR l a.toNat (a.toNat+1) i.toNat=sortR κ a.toNat b.toNat l:=by
 obtain⟨h1,h2,h3,h4,h5⟩:=hs
 have q0:=h.a0
 have q1:=h.am
 have q2:=h.mb
 have q3:=h.bl
 have q4:=h.s2
 rw[show m.toNat=a.toNat+1 by omega] at q4
 exact merge_one (by omega) (by omega) (by omega) q4 (fun k p1 p2=>h4 k (by omega) (by omega)) (fun k p1 p2=>h5 k (by omega) (by omega))
structure BsR (κ:α→Int) (l:List α) (a m b i j:Int):Prop where
 ai:a≤i
 ij:i≤j
 jm:j≤m
 le:∀ k:Nat,a≤k→(k:Int)<i→κ (l.getD k default)≤κ (l.getD m.toNat default)
 gt:∀ k:Nat,j≤k→(k:Int)<m→κ (l.getD m.toNat default)<κ (l.getD k default)
theorem BsR.start (h:MgI κ l a m b):BsR κ l a m b a m:=⟨Int.le_refl _,Int.le_of_lt h.am,Int.le_refl _,fun k _ _=>by omega,fun k _ _=>by omega⟩
theorem BsR.up {i j:Int} (h:MgI κ l a m b) (hs:BsR κ l a m b i j) (hij:i<j) (hk:κ (l.getD ((i+j) / 2).toNat default)≤κ (l.getD m.toNat default)):BsR κ l a m b ((i+j) / 2+1) j:=by
 obtain⟨h1,h2,h3,h4,h5⟩:=hs
 have:=h.a0
 have:=h.am
 have:=h.mb
 exact⟨by omega,by omega,h3,fun k q1 q2=>Int.le_trans (h.s1 k ((i+j) / 2).toNat (by omega) (by omega) (by omega)) hk,h5⟩
theorem BsR.down {i j:Int} (h:MgI κ l a m b) (hs:BsR κ l a m b i j) (hij:i<j) (hk:κ (l.getD m.toNat default)<κ (l.getD ((i+j) / 2).toNat default)):BsR κ l a m b i ((i+j) / 2):=by
 obtain⟨h1,h2,h3,h4,h5⟩:=hs
 have:=h.a0
 have:=h.am
 have:=h.mb
 exact⟨h1,by omega,by omega,h4,fun k q1 q2=>Int.lt_of_lt_of_le hk (h.s1 ((i+j) / 2).toNat k (by omega) (by omega) (by omega))⟩
theorem BsR.stop {i j:Int} (h:MgI κ l a m b) (hb:b=m+1) (hs:BsR κ l a m b i j) (hij:j≤i):rotR l i.toNat m.toNat (m.toNat+1)=sortR κ a.toNat b.toNat l:=by
 obtain⟨h1,h2,h3,h4,h5⟩:=hs
 have q0:=h.a0
 have q1:=h.am
 have q2:=h.mb
 have q3:=h.bl
 rw[show b.toNat=m.toNat+1 by omega]
 exact merge_last (by omega) (by omega) (by omega) h.s1 (fun k p1 p2=>h4 k (by omega) (by omega)) (fun k p1 p2=>h5 k (by omega) (by omega))
theorem upI {l d:List α} {a k:Int} (e:d=rotR l a.toNat (a.toNat+1) (k.toNat+1)) (ha:0≤a) (hk:a≤k) (hl:k+1<l.length) :
 (d.modify k.toNat fun _=>d.getD (k+1).toNat default).modify (k+1).toNat (fun _=>d.getD k.toNat default)=rotR l a.toNat (a.toNat+1) ((k+1).toNat+1):=by
 have hl2:d.length=l.length:=by rw[e,rotR_len]
 rw[swap_mod (by omega) (by omega),e,show(k+1).toNat=k.toNat+1 by omega]
 exact rot_up (by omega) (by omega)
theorem rot_self2 {l:List α} {i:Nat}:l=rotR l i (i+1) (i+1):=(rot_none (.inr (Nat.le_refl _)) (Nat.le_succ _)).symm
theorem half2 {x:Int} (h0:0≤x) (h1:x≤9223372036854775807):(IntKind.u64.wrap x).fdiv 2=x / 2:=by
 have e:IntKind.u64.wrap x=x:=by
  show x % 18446744073709551616=x
  omega
 rw[e,Int.fdiv_eq_ediv_of_nonneg _ (by omega)]
theorem symD2_len (h:MgI κ l a m b):(symD2 κ l a m b s).length=l.length:=by
 have q0:=h.a0
 have q1:=h.am
 have q2:=h.mb
 have q3:=h.bl
 unfold symD2
 split
 ·rw[sortR_len (by omega) (by rw[symD1_len];omega),symD1_len]
 ·exact symD1_len
theorem symI_left2 (hl:l.length≤100000000000) (h:MgI κ l a m b) (hs:SymI κ l a m b s r) (hsr:r≤s) (h1:a<s) (h2:s<(a+b) / 2):(symD1 l a m b s).length≤100000000000∧MgI κ (symD1 l a m b s) a s ((a+b) / 2):=⟨by rw[symD1_len];exact hl,symI_left h hs hsr h1 h2⟩
theorem symI_right2 (hl:l.length≤100000000000) (h:MgI κ l a m b) (hs:SymI κ l a m b s r) (hsr:r≤s) (h1:(a+b) / 2<(a+b) / 2+m-s) (h2:(a+b) / 2+m-s<b):(symD2 κ l a m b s).length≤100000000000∧MgI κ (symD2 κ l a m b s) ((a+b) / 2) ((a+b) / 2+m-s) b:=⟨by rw[symD2_len h];exact hl,symI_right h hs hsr h1 h2⟩
variable {d:List α} {n:Int}
theorem dvd_lt {k x y:Int} (hk:0<k) (h1:k ∣ x) (h2:k ∣ y) (h:x<y+k):x≤y:=by
 obtain⟨p,rfl⟩:=h1
 obtain⟨q,rfl⟩:=h2
 have h3:k*p<k*(q+1):=by rw[Int.mul_add,Int.mul_one];exact h
 have:=Int.lt_of_mul_lt_mul_left h3 (Int.le_of_lt hk)
 exact Int.mul_le_mul_of_nonneg_left (by omega) (Int.le_of_lt hk)
structure St1 (κ:α→Int) (l d:List α) (s a n:Int):Prop where
 len:d.length=l.length
 sim:SimK κ l d
 nn:n=l.length
 s0:0<s
 a0:0≤a
 an:a≤n
 dv:s ∣ a
 bl:∀ x:Nat,s ∣ x→(x:Int)<a→SrtIn κ d x (x+s).toNat
structure St2 (κ:α→Int) (l d:List α) (s n:Int):Prop where
 len:d.length=l.length
 sim:SimK κ l d
 nn:n=l.length
 s0:0<s
 bl:∀ x:Nat,s ∣ x→(x:Int)<n→SrtIn κ d x (min (x+s) n).toNat
structure St3 (κ:α→Int) (l d:List α) (s a n:Int):Prop where
 len:d.length=l.length
 sim:SimK κ l d
 nn:n=l.length
 s0:0<s
 a0:0≤a
 an:a≤n
 dv:2*s ∣ a
 lo:∀ x:Nat,2*s ∣ x→(x:Int)<a→SrtIn κ d x (x+2*s).toNat
 hi:∀ x:Nat,s ∣ x→a≤x→(x:Int)<n→SrtIn κ d x (min (x+s) n).toNat
theorem srt_off {l:List α} {a b x y:Nat} (hab:a≤b) (hb:b≤l.length) (hy:y≤l.length) (h:y≤a∨b≤x) (hs:SrtIn κ l x y):SrtIn κ (sortR κ a b l) x y:=by
 intro i j h1 h2 h3
 rw[sortR_out hab hb (by omega),sortR_out hab hb (by omega)]
 exact hs i j h1 h2 h3
theorem St1.start (hn:n=l.length):St1 κ l l 20 0 n:=⟨rfl,SimK.refl l,hn,by omega,Int.le_refl _,by omega,⟨0,rfl⟩,fun x _ h=>by omega⟩
theorem St1.next (h:St1 κ l d s a n) (hb:a+s≤n):St1 κ l (sortR κ a.toNat (a+s).toNat d) s (a+s) n:=by
 obtain⟨h1,h2,h3,h4,h5,h6,h7,h8⟩:=h
 refine⟨by rw[sortR_len (by omega) (by omega),h1],h2.trans (sortR_sim (by omega)),h3,h4,by omega,hb,Int.dvd_add h7 (Int.dvd_refl s),fun x q1 q2=>?_⟩
 have q3:=dvd_lt h4 q1 h7 q2
 by_cases c:(x:Int)=a
 ·rw[show x=a.toNat by omega,show((a.toNat:Int)+s).toNat=(a+s).toNat by omega]
  exact sortR_srt (by omega) (by omega)
 ·refine srt_off (by omega) (by omega) ?_ (.inl ?_) (h8 x q1 (by omega))
  ·have:=dvd_lt h4 (Int.dvd_add q1 (Int.dvd_refl s)) h7 (by omega);omega
  ·have:=dvd_lt h4 (Int.dvd_add q1 (Int.dvd_refl s)) h7 (by omega);omega
theorem St1.fin (h:St1 κ l d s a n) (hb:n<a+s):St2 κ l (sortR κ a.toNat n.toNat d) s n:=by
 obtain⟨h1,h2,h3,h4,h5,h6,h7,h8⟩:=h
 refine⟨by rw[sortR_len (by omega) (by omega),h1],h2.trans (sortR_sim (by omega)),h3,h4,fun x q1 q2=>?_⟩
 have q3:=dvd_lt h4 q1 h7 (by omega)
 by_cases c:(x:Int)=a
 ·rw[show x=a.toNat by omega,show(min ((a.toNat:Int)+s) n).toNat=n.toNat by omega]
  exact sortR_srt (by omega) (by omega)
 ·have q4:=dvd_lt h4 (Int.dvd_add q1 (Int.dvd_refl s)) h7 (by omega)
  rw[show(min ((x:Int)+s) n).toNat=(x+s).toNat by omega]
  exact srt_off (by omega) (by omega) (by omega) (.inl (by omega)) (h8 x q1 (by omega))
theorem St2.stop (h:St2 κ l d s n) (hs:n≤s):d=isrt κ l:=by
 obtain⟨h1,h2,h3,h4,h5⟩:=h
 by_cases c:n=0
 ·have:l=[]:=List.length_eq_zero_iff.1 (by omega)
  subst this
  exact List.length_eq_zero_iff.1 (by simpa using h1)
 ·have h6:=h5 0 (by simp) (by omega)
  refine isrt_uniq ?_ h2
  have:seg d 0 n.toNat=d:=by unfold seg;rw[List.drop_zero,List.take_of_length_le (by omega)]
  rw[←this,srt_seg (by omega)]
  rw[show(min (((0:Nat):Int)+s) n).toNat=n.toNat by omega] at h6
  exact h6
theorem St3.start (h:St2 κ l d s n):St3 κ l d s 0 n:=by
 obtain⟨h1,h2,h3,h4,h5⟩:=h
 exact⟨h1,h2,h3,h4,Int.le_refl _,by omega,⟨0,by simp⟩,fun x _ q=>by omega,fun x q1 _ q2=>h5 x q1 q2⟩
theorem two_dvd {s a:Int} (h:2*s ∣ a):s ∣ a:=Int.dvd_trans ⟨2,by omega⟩ h
theorem St3.mg (h:St3 κ l d s a n) (hb:a+2*s≤n):MgI κ d a (a+s) (a+2*s):=by
 obtain⟨h1,h2,h3,h4,h5,h6,h7,h8,h9⟩:=h
 have e:((a.toNat:Nat):Int)=a:=by omega
 refine⟨h5,by omega,by omega,by omega,?_,?_⟩
 ·have:=h9 a.toNat (by rw[e];exact two_dvd h7) (by omega) (by omega)
  rw[show(min ((a.toNat:Int)+s) n).toNat=(a+s).toNat by omega] at this
  exact this
 ·have:=h9 (a+s).toNat (by rw[show(((a+s).toNat:Nat):Int)=a+s by omega];exact Int.dvd_add (two_dvd h7) (Int.dvd_refl s)) (by omega) (by omega)
  rw[show(min (((a+s).toNat:Int)+s) n).toNat=(a+2*s).toNat by omega] at this
  exact this
theorem St3.next (h:St3 κ l d s a n) (hb:a+2*s≤n):St3 κ l (sortR κ a.toNat (a+2*s).toNat d) s (a+2*s) n:=by
 obtain⟨h1,h2,h3,h4,h5,h6,h7,h8,h9⟩:=h
 refine⟨by rw[sortR_len (by omega) (by omega),h1],h2.trans (sortR_sim (by omega)),h3,h4,by omega,hb,Int.dvd_add h7 (Int.dvd_refl _),fun x q1 q2=>?_,fun x q1 q2 q3=>?_⟩
 ·have q3:=dvd_lt (by omega) q1 h7 q2
  by_cases c:(x:Int)=a
  ·rw[show x=a.toNat by omega,show((a.toNat:Int)+2*s).toNat=(a+2*s).toNat by omega]
   exact sortR_srt (by omega) (by omega)
  ·have q4:=dvd_lt (by omega) (Int.dvd_add q1 (Int.dvd_refl (2*s))) h7 (by omega)
   exact srt_off (by omega) (by omega) (by omega) (.inl (by omega)) (h8 x q1 (by omega))
 ·exact srt_off (by omega) (by omega) (by omega) (.inr (by omega)) (h9 x q1 (by omega) q3)
theorem St3.mg2 (h:St3 κ l d s a n) (hm:a+s<n) (hb:n<a+2*s):MgI κ d a (a+s) n:=by
 obtain⟨h1,h2,h3,h4,h5,h6,h7,h8,h9⟩:=h
 have e:((a.toNat:Nat):Int)=a:=by omega
 refine⟨h5,by omega,hm,by omega,?_,?_⟩
 ·have:=h9 a.toNat (by rw[e];exact two_dvd h7) (by omega) (by omega)
  rw[show(min ((a.toNat:Int)+s) n).toNat=(a+s).toNat by omega] at this
  exact this
 ·have:=h9 (a+s).toNat (by rw[show(((a+s).toNat:Nat):Int)=a+s by omega];exact Int.dvd_add (two_dvd h7) (Int.dvd_refl s)) (by omega) (by omega)
  rw[show(min (((a+s).toNat:Int)+s) n).toNat=n.toNat by omega] at this
  exact this
theorem St3.fin1 (h:St3 κ l d s a n) (hb:n<a+2*s):St2 κ l (sortR κ a.toNat n.toNat d) (s*2) n:=by
 obtain⟨h1,h2,h3,h4,h5,h6,h7,h8,h9⟩:=h
 refine⟨by rw[sortR_len (by omega) (by omega),h1],h2.trans (sortR_sim (by omega)),h3,by omega,fun x q1 q2=>?_⟩
 rw[Int.mul_comm s 2] at q1
 have q3:=dvd_lt (by omega) q1 h7 (by omega)
 by_cases c:(x:Int)=a
 ·rw[show x=a.toNat by omega,show(min ((a.toNat:Int)+s*2) n).toNat=n.toNat by omega]
  exact sortR_srt (by omega) (by omega)
 ·have q4:=dvd_lt (by omega) (Int.dvd_add q1 (Int.dvd_refl (2*s))) h7 (by omega)
  rw[show(min ((x:Int)+s*2) n).toNat=(x+2*s).toNat by omega]
  exact srt_off (by omega) (by omega) (by omega) (.inl (by omega)) (h8 x q1 (by omega))
theorem St3.fin2 (h:St3 κ l d s a n) (hm:n≤a+s) (hb:n<a+2*s):St2 κ l d (s*2) n:=by
 obtain⟨h1,h2,h3,h4,h5,h6,h7,h8,h9⟩:=h
 refine⟨h1,h2,h3,by omega,fun x q1 q2=>?_⟩
 rw[Int.mul_comm s 2] at q1
 have q3:=dvd_lt (by omega) q1 h7 (by omega)
 by_cases c:(x:Int)=a
 ·have:=h9 x (two_dvd q1) (by omega) q2
  rw[show(min ((x:Int)+s*2) n).toNat=(min ((x:Int)+s) n).toNat by omega]
  exact this
 ·have q4:=dvd_lt (by omega) (Int.dvd_add q1 (Int.dvd_refl (2*s))) h7 (by omega)
  rw[show(min ((x:Int)+s*2) n).toNat=(x+2*s).toNat by omega]
  exact h8 x q1 (by omega)
end
end Go.D
namespace Go.D
def fmtI (n:Int):ByteArray:=⟨(Lib.itoa n).toArray⟩
def decS (k:Nat) (s:ByteArray):ByteArray:=if k=0 then s else⟨(Lib.decDigits k).toArray⟩++s
theorem decDigits_step {k:Nat} (h:10≤k):Lib.decDigits k=Lib.decDigits (k / 10)++[UInt8.ofNat (48+k % 10)]:=by
 rw[Lib.decDigits,dif_neg (by omega)]
theorem decDigits_low {k:Nat} (h:k<10):Lib.decDigits k=[UInt8.ofNat (48+k)]:=by
 rw[Lib.decDigits,dif_pos h]
theorem decS_step {k:Nat} {s:ByteArray} (h:0<k):decS k s=decS (k / 10) (⟨#[UInt8.ofNat (48+k % 10)]⟩++s):=by
 unfold decS
 rw[if_neg (by omega)]
 by_cases h1:k<10
 ·rw[if_pos (by omega),decDigits_low h1,Nat.mod_eq_of_lt h1]
 ·rw[if_neg (by omega),decDigits_step (by omega)]
  rw[←ByteArray.append_assoc]
  congr 1
theorem fmtI_zero:fmtI 0=⟨#[48]⟩:=by
 unfold fmtI Lib.itoa
 rw[if_neg (by omega),decDigits_low (by decide)]
 rfl
theorem fmtI_neg {n:Int} (h:n<0):fmtI n=⟨#[45]⟩++decS n.natAbs ⟨#[]⟩:=by
 unfold fmtI Lib.itoa decS
 rw[if_pos h,if_neg (by omega)]
 apply ByteArray.ext
 simp
theorem fmtI_pos {n:Int} (h:0<n):fmtI n=decS n.natAbs ⟨#[]⟩:=by
 unfold fmtI Lib.itoa decS
 rw[if_neg (by omega),if_neg (by omega),show n.toNat=n.natAbs by omega]
 apply ByteArray.ext
 simp
theorem decDigits_len10:∀ (f k:Nat),k<10 ^ (f+1)→(Lib.decDigits k).length≤f+1
 | 0,k,h=>by rw[decDigits_low (by omega)];simp
 | f+1,k,h=>by
  by_cases h1:k<10
  ·rw[decDigits_low h1];simp
  ·rw[decDigits_step (by omega),List.length_append]
   have:=decDigits_len10 f (k / 10) (by rw[Nat.pow_succ] at h;omega)
   simp only[List.length_cons,List.length_nil];omega
theorem fmtI_size {n:Int} (h0 : -9223372036854775808≤n) (h1:n≤9223372036854775807):(fmtI n).size≤20:=by
 have e:(fmtI n).size=(Lib.itoa n).length:=by simp[fmtI,ByteArray.size]
 rw[e]
 unfold Lib.itoa
 split
 ·have:=decDigits_len10 18 n.natAbs (by omega)
  simp only[List.length_cons];omega
 ·have:=decDigits_len10 18 n.toNat (by omega)
  omega
theorem tmod_abs (x:Int):(if x.tmod 10<0 then 0-x.tmod 10 else x.tmod 10)=((x.natAbs % 10:Nat):Int):=by
 have h1:(x.tmod 10).natAbs=x.natAbs % 10:=Int.natAbs_tmod x 10
 split<;>omega
theorem tdiv_abs (x:Int):(x.tdiv 10).natAbs=x.natAbs / 10:=Int.natAbs_tdiv x 10
theorem digU {k:Nat} (h:k<10):IntKind.u8.wrap (IntKind.i64.wrap (48+(k:Int)))=((48+k:Nat):Int):=by
 have e:IntKind.i64.wrap (48+(k:Int))=48+(k:Int):=wrapId (by omega)
 rw[e]
 simp only[IntKind.wrap,IntKind.bits,IntKind.signed,Bool.false_and,Bool.false_eq_true,if_false]
 have:(2 ^ 8:Int)=256:=rfl
 omega
theorem digPush {k:Nat} (h:k<10):List.foldl (fun(r:ByteArray) (n:Int)=>r.push (UInt8.ofNat n.toNat)) ByteArray.empty [((48+k:Nat):Int)]=⟨#[UInt8.ofNat (48+k)]⟩:=by
 simp only[List.foldl,Int.toNat_natCast]
 rfl
end Go.D
namespace Go.D
def splL (b:UInt8):List UInt8→List (List UInt8)
 | []=>[[]]
 | x::l=>if x=b then[]::splL b l else match splL b l with
  | []=>[[x]]
  | h::t=>(x::h)::t
theorem splL_ne (b:UInt8) (l:List UInt8):splL b l≠[]:=by
 cases l with
 | nil=>simp[splL]
 | cons x l=>
  unfold splL
  split
  ·simp
  ·split<;>simp
def glueL (p:List UInt8):List (List UInt8)→List (List UInt8)
 | []=>[p]
 | h::t=>(p++h)::t
theorem glueL_nil {l:List (List UInt8)} (h:l≠[]):glueL [] l=l:=by
 cases l with
 | nil=>exact absurd rfl h
 | cons x l=>rfl
theorem splL_cons (b x:UInt8) (l:List UInt8):splL b (x::l)=if x=b then[]::splL b l else glueL [x] (splL b l):=by
 rw[splL]
 split
 ·rfl
 ·have:=splL_ne b l
  cases h:splL b l with
  | nil=>exact absurd h this
  | cons y t=>rfl
theorem glueL_glueL (p q:List UInt8) {l:List (List UInt8)} (h:l≠[]):glueL p (glueL q l)=glueL (p++q) l:=by
 cases l with
 | nil=>exact absurd rfl h
 | cons x l=>simp[glueL]
theorem glueL_cons (p h:List UInt8) (t:List (List UInt8)):glueL p (h::t)=(p++h)::t:=rfl
theorem splL_len (b:UInt8):∀ l:List UInt8,(splL b l).length≤l.length+1∧∀ p∈splL b l,p.length≤l.length
 | []=>by simp[splL]
 | x::l=>by
  obtain⟨h1,h2⟩:=splL_len b l
  rw[splL_cons]
  split
  ·refine⟨by simp only[List.length_cons];omega,fun p hp=>?_⟩
   rcases List.mem_cons.1 hp with rfl|hp
   ·simp
   ·have:=h2 p hp;simp only[List.length_cons];omega
  ·cases h:splL b l with
   | nil=>exact absurd h (splL_ne b l)
   | cons y t=>
    rw[h] at h1 h2
    refine⟨by simp only[glueL,List.length_cons] at h1 ⊢;omega,fun p hp=>?_⟩
    simp only[glueL,List.mem_cons] at hp
    rcases hp with rfl|hp
    ·have:=h2 y List.mem_cons_self;simp only[List.length_append,List.length_cons,List.length_nil];omega
    ·have:=h2 p (List.mem_cons_of_mem _ hp);simp only[List.length_cons];omega
def ofL (l:List UInt8):ByteArray:=⟨l.toArray⟩
def toL (s:ByteArray):List UInt8:=s.data.toList
theorem ofL_toL (s:ByteArray):ofL (toL s)=s:=by simp[ofL,toL]
theorem toL_ofL (l:List UInt8):toL (ofL l)=l:=by simp[ofL,toL]
theorem toL_len (s:ByteArray):(toL s).length=s.size:=rfl
theorem ofL_size (l:List UInt8):(ofL l).size=l.length:=by simp[ofL,ByteArray.size]
theorem toL_extract (s:ByteArray) (a b:Nat):toL (s.extract a b)=((toL s).take b).drop a:=by
 simp[toL,List.drop_take]
def spl (b:UInt8) (s:ByteArray):List ByteArray:=(splL b (toL s)).map ofL
def splAt (b:UInt8) (s:ByteArray) (a i:Nat):List ByteArray:=if i≤s.size then(glueL (((toL s).take i).drop a) (splL b ((toL s).drop i))).map ofL else[]
theorem splAt_zero (b:UInt8) (s:ByteArray):splAt b s 0 0=spl b s:=by
 unfold splAt spl
 rw[if_pos (Nat.zero_le _)]
 simp[glueL_nil (splL_ne b _)]
theorem splAt_end (b:UInt8) {s:ByteArray} {a i:Nat} (h:s.size<i):splAt b s a i=[]:=by
 unfold splAt;rw[if_neg (by omega)]
theorem splAt_last (b:UInt8) {s:ByteArray} {a i:Nat} (h:i=s.size):splAt b s a i=[s.extract a i]:=by
 subst h
 unfold splAt
 rw[if_pos (Nat.le_refl _),List.drop_of_length_le (l:=toL s) (i:=s.size) (by rw[toL_len];exact Nat.le_refl _)]
 rw[splL,glueL_cons,List.append_nil,List.map_cons,←toL_extract,ofL_toL];rfl
theorem toL_drop {s:ByteArray} {i:Nat} (h:i<s.size):(toL s).drop i=s.data.getD i 0::(toL s).drop (i+1):=by
 have h2:i<s.data.size:=h
 have e:s.data.getD i 0=s.data[i]:=by unfold Array.getD;rw[dif_pos h2];rfl
 rw[List.drop_eq_getElem_cons (by rw[toL_len];exact h),e]
 rfl
theorem splAt_hit {b:UInt8} {s:ByteArray} {a i:Nat} (h:i<s.size) (hb:s.data.getD i 0=b):splAt b s a i=s.extract a i::splAt b s (i+1) (i+1):=by
 unfold splAt
 rw[if_pos (by omega),if_pos (by omega),toL_drop h,splL_cons,if_pos hb]
 rw[glueL_cons,List.append_nil,List.map_cons,←toL_extract,ofL_toL,List.drop_of_length_le (l:=(toL s).take (i+1)) (i:=i+1) (by rw[List.length_take];omega),glueL_nil (splL_ne b _)]
theorem splAt_miss {b:UInt8} {s:ByteArray} {a i:Nat} (h:i<s.size) (ha:a≤i) (hb:s.data.getD i 0≠b):splAt b s a i=splAt b s a (i+1):=by
 unfold splAt
 rw[if_pos (by omega),if_pos (by omega),toL_drop h,splL_cons,if_neg hb,glueL_glueL _ _ (splL_ne b _)]
 congr 2
 have:(toL s).take (i+1)=(toL s).take i++[s.data.getD i 0]:=by
  have h2:i<s.data.size:=h
  have e:s.data.getD i 0=s.data[i]:=by unfold Array.getD;rw[dif_pos h2];rfl
  rw[List.take_succ_eq_append_getElem (by rw[toL_len];exact h),e]
  rfl
 rw[this,List.drop_append_of_le_length (by rw[List.length_take,toL_len];omega)]
theorem splL_sum (b:UInt8):∀ l:List UInt8,((splL b l).map fun p=>p.length+1).sum=l.length+1
 | []=>rfl
 | x::l=>by
  have h:=splL_sum b l
  rw[splL_cons]
  split
  ·simp only[List.map_cons,List.sum_cons,List.length_nil,List.length_cons,h];omega
  ·cases hq:splL b l with
   | nil=>exact absurd hq (splL_ne b l)
   | cons y t=>
    rw[hq] at h
    simp only[List.map_cons,List.sum_cons,glueL,List.length_append,List.length_cons,List.length_nil] at h ⊢
    omega
theorem spl_len (b:UInt8) (s:ByteArray):0<(spl b s).length∧(spl b s).length≤s.size+1:=by
 have h:=splL_len b (toL s)
 have h2:=splL_ne b (toL s)
 rw[toL_len] at h
 unfold spl
 rw[List.length_map]
 exact⟨List.length_pos_iff.2 h2,h.1⟩
theorem spl_mem {b:UInt8} {s x:ByteArray} (h:x∈spl b s):x.size≤s.size:=by
 unfold spl at h
 obtain⟨p,hp,rfl⟩:=List.mem_map.1 h
 rw[ofL_size]
 exact(splL_len b (toL s)).2 p hp
def cutF (b:UInt8):List UInt8→Option (List UInt8×List UInt8)
 | []=>none
 | x::l=>if x=b then some ([],l) else(cutF b l).map fun r=>(x::r.1,r.2)
theorem cutF_none {b:UInt8}:∀ {l:List UInt8},b∉l→cutF b l=none
 | [],_=>rfl
 | x::l,h=>by
  simp only[List.mem_cons,not_or] at h
  rw[cutF,if_neg (fun e=>h.1 e.symm),cutF_none h.2];rfl
theorem cutF_app {b:UInt8}:∀ {p:List UInt8} (l:List UInt8),b∉p→cutF b (p++b::l)=some (p,l)
 | [],l,_=>by rw[List.nil_append,cutF,if_pos rfl]
 | x::p,l,h=>by
  simp only[List.mem_cons,not_or] at h
  rw[List.cons_append,cutF,if_neg (fun e=>h.1 e.symm),cutF_app l h.2];rfl
theorem cutF_at {b:UInt8} {s:ByteArray} {i:Nat} (h:i<s.size) (hb:s.data.getD i 0=b) (hn:b∉(toL s).take i):cutF b (toL s)=some ((toL s).take i,(toL s).drop (i+1)):=by
 have e:toL s=(toL s).take i++b::(toL s).drop (i+1):=by
  rw[←hb,←toL_drop h,List.take_append_drop]
 rw[e,cutF_app _ hn,←e]
theorem take_no {b:UInt8} {s:ByteArray} {i:Nat} (h:i<s.size) (hb:s.data.getD i 0≠b) (hn:b∉(toL s).take i):b∉(toL s).take (i+1):=by
 have h2:i<s.data.size:=h
 have e:s.data.getD i 0=s.data[i]:=by unfold Array.getD;rw[dif_pos h2];rfl
 rw[List.take_succ_eq_append_getElem (by rw[toL_len];exact h),List.mem_append,not_or]
 refine⟨hn,?_⟩
 simp only[List.mem_singleton]
 intro h3
 exact hb (by rw[e];exact h3.symm)
end Go.D
namespace Go.D
open Go.Sort
def pv:Ty→Bool
 | .int=>true
 | .bool=>true
 | .str=>true
 | .u8=>true
 | _=>false
def vOf (t:Ty) (x:El t):Value:=match enc t x with
 | [.val v]=>v
 | _=>undef
def argVals:(as:List Ak)→As as→List Value
 | [],_=>[]
 | .v (.el t)::as,x=>vOf t x.1::argVals as x.2
 | _::as,x=>undef::argVals as x.2
def plainAs:List Ak→Bool
 | []=>true
 | .v (.el t)::as=>pv t&&plainAs as
 | _::_=>false
def plainRs:List Sh→Bool
 | []=>true
 | .el t::rs=>pv t&&plainRs rs
 | _::_=>false
def resVals:(rs:List Sh)→Ts rs→List Value
 | [],_=>[]
 | .el t::rs,x=>vOf t x.1::resVals rs x.2
 | .sl _::rs,x=>undef::resVals rs x.2
def retOf:List Value→Value
 | [v]=>v
 | vs=>.tuple vs.toArray
theorem pv_enc {t:Ty} (h:pv t=true) (x:El t):enc t x=[.val (vOf t x)]∧plain (vOf t x)=true∧(Sh.el t).agg=false:=by
 cases t<;>first|exact⟨rfl,rfl,rfl⟩|cases h
theorem plain_args {w:World} {G:Gh}:∀ (as:List Ak) (x:As as),plainAs as=true→∀ (vs:List Value),vs.length=(canons as x).length→(∀ (j:Nat) (y:TV),(canons as x)[j]? = some y→∃ v,vs[j]? = some v∧TVR w G y v)→vs=argVals as x:=by
 intro as
 induction as with
 | nil=>intro x _ vs hl _;exact List.eq_nil_of_length_eq_zero hl
 | cons a as ih=>
  intro x hp vs hl hh
  cases a with
  | v s=>
   cases s with
   | el t=>
    simp only[plainAs,Bool.and_eq_true] at hp
    obtain⟨e1,e2,e3⟩:=pv_enc hp.1 x.1
    cases vs with
    | nil=>simp[canons] at hl
    | cons v vs=>
     obtain⟨v',hv,hr⟩:=hh 0 _ rfl
     simp only[List.getElem?_cons_zero,Option.some.injEq] at hv
     subst hv
     have hc:canon (.v (.el t)) x.1=.v false [.sc (vOf t x.1)]:=by
      show TV.v (Sh.el t).agg ((enc t x.1).map (toCell none))=_
      rw[e1,e3];rfl
     rw[hc] at hr
     obtain⟨c,hc1,hc2⟩:=hr
     injection hc1 with hc1
     subst hc1
     rw[argVals,hc2.1,ih x.2 hp.2 vs (by simpa [canons] using hl) fun j y hj=>hh (j+1) y hj]
   | sl t=>simp[plainAs] at hp
  | _=>simp[plainAs] at hp
theorem plain_parts:∀ (rs:List Sh) (y:Ts rs),plainRs rs=true→mkParts rs y=(resVals rs y).map fun v=>(false,[FC.val v]):=by
 intro rs
 induction rs with
 | nil=>intro y _;rfl
 | cons s rs ih=>
  intro y hp
  cases s with
  | el t=>
   simp only[plainRs,Bool.and_eq_true] at hp
   obtain⟨e1,e2,e3⟩:=pv_enc hp.1 y.1
   simp only[mkParts,resVals,List.map_cons,ih y.2 hp.2,e3]
   congr 2
  | sl t=>simp[plainRs] at hp
theorem res_plain:∀ (rs:List Sh) (y:Ts rs),plainRs rs=true→∀ v∈resVals rs y,plain v=true:=by
 intro rs
 induction rs with
 | nil=>intro y _ v hv;cases hv
 | cons s rs ih=>
  intro y hp v hv
  cases s with
  | el t=>
   simp only[plainRs,Bool.and_eq_true] at hp
   rcases List.mem_cons.1 hv with rfl|hv
   ·exact(pv_enc hp.1 y.1).2.1
   ·exact ih y.2 hp.2 v hv
  | sl t=>simp[plainRs] at hp
theorem res_of {w:World}:∀ (vs:List Value),(∀ v∈vs,plain v=true)→ResR w (mkRes (vs.map fun v=>(false,[FC.val v]))) (retOf vs) (fun _ _ _=>False)
 | [],_=>⟨#[],rfl,rfl,by simp⟩
 | [v],h=>by
  refine⟨_,rfl,⟨rfl,h v (by simp)⟩,plain_one (h v (by simp))⟩
 | v::u::vs,h=>by
  refine⟨(v::u::vs).toArray,rfl,by simp,fun i p hp=>?_⟩
  have hp:((v::u::vs).map fun v=>(false,[FC.val v]))[i]? = some p:=hp
  rw[List.getElem?_map] at hp
  cases hq:(v::u::vs)[i]? with
  | none=>rw[hq] at hp;cases hp
  | some x=>
   rw[hq] at hp
   injection hp with hp
   subst hp
   have:=h x (List.mem_of_getElem? hq)
   exact⟨x,by simpa using hq,_,rfl,⟨rfl,this⟩,plain_one this⟩
theorem lib_ok {P:Program} {f:Nat} {S:Fct} (ha:plainAs S.as=true) (hr:plainRs S.rs=true)
 (h:∀ x,S.pre x→∀ (w:World) (ow:Nat→Own),Base P w ow→Calls P f (argVals S.as x).toArray w fun e w'=>e=.returned (retOf (resVals S.rs (S.fn x)))∧∃ n os,w'=grow (w.drewN n) os):S.ok P f:=by
 intro x hx w vs G hB hA
 have hvs:vs=(argVals S.as x).toArray:=by
  have:=plain_args (w:=w) (G:=G) S.as x ha vs.toList (by simpa [Fct.arg] using hA.sz) fun j y hj=>by
   obtain⟨v,hv,hr⟩:=hA.tm j y hj
   exact⟨v,by simpa using hv,hr⟩
  rw[←this]
 subst hvs
 refine(h x hx w _ hB).mono ?_
 rintro e w' ⟨rfl,n,os,rfl⟩
 have hold:∀ g,g<w.heap.size→(grow (w.drewN n) os).heap[g]? = w.heap[g]?:=fun g hg=>by
  rw[heap_grow_old _ _ (show g<(w.drewN n).heap.size from hg)];rfl
 refine⟨_,⟨mkR S.rs (S.fn x),[],[]⟩,rfl,rfl,⟨rfl,rfl,⟨rfl,by first|exact DrLe.refl _|exact DrLe.succ _|exact DrLe.add _ _⟩,?_⟩,fun g hg=>hold g (hA.lt g (by simp[hg])),fun g hg=>(hA.cr g hg).same (hold g (hA.lt g (by simp[hg]))),fun _ _=>False,by simp,by simp,?_,?_,?_⟩
 ·show w.heap.size≤(w.heap++os).size
  simp
 ·show ResR _ (mkRes (mkParts S.rs (S.fn x))) _ _
  rw[plain_parts _ _ hr]
  exact res_of _ (res_plain _ _ hr)
 ·intro m T hm;cases hm
 ·intro b cs hb;cases hb
end Go.D
