/-
  slices.Sort OF STRINGS ON A SLICE OF OURS, out of a y0n of the kit's kind.
-/
import Derived.Test.YtcaehabdaleamaaGreatLib8
import Derived.Shelf.Sort.Plain
import Derived.Sort.Walk0
import Derived.Test.YtcaehabdaleamaaGreatLib3
namespace Go.Ab
open Go Go.RowKit Go.Sort Go.Proofs
set_option linter.unusedVariables false
set_option linter.unusedSimpArgs false
def ylo(ss:List B8):List B8:=ss.mergeSort λx y=>decide (x<=y)
theorem zpn(ss):(ylo ss).Perm ss:=List.mergeSort_perm _ _
end Go.Ab
namespace Go.Ab
open Go
set_option linter.unusedVariables false
set_option linter.unusedSimpArgs false
theorem zn2:∀a:B8,Op.bytesLess a a=false
 |[]=>rfl
 |x::a=>by simp[Op.bytesLess,zn2 a]
theorem y0q:∀{a b c},Op.bytesLess a b=true->Op.bytesLess b c=true->Op.bytesLess a c=true
 |_,[],_,h,_=>by simp[Op.bytesLess]at h
 |_,_::_,[],_,h=>by simp[Op.bytesLess]at h
 |[],_::_,_::_,_,_=>by simp[Op.bytesLess]
 |x::a,y::b,z::c,h1,h2=>by
  simp[Op.bytesLess,Qbg]at h1 h2 ⊢
  rcases h1 with h1|⟨rfl,h1⟩
  rcases h2 with h2|⟨rfl,h2⟩
  grind
  exact .inl h1
  rcases h2 with h2|⟨rfl,h2⟩
  exact .inl h2;exact .inr ⟨rfl,y0q h1 h2⟩
theorem zyf:∀{a b},Op.bytesLess a b=false->Op.bytesLess b a=false->a=b
 |[],[],_,_=>rfl
 |[],_::_,h,_=>by simp[Op.bytesLess]at h
 |_::_,[],_,h=>by simp[Op.bytesLess]at h
 |x::a,y::b,h1,h2=>by
  simp[Op.bytesLess,beq_eq_false_iff_ne]at h1 h2;have hxy:x=y:=UInt8.toNat_inj.1 (by grind);subst hxy;have e1:Op.bytesLess a b=false:=by grind
  have e2:Op.bytesLess b a=false:=by grind
  rw[zyf e1 e2]
theorem yqc{a b}(h:Op.bytesLess a b=true):Op.bytesLess b a=false:=by
 grind[y0q,zn2]
theorem le_bl(x y):decide (x<=y) = !Op.bytesLess y x:=by
 grind[Go.Proofs.bytesLess_eq]
def zdz(l:List B8):Prop:=l.Pairwise λx y=>Op.bytesLess x y=true
theorem zof:∀{l m},zdz l->zdz m->(∀x,x∈l↔x∈m)->l=m
 |[],[],_,_,_=>rfl
 |[],y::m,_,_,h=>by grind[Qak]
 |x::l,[],_,_,h=>by grind[Qak]
 |x::l,y::m,h1,h2,h=>by
  have a1:=List.pairwise_cons.1 h1;have a2:=List.pairwise_cons.1 h2
  have hxy:x=y:=by
   grind[Qak,yqc]
  subst hxy;refine congrArg (x :: ·) (zof a1.2 a2.2 λz=>⟨λhz =>?_,λhz =>?_⟩)
  grind[zn2]
  grind[zn2]
theorem yd0{l}(h:l.Nodup):zdz (ylo l):=by
 grind[ylo,List.pairwise_mergeSort,le_bl,zpn,zdz,List.Pairwise.imp₂,zyf]
def ins:List B8->B8->List B8
 |[],s=>[s]
 |x::l,s=>if Op.bytesLess x s then x::ins l s else if x=s then x::l else s::x::l
theorem zxe(s):∀(l) (z),z∈ins l s↔z∈l∨z=s
 |[],z=>by simp[ins]
 |x::l,z=>by
  rw[ins];split;rw[Qbf,Qbf,zxe s l z,or_assoc];split;rename_i h;subst h;constructor;exact .inl
  rintro (h|rfl)
  exact h
  grind
  grind
theorem zph{s}:∀{l},zdz l->zdz (ins l s)
 |[],_=>by simp[ins,zdz]
 |x::l,h=>by
  have a:=List.pairwise_cons.1 h;rw[ins];split;rename_i hx;refine List.pairwise_cons.2 ⟨λz hz =>?_,zph a.2⟩
  rcases(zxe s l z).1 hz with hz|rfl
  exact a.1 z hz;exact hx;split;exact h
  have hs:Op.bytesLess s x=true:=by
   grind[zyf]
  refine List.pairwise_cons.2 ⟨λz hz =>?_,h⟩
  rcases Qbf.1 hz with rfl|hz
  exact hs;exact y0q hs (a.1 z hz)
theorem zrm(s):∀l:List B8,(ins l s).length<=l.length+1
 |[]=>by simp[ins]
 |x::l=>by
  have:=zrm s l
  grind[ins]
theorem yp6(s):∀l:List B8,ins l s=if (l.dropWhile (λx=>Op.bytesLess x s)).head?=some s then l else l.takeWhile (λx=>Op.bytesLess x s)++s::l.dropWhile (λx=>Op.bytesLess x s)
 |[]=>by simp[ins]
 |x::l=>by
  rw[ins];cases h:Op.bytesLess x s
  grind[List.dropWhile_cons_of_neg,List.takeWhile_cons_of_neg]
  rw[List.dropWhile_cons_of_pos (by simp[h]),List.takeWhile_cons_of_pos (by simp[h]),Qbo rfl,yp6 s l];split <;> rfl
section
variable {α σ γ : Type}
theorem loopAll{L:Nat->Int->Option γ}{xs:List α}{p fail r}
  (he:Ev (λn=>L n (xs.length:Int)) r)
  (hs:∀k (h:k<xs.length) v,Ev (λn=>L n ((k+1:Nat):Int)) v->Ev (λn=>L n (k:Int)) (if p xs[k]=true then v else fail)) :
  Ev (λn=>L n 0) (if xs.all p=true then r else fail):=by
 have:∀k,k<=xs.length->Ev (λn=>L n (k:Int)) (if (xs.drop k).all p=true then r else fail) :=
  down (by simpa using he) λk hk ih=>by
   have h:=hs k hk _ ih;rw[<-Qah (h:=hk),List.all_cons];by_cases hp:p xs[k]=true
   grind
   simp_all
 simpa using this 0 (Qbm _)
theorem ypz{L:Nat->Int->Option γ}{xs ys:List α}{fail r}(hlen:xs.length=ys.length)
  (he:Ev (λn=>L n (xs.length:Int)) r)
  (hs:∀k (h:k<xs.length) (h':k<ys.length) v,Ev (λn=>L n ((k+1:Nat):Int)) v->Ev (λn=>L n (k:Int)) (if eqB xs[k] ys[k]=true then v else fail)) :
  Ev (λn=>L n 0) (if eqB xs ys=true then r else fail):=by
 have:∀k,k<=xs.length->Ev (λn=>L n (k:Int)) (if eqB (xs.drop k) (ys.drop k)=true then r else fail) :=
  down (by rw[List.drop_length,hlen,List.drop_length];simpa[hlen]using he) λk hk ih=>by
   have hk':k<ys.length:=by omega
   have h:=hs k hk hk' _ ih;rw[<-Qah (h:=hk),<-Qah (h:=hk')];by_cases hp:xs[k]=ys[k];rw[hp,z7r,Qbo rfl]at h
   grind[kzh]
   grind[kzh]
 simpa using this 0 (Qbm _)
end
end Go.Ab
