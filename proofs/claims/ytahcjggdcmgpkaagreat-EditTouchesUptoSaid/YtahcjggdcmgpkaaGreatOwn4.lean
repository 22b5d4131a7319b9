/-
  PROGRAMS: COMPARISONS.
-/
import Derived.Test.YtahcjggdcmgpkaaGreatOwn3
namespace Go.Proofs.YtahcjggdcmgpkaaGreat
open Go Go.Ab
set_option linter.unusedVariables false
set_option linter.unusedSimpArgs false
theorem y0m {c d:Bool} {A:Nat->Option Bool} (h:c=true->Ev A d):Ev (λn=>pIf c (A n) (some false)) (c&&d):=by
 cases c
 ·exact Ev.pure rfl
 ·exact h rfl
theorem yyz {c d:Bool} {A Z:Nat->Option Bool} (hz:Ev Z false) (h:c=true->Ev A d):Ev (λn=>pIf (!c) (Z n) (A n)) (c&&d):=by
 cases c
 ·exact hz
 ·exact h rfl
theorem y39 {α:Type} [BEq α] [LawfulBEq α] (a b:α):(a==b)=eqB a b:=by
 by_cases h:a=b
 ·subst h;simp
 ·rw [zzp.2 h];simpa using h
theorem ywp {α:Type} [BEq α] [LawfulBEq α] (a b:α):(a != b) = !eqB a b:=by rw [bne,y39]
theorem y02 {α:Type} {a b:α} {c:Bool} (h:a=b↔c=true):eqB a b=c:=by
 cases c
 ·exact zzp.2 λe=>by simpa using h.1 e
 ·exact z9a.2 (h.2 rfl)
theorem z06m (a b:kz6):eqB a b=(eqB a.name b.name&&eqB a.value b.value):=y02 (by
 obtain ⟨a1,a2⟩:=a;obtain ⟨b1,b2⟩:=b;simp only [kz6.mk.injEq,Bool.and_eq_true,z9a])
theorem z01b (a b:yza):eqB a b=(eqB a.kind b.kind&&(eqB a.name b.name&&eqB a.args b.args)):=y02 (by
 obtain ⟨a1,a2,a3⟩:=a;obtain ⟨b1,b2,b3⟩:=b;simp only [yza.mk.injEq,Bool.and_eq_true,z9a])
theorem yn4 (a b:zz3):eqB a b=(eqB a.kind b.kind&&(eqB a.axis b.axis&&(eqB a.name b.name&&(eqB a.args b.args&&eqB a.items b.items)))):=y02 (by
 obtain ⟨a1,a2,a3,a4,a5⟩:=a;obtain ⟨b1,b2,b3,b4,b5⟩:=b;simp only [zz3.mk.injEq,Bool.and_eq_true,z9a])
theorem z018 (a b:kz5):eqB a b=(eqB a.weight b.weight&&(eqB a.when_ b.when_&&eqB a.do_ b.do_)):=y02 (by
 obtain ⟨a1,a2,a3⟩:=a;obtain ⟨b1,b2,b3⟩:=b;simp only [kz5.mk.injEq,Bool.and_eq_true,z9a])
theorem z01c (a b:kz4):eqB a b=(eqB a.name b.name&&(eqB a.params b.params&&eqB a.cases b.cases)):=y02 (by
 obtain ⟨a1,a2,a3⟩:=a;obtain ⟨b1,b2,b3⟩:=b;simp only [kz4.mk.injEq,Bool.and_eq_true,z9a])
theorem z06v (a b:zz0):eqB a b=(eqB a.attrs b.attrs&&eqB a.rules b.rules):=y02 (by
 obtain ⟨a1,a2⟩:=a;obtain ⟨b1,b2⟩:=b;simp only [zz0.mk.injEq,Bool.and_eq_true,z9a])
theorem lenF {α:Type} {a b:List α} (h:¬a.length=b.length):eqB (a.length:Int) (b.length:Int)=false:=zzp.2 (by omega)
theorem lenT {α:Type} {a b:List α} (h:a.length=b.length):eqB (a.length:Int) (b.length:Int)=true:=z9a.2 (by omega)
theorem neqB {α:Type} {a b:List α} (h:¬a.length=b.length):eqB a b=false:=zzp.2 λe=>h (by rw [e])
theorem ifB (c:Bool):(if c=true then true else false)=c:=by cases c <;> rfl
theorem yfv {a b:List zz1} (hs:(a.map zz1.size).sum<=8000000):Ev (λn=>z6y n a b) (eqB a b):=by
 have:=zcb a
 rw [y4i,Ev.yz0 (zle (S:=λn x y=>z4f n x.re y.re) (λn=>yz9.eq_2 _ _ n) (λn k=>zz8.eq_2 _ _ _ _ n) (by omega) λx hx y=>by rw [zz1.yz5,zz1.yz5];exact zyy x y (by have:=y05 hx;omega)),Ev.kz0]
theorem ywt {a b:yza} (hs:a.size<=8000000):Ev (λn=>z50 n a b) (eqB a b):=by
 have:=@y8v a
 rw [y20,z01b,y39,y39]
 refine y0m λ_=>y0m λ_ => ?_
 rw [Ev.yz0 (yfv (by omega)),Ev.kz0]
theorem yjb {a b:zz3} (hs:a.size<=8000000):Ev (λn=>z2p n a b) (eqB a b):=by
 have:=@y84 a
 have:=@zxg a
 rw [zy3,yn4,y39,y39,y39]
 refine y0m λ_=>y0m λ_=>y0m λ_ => ?_
 rw [Ev.yz0 (yfv (by omega))]
 refine y0m λ_ => ?_
 rw [Ev.yz0 (zle (S:=λn x y=>z50 n x y) (λn=>zzk.eq_2 _ _ n) (λn k=>yzb.eq_2 _ _ _ _ n) (by omega) λx hx y=>ywt (by have:=y3b hx;omega)),Ev.kz0]
theorem yu2 {a b:kz5} (hs:a.size<=8000000):Ev (λn=>z4y n a b) (eqB a b):=by
 have:=@y8a a
 have:=@zvt a
 rw [y29,z018,y39,zz1.yz5,zz1.yz5]
 refine y0m λ_ => ?_
 rw [Ev.yz0 (zyy _ _ (by omega))]
 refine y0m λ_ => ?_
 rw [Ev.yz0 (zle (S:=λn x y=>z2p n x y) (λn=>yze.eq_2 _ _ n) (λn k=>yz8.eq_2 _ _ _ _ n) (by omega) λx hx y=>yjb (by have:=zx1 hx;omega)),Ev.kz0]
theorem z02d {a b:List (List UInt8)} (hl:a.length<=8000000):Ev (λn=>z1c n a b) (eqB a b):=by
 refine zle (S:=λn x y=>some (eqB x y)) (λn=>z1c.eq_2 _ _ n) (λn k => ?_) (by omega) (λx hx y=>Ev.pure rfl)
 rw [z0m.eq_2]
 simp only [y39,Option.bind_some]
theorem yvk {a b:kz4} (hs:a.size<=8000000):Ev (λn=>z9u n a b) (eqB a b):=by
 have:=@zy9 a
 have:=@zup a
 rw [yb5,z01c,y39]
 refine y0m λ_ => ?_
 rw [Ev.yz0 (z02d (by omega))]
 refine y0m λ_ => ?_
 rw [Ev.yz0 (zle (S:=λn x y=>z4y n x.re y.re) (λn=>yzk.eq_2 _ _ n) (λn k=>zzb.eq_2 _ _ _ _ n) (by omega) λx hx y=>by rw [kz5.yz5,kz5.yz5];exact yu2 (by have:=zt8 hx;omega)),Ev.kz0]
theorem yvx {a b:kz6} (hs:a.size<=8000000):Ev (λn=>za3 n a b) (eqB a b):=by
 have:=@zx9 a
 rw [yaz,z06m,y39,zz1.yz5,zz1.yz5]
 refine y0m λ_ => ?_
 rw [Ev.yz0 (zyy _ _ (by omega)),Ev.kz0]
theorem yxg {a b:zz0} (hs:a.size<=8000000):Ev (λn=>zdf n a b) (eqB a b):=by
 have:=@zjj a
 have:=@ze1 a
 rw [yka,z06v,Ev.yz0 (zle (S:=λn x y=>za3 n x.re y.re) (λn=>kzk.eq_2 _ _ n) (λn k=>kzb.eq_2 _ _ _ _ n) (by omega) λx hx y=>by rw [kz6.yz5,kz6.yz5];exact yvx (by have:=zx8 hx;omega))]
 refine y0m λ_ => ?_
 rw [Ev.yz0 (zle (S:=λn x y=>z9u n x y) (λn=>zzl.eq_2 _ _ n) (λn k=>kza.eq_2 _ _ _ _ n) (by omega) λx hx y=>yvk (by have:=znd hx;omega)),Ev.kz0]
theorem ydb {a b:List zz1} (hs:(a.map zz1.size).sum<=8000000):Ev (λn=>z4t n a b) (eqB a b):=by
 have e1:Ev (λn=>z03 n a) (z34 a):=by rw [zjl,Ev.kz0];rfl
 have e2:Ev (λn=>z03 n b) (z34 b):=by rw [zjl,Ev.kz0];rfl
 rw [y2e,Ev.yz0 e1,Ev.yz0 e2,zz1.yz5,zz1.yz5,Ev.yz0 (zwu _ _ (by rw [zhu];omega)),Ev.kz0,z01p]
theorem ymj {a b:zz3} (hs:a.size<=8000000):Ev (λn=>z5e n a b) (eqB a b):=by
 have:=@y84 a
 have:=@zxg a
 have hz:Ev (λn=>kzq n true b a) false:=by rw [zla,Ev.yz1 rfl,Ev.kz0]
 rw [zyw,yn4,ywp,ywp,y39,ywp]
 refine yyz hz λ_=>yyz hz λ_=>yyz hz λ_ => ?_
 rw [Ev.yz0 (ydb (by omega))]
 refine yyz hz λ_ => ?_
 by_cases hl:a.items.length=b.items.length
 case neg=>simp only [lenF hl,neqB hl,Bool.false_and];exact hz
 rw [lenT hl,zla,Ev.kz1 (by rfl)]
 rw [<-ifB (eqB a.items b.items)]
 refine y23 (L:=λn k=>z15 n k b a) hl (by rw [zl4,Ev.kz1 (by simp),Ev.kz0]) λk hk hk' v hv => ?_
 have hx:=List.getElem_mem hk
 have:=y3b hx
 have:=@y8v a.items[k]
 have l2:∀c,Ev (λn=>z0b n (k:Int) (!c) b a) (if c=true then v else false):=λc=>by
  cases c
  ·rw [zlg,Ev.yz1 (by rfl),Ev.kz0];rfl
  ·rw [zlg,Ev.kz1 (by rfl),wrk (by omega)];exact hv
 rw [zl4,Ev.yz1 (by simpa using hk),Ev.kz2 (yz6 hk),Ev.kz2 (yz6 hk'),z01b,ywp]
 cases h1:eqB a.items[k].kind b.items[k].kind
 ·exact l2 false
 rw [Ev.kz1 (by rfl),Ev.kz2 (yz6 hk),Ev.kz2 (yz6 hk'),y39]
 cases h2:eqB a.items[k].name b.items[k].name
 ·exact l2 false
 rw [Ev.kz1 (by rfl),Ev.kz2 (yz6 hk),Ev.kz2 (yz6 hk'),Ev.yz0 (ydb (by omega))]
 exact l2 _
theorem ytq {a b:kz5} (hs:a.size<=8000000):Ev (λn=>z8k n a b) (eqB a b):=by
 have:=@y8a a
 have:=@zvt a
 have hz:Ev (λn=>z0v n true b a) false:=by rw [znk,Ev.yz1 rfl,Ev.kz0]
 rw [y2p,z018,ywp,zz1.yz5,zz1.yz5,kz5.yz5,kz5.yz5,ywp]
 refine yyz hz λ_ => ?_
 rw [Ev.yz0 (zwu _ _ (by omega))]
 refine yyz hz λ_ => ?_
 by_cases hl:a.do_.length=b.do_.length
 case neg=>simp only [lenF hl,neqB hl,Bool.false_and];exact hz
 rw [lenT hl,znk,Ev.kz1 (by rfl),kz5.yz5,kz5.yz5]
 rw [<-ifB (eqB a.do_ b.do_)]
 refine y23 (L:=λn k=>z2b n k b a) hl (by rw [zni,Ev.kz1 (by simp),Ev.kz0]) λk hk hk' v hv => ?_
 have hx:=List.getElem_mem hk
 have:=zx1 hx
 rw [zni,Ev.yz1 (by simpa using hk),Ev.kz2 (yz6 hk),Ev.kz2 (yz6 hk'),Ev.yz0 (ymj (by omega))]
 cases h1:eqB a.do_[k] b.do_[k]
 ·rw [Ev.yz1 (by rfl),Ev.kz0];rfl
 ·rw [Ev.kz1 (by rfl),wrk (by omega),kz5.yz5,kz5.yz5];exact hv
theorem y8w {a b:kz4} (hs:a.size<=8000000):Ev (λn=>z7z n a b) (eqB a b):=by
 have:=@zy9 a
 have:=@zup a
 have hz:Ev (λn=>z0y n true b a) false:=by rw [znb,Ev.yz1 rfl,Ev.kz0]
 rw [y30,z01c,y39,ywp,ywp]
 refine yyz hz λ_ => ?_
 by_cases hl:a.params.length=b.params.length
 case neg=>simp only [lenF hl,neqB hl,Bool.false_and];exact hz
 rw [lenT hl,Ev.kz1 (by rfl)]
 by_cases hm:a.cases.length=b.cases.length
 case neg=>rw [lenF hm,neqB hm,Bool.and_false];exact hz
 rw [lenT hm,znb,Ev.kz1 (by rfl)]
 have e:(eqB a.params b.params&&eqB a.cases b.cases)=if eqB a.params b.params=true then eqB a.cases b.cases else false:=by cases eqB a.params b.params <;> rfl
 rw [e]
 refine y23 (L:=λn k=>z2c n k b a) hl ?_ λk hk hk' v hv => ?_
 ·rw [zn9,Ev.kz1 (by simp),<-ifB (eqB a.cases b.cases)]
  refine y23 (L:=λn k=>z29 n k b a) hm (by rw [zna,Ev.kz1 (by simp),Ev.kz0]) λk hk hk' v hv => ?_
  have:=zt8 (List.getElem_mem hk)
  rw [zna,Ev.yz1 (by simpa using hk),Ev.kz2 (yz6 hk),Ev.kz2 (yz6 hk'),kz5.yz5,kz5.yz5,Ev.yz0 (ytq (by omega))]
  cases h1:eqB a.cases[k] b.cases[k]
  ·rw [Ev.yz1 (by rfl),Ev.kz0];rfl
  ·rw [Ev.kz1 (by rfl),wrk (by omega)];exact hv
 ·rw [zn9,Ev.yz1 (by simpa using hk),Ev.kz2 (yz6 hk),Ev.kz2 (yz6 hk'),y39]
  cases h1:eqB a.params[k] b.params[k]
  ·rw [Ev.yz1 (by rfl),Ev.kz0];rfl
  ·rw [Ev.kz1 (by rfl),wrk (by omega)];exact hv
end Go.Proofs.YtahcjggdcmgpkaaGreat
namespace Go.Proofs.YtahcjggdcmgpkaaGreat
open Go Go.Ab
set_option linter.unusedVariables false
set_option linter.unusedSimpArgs false
theorem yxr {c:kz5} (hs:c.size<=8000000):∃b,Ev (λn=>z8w n c) b:=by
 have:=@y8a c
 have:=@zvt c
 have list:∀l:List zz1,Ev (λn=>z03 n l) (z34 l):=λl=>by rw [zjl,Ev.kz0];rfl
 have l1:∃b,Ev (λn=>z0z n 0 c) b:=by
  refine zvl (L:=λn k=>z0z n k c) (len:=c.do_.length) ⟨false,by rw [znc,Ev.kz1 (by simp),Ev.kz0]⟩ λk hk v hv => ?_
  have ha:=List.getElem_mem hk
  have hsa:=zx1 ha
  have:=@y84 c.do_[k]
  have:=@zxg c.do_[k]
  have l3:∃b,Ev (λn=>z0w n 0 (k:Int) c) b:=by
   refine zvl (L:=λn j=>z0w n j (k:Int) c) (len:=c.do_[k].items.length) ⟨v,by rw [znj,Ev.kz2 (yz6 hk),Ev.kz1 (by simp),wrk (by omega),kz5.yz5];exact hv⟩ λj hj w hw => ?_
   have:=y3b (List.getElem_mem hj)
   have:=@y8v c.do_[k].items[j]
   have l4:∀b,∃d,Ev (λn=>z1z n (k:Int) (j:Int) b c) d:=λb=>by
    cases b
    ·exact ⟨w,by rw [zng,Ev.kz1 (by rfl),wrk (by omega),kz5.yz5];exact hw⟩
    ·exact ⟨true,by rw [zng,Ev.yz1 (by rfl),Ev.kz0]⟩
   obtain ⟨g,hg⟩:=zt2 (e:=z34 c.do_[k].items[j].args) (by rw [zhu];omega)
   simp only [znj,Ev.kz2 (yz6 hk)]
   simp only [Ev.yz1 (show decide ((j:Int)<(c.do_[k].items.length:Int))=true by simpa using hj),Ev.kz2 (yz6 hk),Ev.kz2 (yz6 hj),Ev.yz0 (list _),zz1.yz5,kz5.yz5,Ev.yz0 hg,Ev.pif]
   split <;> exact l4 _
  have l2:∀b,∃d,Ev (λn=>z0x n (k:Int) b c) d:=λb=>by
   cases b
   ·obtain ⟨d,hd⟩:=l3;exact ⟨d,by rw [znh,Ev.kz1 (by rfl),kz5.yz5];exact hd⟩
   ·exact ⟨true,by rw [znh,Ev.yz1 (by rfl),Ev.kz0]⟩
  obtain ⟨g,hg⟩:=zt2 (e:=z34 c.do_[k].args) (by rw [zhu];omega)
  simp only [znc,Ev.yz1 (show decide ((k:Int)<(c.do_.length:Int))=true by simpa using hk),Ev.kz2 (yz6 hk),Ev.yz0 (list _),zz1.yz5,kz5.yz5,Ev.yz0 hg,Ev.pif]
  split
  ·exact l2 _
  ·split <;> exact l2 _
 have l0:∀b,∃d,Ev (λn=>z25 n b c) d:=λb=>by
  cases b
  ·obtain ⟨d,hd⟩:=l1;exact ⟨d,by rw [znf,Ev.kz1 (by rfl),kz5.yz5];exact hd⟩
  ·exact ⟨true,by rw [znf,Ev.yz1 (by rfl),Ev.kz0]⟩
 obtain ⟨g,hg⟩:=zt2 (e:=c.when_) (by omega)
 simp only [y2u,Ev.pif,kz5.yz5,zz1.yz5,Ev.yz0 hg]
 split <;> exact l0 _
theorem z07f {p:zz0} (hs:p.size<=8000000):∃b,Ev (λn=>zc2 n p) b:=by
 have:=@zjj p
 have:=@ze1 p
 have l3:∃b,Ev (λn=>z3q n 0 p) b:=by
  refine zvl (L:=λn k=>z3q n k p) (len:=p.rules.length) ⟨false,by rw [zsl,Ev.kz1 (by simp),Ev.kz0]⟩ λk hk v hv => ?_
  have hsa:=znd (List.getElem_mem hk)
  have:=@zy9 p.rules[k]
  have:=@zup p.rules[k]
  have l6:∃b,Ev (λn=>z3z n 0 (k:Int) p.rules[k] p) b:=by
   refine zvl (L:=λn j=>z3z n j (k:Int) p.rules[k] p) (len:=p.rules[k].cases.length) ⟨v,by rw [zsc,Ev.kz1 (by simp),wrk (by omega)];exact hv⟩ λj hj w hw => ?_
   obtain ⟨g,hg⟩:=yxr (c:=p.rules[k].cases[j]) (by have:=zt8 (List.getElem_mem hj);omega)
   simp only [zsc (a0:=(j:Int)),Ev.yz1 (show decide ((j:Int)<(p.rules[k].cases.length:Int))=true by simpa using hj),Ev.kz2 (yz6 hj),kz5.yz5,Ev.yz0 hg]
   simp only [Ev.pif]
   split
   ·exact ⟨true,Ev.pure rfl⟩
   ·exact ⟨w,by rw [wrk (by omega)];exact hw⟩
  have l5:∃b,Ev (λn=>z42 n 0 (k:Int) p.rules[k] p) b:=by
   obtain ⟨d,hd⟩:=l6
   refine zvl (L:=λn j=>z42 n j (k:Int) p.rules[k] p) (len:=p.rules[k].params.length) ⟨d,by rw [zse,Ev.kz1 (by simp)];exact hd⟩ λj hj w hw => ?_
   simp only [zse (a0:=(j:Int)),Ev.yz1 (show decide ((j:Int)<(p.rules[k].params.length:Int))=true by simpa using hj),Ev.kz2 (yz6 hj),Ev.pif]
   split
   ·exact ⟨true,Ev.pure rfl⟩
   ·exact ⟨w,by rw [wrk (by omega)];exact hw⟩
  have l4:∀b,∃d,Ev (λn=>z3v n (k:Int) b p.rules[k] p) d:=λb=>by
   cases b
   ·obtain ⟨d,hd⟩:=l5;exact ⟨d,by rw [ztf,Ev.kz1 (by rfl)];exact hd⟩
   ·exact ⟨true,by rw [ztf,Ev.yz1 (by rfl),Ev.kz0]⟩
  simp only [zsl,Ev.yz1 (show decide ((k:Int)<(p.rules.length:Int))=true by simpa using hk),Ev.kz2 (yz6 hk),Ev.pif]
  split
  ·exact l4 _
  ·split <;> exact l4 _
 have l1:∃b,Ev (λn=>z3y n 0 p) b:=by
  obtain ⟨d,hd⟩:=l3
  refine zvl (L:=λn k=>z3y n k p) (len:=p.attrs.length) ⟨d,by rw [zrt,Ev.kz1 (by simp)];exact hd⟩ λk hk v hv => ?_
  have:=zx8 (List.getElem_mem hk)
  have:=@zx9 p.attrs[k]
  have l2:∀b,∃d,Ev (λn=>z68 n (k:Int) b p) d:=λb=>by
   cases b
   ·exact ⟨v,by rw [zth,Ev.kz1 (by rfl),wrk (by omega)];exact hv⟩
   ·exact ⟨true,by rw [zth,Ev.yz1 (by rfl),Ev.kz0]⟩
  obtain ⟨g,hg⟩:=zt2 (e:=p.attrs[k].value) (by omega)
  simp only [zrt,Ev.yz1 (show decide ((k:Int)<(p.attrs.length:Int))=true by simpa using hk),Ev.kz2 (yz6 hk),zz1.yz5,Ev.yz0 hg,Ev.pif]
  split <;> exact l2 _
 have l0:∀b,∃d,Ev (λn=>z77 n b p) d:=λb=>by
  cases b
  ·obtain ⟨d,hd⟩:=l1;exact ⟨d,by rw [zt7,Ev.kz1 (by rfl)];exact hd⟩
  ·exact ⟨true,by rw [zt7,Ev.yz1 (by rfl),Ev.kz0]⟩
 simp only [yce,Ev.pif]
 split <;> exact l0 _
def y1o (c:kz5):Bool:=decide (10<c.do_.length)||c.do_.any λa=>decide (10<a.items.length)
def y2g (r:kz4):Bool:=decide (4<r.params.length)||(decide (6<r.cases.length)||r.cases.any y1o)
def y4y (p:zz0):Bool:=decide (20<p.attrs.length)||(decide (40<p.rules.length)||p.rules.any y2g)
theorem gt4 {k:Nat}:decide ((k:Int)>4)=decide (4<k):=decide_eq_decide.2 (by omega)
theorem gt6 {k:Nat}:decide ((k:Int)>6)=decide (6<k):=decide_eq_decide.2 (by omega)
theorem gt10 {k:Nat}:decide ((k:Int)>10)=decide (10<k):=decide_eq_decide.2 (by omega)
theorem gt20 {k:Nat}:decide ((k:Int)>20)=decide (20<k):=decide_eq_decide.2 (by omega)
theorem gt40 {k:Nat}:decide ((k:Int)>40)=decide (40<k):=decide_eq_decide.2 (by omega)
theorem orB {c d:Bool} {γ:Type} {x y:γ}:(if (c||d)=true then x else y)=if c=true then x else if d=true then x else y:=by cases c <;> rfl
theorem yy3 {p:zz0} (hs:p.size<=8000000):Ev (λn=>zg1 n p) (y4y p):=by
 have:=@zjj p
 have:=@ze1 p
 have l1:Ev (λn=>z5b n 0 p.rules (p.rules.length:Int)) (if p.rules.any y2g=true then true else false):=by
  refine zgn (L:=λn k=>z5b n k p.rules (p.rules.length:Int)) (by rw [zud,Ev.kz1 (by simp),Ev.kz0]) λk hk v hv => ?_
  have:=znd (List.getElem_mem hk)
  have:=@zy9 p.rules[k]
  have:=@zup p.rules[k]
  have l3:Ev (λn=>z58 n 0 p.rules[k].cases p.rules (p.rules.length:Int) (k:Int) (p.rules[k].cases.length:Int)) (if p.rules[k].cases.any y1o=true then true else v):=by
   refine zgn (L:=λn j=>z58 n j p.rules[k].cases p.rules (p.rules.length:Int) (k:Int) (p.rules[k].cases.length:Int)) (by rw [zvm,Ev.kz1 (by simp),wrk (by omega)];exact hv) λj hj w hw => ?_
   have:=zt8 (List.getElem_mem hj)
   have:=@zvt p.rules[k].cases[j]
   have l4:∀b,Ev (λn=>z7x n p.rules[k].cases p.rules (p.rules.length:Int) (k:Int) (p.rules[k].cases.length:Int) (j:Int) b) (if b=true then true else w):=λb=>by
    cases b
    ·rw [zu2,Ev.kz1 (by rfl),wrk (by omega)];exact hw
    ·rw [zu2,Ev.yz1 (by rfl),Ev.kz0];rfl
   obtain ⟨i,h1,h2⟩:=y76 (S:=λn x=>zcg n x) (l:=p.rules[k].cases[j].do_) (p:=λa=>decide (10<a.items.length)) (L:=λn k l m=>yzg n k l m) (λn k=>yzg.eq_2 _ _ _ n) (by omega) λx hx=>by
    rw [yam,Ev.kz0];exact gt10
   have hc:Ev (λn=>zzg n p.rules[k].cases[j].do_) (p.rules[k].cases[j].do_.any λa=>decide (10<a.items.length)):=by
    rw [zeh,Ev.yz0 (by rw [zft];exact h1),Ev.kz0,h2]
   rw [zvm,Ev.yz1 (by simpa using hj),Ev.kz2 (yz6 hj),y1o,orB,Ev.pif,gt10]
   split
   ·exact l4 true
   ·rw [Ev.yz0 hc];exact l4 _
  have l2:∀b,Ev (λn=>z7s n p.rules (p.rules.length:Int) (k:Int) b p.rules[k]) (if b=true then true else if p.rules[k].cases.any y1o=true then true else v):=λb=>by
   cases b
   ·rw [zua,Ev.kz1 (by rfl)];exact l3
   ·rw [zua,Ev.yz1 (by rfl),Ev.kz0];rfl
  rw [zud,Ev.yz1 (by simpa using hk),Ev.kz2 (yz6 hk),y2g,orB,orB,Ev.pif,gt4,gt6]
  split
  ·exact l2 true
  ·exact l2 _
 have l0:∀b,Ev (λn=>z8f n b p) (b||p.rules.any y2g):=λb=>by
  cases b
  ·rw [ztv,Ev.kz1 (by rfl),ifB] at *;exact l1
  ·rw [ztv,Ev.yz1 (by rfl),Ev.kz0];rfl
 rw [yii,Ev.pif,gt20,gt40,y4y]
 split
 ·rename_i h;rw [h];exact l0 true
 ·rename_i h;simp only [h,Bool.false_or];exact l0 _
theorem yxc {p:zz0} (hs:p.size<=8000000):Ev (λn=>zg0 n p) (y4y p):=by
 have:=@zjj p
 have:=@ze1 p
 have l1:Ev (λn=>z5g n 0 p) (if p.rules.any y2g=true then true else false):=by
  refine zgn (L:=λn k=>z5g n k p) (by rw [zvy,Ev.kz1 (by simp),Ev.kz0]) λk hk v hv => ?_
  have:=znd (List.getElem_mem hk)
  have:=@zy9 p.rules[k]
  have:=@zup p.rules[k]
  have l3:Ev (λn=>z5d n 0 (k:Int) p.rules[k] p) (if p.rules[k].cases.any y1o=true then true else v):=by
   refine zgn (L:=λn j=>z5d n j (k:Int) p.rules[k] p) (by rw [ztz,Ev.kz1 (by simp),wrk (by omega)];exact hv) λj hj w hw => ?_
   have:=zt8 (List.getElem_mem hj)
   have:=@zvt p.rules[k].cases[j]
   have l4:Ev (λn=>z57 n 0 (j:Int) (k:Int) p.rules[k] p) (if (p.rules[k].cases[j].do_.any λa=>decide (10<a.items.length))=true then true else w):=by
    refine zgn (L:=λn i=>z57 n i (j:Int) (k:Int) p.rules[k] p) (by rw [zvc,Ev.kz2 (yz6 hj),Ev.kz1 (by simp),wrk (by omega)];exact hw) λi hi u hu => ?_
    rw [zvc,Ev.kz2 (yz6 hj),Ev.yz1 (by simpa using hi),Ev.kz2 (yz6 hj),Ev.kz2 (yz6 hi),Ev.pif,gt10,wrk (by omega),Ev.kz0]
    split
    ·rfl
    ·exact hu
   rw [ztz,Ev.yz1 (by simpa using hj),Ev.kz2 (yz6 hj),y1o,orB,Ev.pif,gt10]
   split
   ·exact Ev.pure rfl
   ·exact l4
  have l2:∀b,Ev (λn=>z8e n (k:Int) b p.rules[k] p) (if b=true then true else if p.rules[k].cases.any y1o=true then true else v):=λb=>by
   cases b
   ·rw [zuf,Ev.kz1 (by rfl)];exact l3
   ·rw [zuf,Ev.yz1 (by rfl),Ev.kz0];rfl
  rw [zvy,Ev.yz1 (by simpa using hk),Ev.kz2 (yz6 hk),y2g,orB,orB,Ev.pif,gt4,gt6]
  split
  ·exact l2 true
  ·exact l2 _
 have l0:∀b,Ev (λn=>z8p n b p) (b||p.rules.any y2g):=λb=>by
  cases b
  ·rw [zvu,Ev.kz1 (by rfl),ifB] at *;exact l1
  ·rw [zvu,Ev.yz1 (by rfl),Ev.kz0];rfl
 rw [yh0,Ev.pif,gt20,gt40,y4y]
 split
 ·rename_i h;rw [h];exact l0 true
 ·rename_i h;simp only [h,Bool.false_or];exact l0 _
end Go.Proofs.YtahcjggdcmgpkaaGreat
namespace Go.Proofs.YtahcjggdcmgpkaaGreat
open Go Go.Ab
set_option linter.unusedVariables false
set_option linter.unusedSimpArgs false
def kept:List (List UInt8):=[[116,114,117,101],[102,97,108,115,101],[115,120],[115,121],[115,122]]
def zeq (s:List UInt8):Bool:=zow s && !(kept.any λx=>s==x)
theorem zo9 {s:List UInt8} (hs:s.length<=8388608):Ev (λn=>z4b n s) (zeq s):=by
 obtain ⟨i,h1,h2⟩:=y76 (S:=λn x=>some (s==x)) (l:=kept) (p:=λx=>s==x) (L:=λn k l m=>yzi n k l s m) (λn k=>yzi.eq_2 _ _ _ _ n) (by decide) λx hx=>Ev.pure rfl
 have hc:Ev (λn=>yzx n kept s) (kept.any λx=>s==x):=by
  rw [zlt,Ev.yz0 (by rw [zf1];exact h1),Ev.kz0,h2]
 rw [ye9,Ev.yz0 (yft hs),zeq]
 refine y0m λ_ => ?_
 exact (Ev.yz0 hc).2 (Ev.pure rfl)
theorem zqc {s:List UInt8} (hs:s.length<=8388608):Ev (λn=>z5o n s) (zeq s):=by
 have h1:Ev (λn=>zcj n s) ((s==[115,120])||((s==[115,121])||(s==[115,122]))):=by
  rw [y96,Ev.pif]
  split
  ·rename_i h;rw [h];exact Ev.pure rfl
  ·rename_i h;rw [Ev.pif];simp only [h,Bool.false_or];split
   ·rename_i h;rw [h];exact Ev.pure rfl
   ·rename_i h;simp only [h,Bool.false_or];exact Ev.pure rfl
 have e:zeq s=(zow s&&(!(s==[116,114,117,101])&&(!(s==[102,97,108,115,101]) && !((s==[115,120])||((s==[115,121])||(s==[115,122])))))):=by
  simp only [zeq,kept,List.any_cons,List.any_nil,Bool.or_false,Bool.not_or]
 rw [yic,Ev.yz0 (ybk hs),e]
 refine y0m λ_=>y0m λ_=>y0m λ_ => ?_
 rw [Ev.yz0 h1,Ev.kz0]
theorem yn5:zeq []=false:=rfl
theorem yy5 {α:Type} {l:List α}:decide ((l.length:Int)>0) = !l.isEmpty:=by cases l <;> simp
theorem sc_t {α:Type} {k:Int} {l:List α} (h:¬(k=5↔l≠[])):(!((k==5)==decide ((l.length:Int)>0)))=true:=by
 rw [yy5];cases l <;> by_cases q:k=5 <;> simp_all
theorem sc_f {α:Type} {k:Int} {l:List α} (h:k=5↔l≠[]):(!((k==5)==decide ((l.length:Int)>0)))=false:=by
 rw [yy5];cases l <;> by_cases q:k=5 <;> simp_all
def own (k:Int):Int:=if k=2∨k=3 then 3 else if k=4∨k=6 then 1 else 0
theorem y7k {k:Int}:Ev (λn=>zd0 n k) (own k):=by
 have l1:∀b,Ev (λn=>zaq n b) (if b=true then 1 else 0):=λb=>by cases b <;> rw [yao] <;> exact Ev.pure rfl
 have l0:∀b,Ev (λn=>zal n k b) (if b=true then 3 else if k=4∨k=6 then 1 else 0):=λb=>by
  rw [y93,Ev.pif]
  split
  ·exact Ev.pure rfl
  ·rw [Ev.pif]
   split
   ·rename_i h;rw [if_pos (.inl (by simpa using h))];exact l1 true
   ·rename_i h
    have h:k≠4:=by simpa using h
    refine (l1 _).to ?_
    by_cases q:k=6 <;> simp [q,h]
 rw [yt7,Ev.pif,own]
 split
 ·rename_i h;rw [if_pos (.inl (by simpa using h))];exact l0 true
 ·rename_i h
  have h:k≠2:=by simpa using h
  refine (l0 _).to ?_
  by_cases q:k=3 <;> simp [q,h]
theorem yno {k:Int}:Ev (λn=>zf4 n k) (own k):=by
 have l1:∀b,Ev (λn=>zap n b) (if b=true then 1 else 0):=λb=>by cases b <;> rw [y9q] <;> exact Ev.pure rfl
 have l0:∀b,Ev (λn=>z9w n k b) (if b=true then 3 else if k=4∨k=6 then 1 else 0):=λb=>by
  rw [ya2,Ev.pif]
  split
  ·exact Ev.pure rfl
  ·rw [Ev.pif]
   split
   ·rename_i h;rw [if_pos (.inl (by simpa using h))];exact l1 true
   ·rename_i h
    have h:k≠4:=by simpa using h
    refine (l1 _).to ?_
    by_cases q:k=6 <;> simp [q,h]
 rw [ys5,Ev.pif,own]
 split
 ·rename_i h;rw [if_pos (.inl (by simpa using h))];exact l0 true
 ·rename_i h
  have h:k≠2:=by simpa using h
  refine (l0 _).to ?_
  by_cases q:k=3 <;> simp [q,h]
noncomputable def y7u (x:yza):Bool:=decide (1<=x.kind)&&(decide (x.kind<=3)&&(zeq x.name&&(!x.args.isEmpty&&(z3m (z34 x.args)==0))))
def RAct (a:zz3):Prop:=(1<=a.kind∧a.kind<=6)∧(a.axis<=if a.kind=4∨a.kind=5 then 2 else 0)∧(if a.kind<=4 then zeq a.name=true else a.name=[])∧z3m (z34 a.args)=0∧(own a.kind<=a.args.length)∧(4<a.kind->(a.args.length:Int)=own a.kind)∧(a.kind=5↔a.items≠[])∧a.items.all y7u=true
noncomputable def z5i (a:zz3):Bool:=@decide (RAct a) (Classical.propDecidable _)
theorem ztg {a:zz3}:z5i a=true↔RAct a:=@decide_eq_true_iff _ (Classical.propDecidable _)
theorem zc8 {a:zz3} (h:¬RAct a):z5i a=false:=@decide_eq_false _ (Classical.propDecidable _) h
theorem ymo {l:List zz1} (hw:(z34 l).wf) (hs:(l.map zz1.size).sum<=8000000):Ev (λn=>z4d n (z34 l)) (z3m (z34 l)):=zwl hw (by rw [zhu];omega)
theorem neI {k:Int}:(k != 0) = !(k==0):=rfl
theorem z00h {a:zz3} (hw:a.wf) (hs:a.size<=8000000):Ev (λn=>z7b n a) (z5i a):=by
 have:=@y84 a
 have:=@zxg a
 have:=@z07c a
 have list:∀l:List zz1,Ev (λn=>zdg n l) (z34 l):=λl=>by rw [yio,Ev.kz0];rfl
 obtain ⟨⟨hk0,hk1⟩,hx0,hx1⟩:=z07d hw
 have l6:Ev (λn=>z0o n 0 a.items (a.items.length:Int)) (if a.items.all y7u=true then true else false):=by
  refine zdx (L:=λn k=>z0o n k a.items (a.items.length:Int)) (by rw [zmx,Ev.kz1 (by simp),Ev.kz0]) λk hk v hv => ?_
  have hx:=List.getElem_mem hk
  have:=y3b hx
  have:=@y8v a.items[k]
  have:=@z078 a.items[k]
  have l7:∀b,Ev (λn=>zzu n a.items (a.items.length:Int) (k:Int) (!b)) (if b=true then v else false):=λb=>by
   cases b
   ·rw [zm6,Ev.yz1 (by rfl),Ev.kz0];rfl
   ·rw [zm6,Ev.kz1 (by rfl),wrk (by omega)];exact hv
  rw [zmx,Ev.yz1 (by simpa using hk),Ev.kz2 (yz6 hk),y7u]
  generalize a.items[k]=x at *
  by_cases h1:1<=x.kind
  case neg=>rw [Ev.yz1 (by simp;omega),decide_eq_false h1];exact l7 false
  rw [Ev.kz1 (by simp;omega),decide_eq_true h1]
  by_cases h2:x.kind<=3
  case neg=>rw [Ev.yz1 (by simp;omega),decide_eq_false h2];exact l7 false
  rw [Ev.kz1 (by simp;omega),decide_eq_true h2,Ev.yz0 (zo9 (by omega))]
  cases h3:zeq x.name
  ·exact l7 false
  rw [Ev.kz1 (by rfl)]
  cases h4:x.args.isEmpty
  case true=>rw [Ev.yz1 (by rw [List.isEmpty_iff.1 h4];rfl)];exact l7 false
  have h4':x.args≠[]:=by intro h;rw [h] at h4;cases h4
  have h4':x.args.length≠0:=by intro h;exact h4' (List.length_eq_zero_iff.1 h)
  rw [Ev.kz1 (by simpa using h4'),Ev.yz0 (list _),zz1.yz5,Ev.yz0 (ymo (wf_xa (z07a hw hx)) (by omega)),neI]
  exact l7 _
 have l5:∀b,(b=false->((1<=a.kind∧a.kind<=6)∧(a.axis<=if a.kind=4∨a.kind=5 then 2 else 0)∧(if a.kind<=4 then zeq a.name=true else a.name=[])∧z3m (z34 a.args)=0∧(own a.kind<=a.args.length)∧(4<a.kind->(a.args.length:Int)=own a.kind)))->(b=true->¬RAct a)->Ev (λn=>kzz n b a) (z5i a):=λb hf ht=>by
  cases b
  case true=>rw [zme,Ev.yz1 (by rfl),Ev.kz0,zc8 (ht rfl)]
  obtain ⟨g1,g2,g3,g4,g5,g6⟩:=hf rfl
  rw [zme,Ev.kz1 (by rfl)]
  by_cases h:a.kind=5↔a.items≠[]
  case neg =>
   rw [Ev.yz1 (sc_t h),Ev.kz0,zc8 (λq=>h q.2.2.2.2.2.2.1)]
  rw [Ev.kz1 (sc_f h)]
  refine l6.to ?_
  by_cases q:a.items.all y7u=true
  ·rw [if_pos q,ztg.2 ⟨g1,g2,g3,g4,g5,g6,h,q⟩]
  ·rw [if_neg q,zc8 (λz=>q z.2.2.2.2.2.2.2)]
 have l4:∀c:Bool,(c=decide (1<=a.kind∧a.kind<=4))->((1<=a.kind∧a.kind<=6)∧(a.axis<=if a.kind=4∨a.kind=5 then 2 else 0))->∀b,(b=false->(if a.kind<=4 then zeq a.name=true else a.name=[]))->(b=true->¬RAct a)->Ev (λn=>z0l n c b a) (z5i a):=λc hc hg b hf ht=>by
  cases b
  case true=>rw [zm1,Ev.yz1 (by rfl),Ev.kz0,zc8 (ht rfl)]
  have g3:=hf rfl
  rw [zm1,Ev.kz1 (by rfl),Ev.yz0 (list _),zz1.yz5,Ev.yz0 (ymo (wf_aa hw) (by omega))]
  by_cases h1:z3m (z34 a.args)=0
  case neg=>rw [Ev.yz1 (by simpa using h1)];exact l5 true (λh=>by cases h) λ_ q=>h1 q.2.2.2.1
  rw [Ev.kz1 (by simpa using h1),Ev.yz0 y7k]
  by_cases h2:own a.kind<=a.args.length
  case neg=>rw [Ev.yz1 (by simp;omega)];exact l5 true (λh=>by cases h) λ_ q=>h2 q.2.2.2.2.1
  rw [Ev.kz1 (by simp;omega)]
  cases hcc:c
  ·rw [Ev.yz1 (by rfl),Ev.yz0 y7k]
   have hk4:4<a.kind:=by rw [hcc] at hc;have:=of_decide_eq_false hc.symm;omega
   refine l5 _ (λh=>⟨hg.1,hg.2,g3,h1,h2,λ_=>by simpa using h⟩) λh q => ?_
   have:=q.2.2.2.2.2.1 hk4
   simp [this] at h
  ·rw [Ev.kz1 (by rfl)]
   have hk4:a.kind<=4:=by rw [hcc] at hc;have:=of_decide_eq_true hc.symm;omega
   exact l5 _ (λh=>⟨hg.1,hg.2,g3,h1,h2,λh=>by omega⟩) λh=>by cases h
 have l3:∀c:Bool,(c=decide (1<=a.kind∧a.kind<=4))->∀b,(b=false->((1<=a.kind∧a.kind<=6)∧(a.axis<=if a.kind=4∨a.kind=5 then 2 else 0)))->(b=true->¬RAct a)->Ev (λn=>z0n n c b a) (z5i a):=λc hc b hf ht=>by
  cases b
  case true=>rw [zmh,Ev.yz1 (by rfl),Ev.kz0,zc8 (ht rfl)]
  have hg:=hf rfl
  rw [zmh,Ev.kz1 (by rfl),Ev.yz0 (zo9 (by omega))]
  by_cases hk4:a.kind<=4
  ·rw [decide_eq_true (by omega)] at hc
   subst hc
   cases hn:zeq a.name
   ·exact l4 true (by rw [decide_eq_true (by omega)]) hg true (λh=>by cases h) λ_ q=>by have:=q.2.2.1;rw [if_pos hk4,hn] at this;cases this
   ·exact l4 true (by rw [decide_eq_true (by omega)]) hg false (λ_=>by rw [if_pos hk4,hn]) λh=>by cases h
  ·rw [decide_eq_false (by omega)] at hc
   subst hc
   cases hn:zeq a.name
   ·rw [Ev.kz1 (by rfl),Ev.yz1 (by rfl)]
    refine l4 false (by rw [decide_eq_false (by omega)]) hg _ (λh=>by rw [if_neg hk4];simpa using h) λh q => ?_
    have:=q.2.2.1
    rw [if_neg hk4] at this
    rw [this] at h;cases h
   ·exact l4 false (by rw [decide_eq_false (by omega)]) hg true (λh=>by cases h) λ_ q=>by
     have:=q.2.2.1
     rw [if_neg hk4] at this
     rw [this,yn5] at hn;cases hn
 have l2:∀c:Bool,(c=decide (1<=a.kind∧a.kind<=4))->∀x:Int,x=(if a.kind=4∨a.kind=5 then 2 else 0)->Ev (λn=>z1e n c x a) (z5i a):=λc hc x hx=>by
  rw [zwx]
  by_cases h1:1<=a.kind
  case neg=>rw [Ev.yz1 (by simp;omega)];exact l3 c hc true (λh=>by cases h) λ_ q=>h1 q.1.1
  rw [Ev.kz1 (by simp;omega)]
  by_cases h2:a.kind<=6
  case neg=>rw [Ev.yz1 (by simp;omega)];exact l3 c hc true (λh=>by cases h) λ_ q=>h2 q.1.2
  rw [Ev.kz1 (by simp;omega),hx]
  refine l3 c hc _ (λh=>⟨⟨h1,h2⟩,by have:=of_decide_eq_false h;omega⟩) λh q => ?_
  have:=of_decide_eq_true h
  have:=q.2.1
  omega
 have l1:∀c:Bool,(c=decide (1<=a.kind∧a.kind<=4))->∀b:Bool,b=decide (a.kind=4∨a.kind=5)->Ev (λn=>z1h n c 0 b a) (z5i a):=λc hc b hb=>by
  rw [zwn]
  by_cases h:a.kind=4∨a.kind=5
  ·rw [hb,decide_eq_true h,Ev.yz1 rfl];exact l2 c hc _ (by rw [if_pos h])
  ·rw [hb,decide_eq_false h,Ev.kz1 rfl];exact l2 c hc _ (by rw [if_neg h])
 have l0:∀c:Bool,(c=decide (1<=a.kind∧a.kind<=4))->Ev (λn=>z1g n c a) (z5i a):=λc hc=>by
  rw [zwq]
  by_cases h:a.kind=4
  ·rw [Ev.yz1 (by simpa using h)];exact l1 c hc true (by rw [decide_eq_true (.inl h)])
  ·rw [Ev.kz1 (by simpa using h)];exact l1 c hc _ (by by_cases q:a.kind=5 <;> simp [q,h])
 rw [y0p]
 by_cases h:1<=a.kind
 ·rw [Ev.yz1 (by simpa using h)];exact l0 _ (by simp [h])
 ·rw [Ev.kz1 (by simpa using h)];exact l0 _ (by simp [h])
theorem yyg {a:zz3} (hw:a.wf) (hs:a.size<=8000000):Ev (λn=>zca n a) (z5i a):=by
 have:=@y84 a
 have:=@zxg a
 have:=@z07c a
 have list:∀l:List zz1,Ev (λn=>z03 n l) (z34 l):=λl=>by rw [zjl,Ev.kz0];rfl
 obtain ⟨⟨hk0,hk1⟩,hx0,hx1⟩:=z07d hw
 have l6:Ev (λn=>z2k n 0 a) (if a.items.all y7u=true then true else false):=by
  refine zdx (L:=λn k=>z2k n k a) (by rw [zpy,Ev.kz1 (by simp),Ev.kz0]) λk hk v hv => ?_
  have hx:=List.getElem_mem hk
  have:=y3b hx
  have:=@y8v a.items[k]
  have:=@z078 a.items[k]
  have l7:∀b,Ev (λn=>z0r n (k:Int) (!b) a) (if b=true then v else false):=λb=>by
   cases b
   ·rw [zr1,Ev.yz1 (by rfl),Ev.kz0];rfl
   ·rw [zr1,Ev.kz1 (by rfl),wrk (by omega)];exact hv
  rw [zpy,Ev.yz1 (by simpa using hk),Ev.kz2 (yz6 hk),y7u]
  generalize a.items[k]=x at *
  by_cases h1:1<=x.kind
  case neg=>rw [Ev.yz1 (by simp;omega),decide_eq_false h1];exact l7 false
  rw [Ev.kz1 (by simp;omega),decide_eq_true h1]
  by_cases h2:x.kind<=3
  case neg=>rw [Ev.yz1 (by simp;omega),decide_eq_false h2];exact l7 false
  rw [Ev.kz1 (by simp;omega),decide_eq_true h2,Ev.yz0 (zqc (by omega))]
  cases h3:zeq x.name
  ·exact l7 false
  rw [Ev.kz1 (by rfl)]
  cases h4:x.args.isEmpty
  case true=>rw [Ev.yz1 (by rw [List.isEmpty_iff.1 h4];rfl)];exact l7 false
  have h4':x.args≠[]:=by intro h;rw [h] at h4;cases h4
  have h4':x.args.length≠0:=by intro h;exact h4' (List.length_eq_zero_iff.1 h)
  rw [Ev.kz1 (by simpa using h4'),Ev.yz0 (list _),zz1.yz5,Ev.yz0 (zld (by rw [zhu];omega)),neI]
  exact l7 _
 have l5:((1<=a.kind∧a.kind<=6)∧(a.axis<=if a.kind=4∨a.kind=5 then 2 else 0)∧(if a.kind<=4 then zeq a.name=true else a.name=[])∧z3m (z34 a.args)=0∧(own a.kind<=a.args.length)∧(4<a.kind->(a.args.length:Int)=own a.kind))->Ev (λn=>z4j n a) (z5i a):=λ⟨g1,g2,g3,g4,g5,g6⟩=>by
  rw [y1x]
  by_cases h:a.kind=5↔a.items≠[]
  case neg =>
   rw [Ev.yz1 (sc_t h),Ev.kz0,zc8 (λq=>h q.2.2.2.2.2.2.1)]
  rw [Ev.kz1 (sc_f h)]
  refine l6.to ?_
  by_cases q:a.items.all y7u=true
  ·rw [if_pos q,ztg.2 ⟨g1,g2,g3,g4,g5,g6,h,q⟩]
  ·rw [if_neg q,zc8 (λz=>q z.2.2.2.2.2.2.2)]
 have l4:(1<=a.kind∧a.kind<=6)∧(a.axis<=if a.kind=4∨a.kind=5 then 2 else 0)∧z3m (z34 a.args)=0∧own a.kind<=a.args.length->4<a.kind->∀b:Bool,(b=true↔¬(a.name=[]∧(a.args.length:Int)=own a.kind))->Ev (λn=>z0a n b a) (z5i a):=λ⟨g1,g2,g4,g5⟩ hk b hb=>by
  cases b
  case true=>rw [zqd,Ev.yz1 (by rfl),Ev.kz0,zc8];exact λq=>hb.1 rfl ⟨by have:=q.2.2.1;rwa [if_neg (by omega)] at this,q.2.2.2.2.2.1 hk⟩
  obtain ⟨q1,q2⟩:=Classical.byContradiction λq=>Bool.noConfusion (hb.2 q)
  rw [zqd,Ev.kz1 (by rfl)]
  exact l5 ⟨g1,g2,by rw [if_neg (by omega)];exact q1,g4,g5,λ_=>q2⟩
 have l2:(1<=a.kind∧a.kind<=6)∧(a.axis<=if a.kind=4∨a.kind=5 then 2 else 0)∧z3m (z34 a.args)=0∧own a.kind<=a.args.length->Ev (λn=>z4q n a) (z5i a):=λhg=>by
  have nm:decide ((a.name.length:Int)>0) = !(a.name==[]):=by rw [yy5];cases a.name <;> rfl
  rw [y24]
  by_cases h5:a.kind=5
  ·rw [Ev.yz1 (by simpa using h5),zks,Ev.yz1 (by rfl),nm]
   have ho:own a.kind=0:=by rw [h5];rfl
   by_cases hn:a.name=[]
   case neg=>rw [Ev.yz1 (by simpa using hn)];exact l4 hg (by omega) true (by simp [hn])
   rw [Ev.kz1 (by simpa using hn),Ev.yz1 (by simpa using h5)]
   by_cases ha:(a.args.length:Int)=0
   ·rw [Ev.kz1 (decide_eq_false (by omega)),Ev.kz1 (by rw [h5];rfl)];exact l4 hg (by omega) false ⟨λh=>(Bool.noConfusion h),λh=>(h ⟨hn,by rw [ho];exact ha⟩).elim⟩
   ·rw [Ev.yz1 (decide_eq_true (by omega))];exact l4 hg (by omega) true ⟨λ_ h=>ha (by rw [<-ho];exact h.2),λ_=>rfl⟩
  rw [Ev.kz1 (by simpa using h5)]
  by_cases h6:a.kind=6
  ·rw [show (a.kind==6)=true by simpa using h6,zks,Ev.yz1 (by rfl),nm]
   have ho:own a.kind=1:=by rw [h6];rfl
   by_cases hn:a.name=[]
   case neg=>rw [Ev.yz1 (by simpa using hn)];exact l4 hg (by omega) true (by simp [hn])
   rw [Ev.kz1 (by simpa using hn),Ev.kz1 (by simpa using h5),Ev.yz1 (by simpa using h6)]
   have:=hg.2.2.2
   refine l4 hg (by omega) _ ?_
   rw [ho] at this ⊢
   simp only [decide_eq_true_eq,hn,true_and];omega
  ·rw [show (a.kind==6)=false by simpa using h6,zks,Ev.kz1 (by rfl),Ev.yz0 (zqc (by omega))]
   have hk:a.kind<=4:=by have:=hg.1;omega
   cases hn:zeq a.name
   ·rw [Ev.yz1 (by rfl),Ev.kz0,zc8];exact λq=>by have:=q.2.2.1;rw [if_pos hk,hn] at this;cases this
   ·rw [Ev.kz1 (by rfl)];exact l5 ⟨hg.1,hg.2.1,by rw [if_pos hk,hn],hg.2.2.1,hg.2.2.2,λh=>by omega⟩
 have l1:(1<=a.kind∧a.kind<=6)∧z3m (z34 a.args)=0∧own a.kind<=a.args.length->∀b:Bool,b=decide (a.kind=4∨a.kind=5)->Ev (λn=>z4i n b a) (z5i a):=λhg b hb=>by
  rw [y28]
  by_cases h:a.kind=4∨a.kind=5
  ·rw [hb,decide_eq_true h,Ev.yz1 rfl]
   by_cases q:a.axis<=2
   ·rw [Ev.kz1 (by simp;omega)];exact l2 ⟨hg.1,by rw [if_pos h];exact q,hg.2⟩
   ·rw [Ev.yz1 (by simp;omega),Ev.kz0,zc8];exact λz=>q (by have:=z.2.1;rwa [if_pos h] at this)
  ·rw [hb,decide_eq_false h,Ev.kz1 rfl]
   by_cases q:a.axis<=0
   ·rw [Ev.kz1 (by simp;omega)];exact l2 ⟨hg.1,by rw [if_neg h];exact q,hg.2⟩
   ·rw [Ev.yz1 (by simp;omega),Ev.kz0,zc8];exact λz=>q (by have:=z.2.1;rwa [if_neg h] at this)
 have l0:∀b:Bool,(b=false->(1<=a.kind∧a.kind<=6)∧z3m (z34 a.args)=0∧own a.kind<=a.args.length)->(b=true->¬RAct a)->Ev (λn=>z1k n b a) (z5i a):=λb hf ht=>by
  cases b
  case true=>rw [zpz,Ev.yz1 (by rfl),Ev.kz0,zc8 (ht rfl)]
  rw [zpz,Ev.kz1 (by rfl)]
  by_cases h:a.kind=4
  ·rw [Ev.yz1 (by simpa using h)];exact l1 (hf rfl) true (by rw [decide_eq_true (.inl h)])
  ·rw [Ev.kz1 (by simpa using h)];exact l1 (hf rfl) _ (by by_cases q:a.kind=5 <;> simp [q,h])
 rw [yb1]
 by_cases h1:1<=a.kind
 case neg=>rw [Ev.yz1 (by simp;omega)];exact l0 true (λh=>by cases h) λ_ q=>h1 q.1.1
 rw [Ev.kz1 (by simp;omega)]
 by_cases h2:a.kind<=6
 case neg=>rw [Ev.yz1 (by simp;omega)];exact l0 true (λh=>by cases h) λ_ q=>h2 q.1.2
 rw [Ev.kz1 (by simp;omega),Ev.yz0 (list _),zz1.yz5,Ev.yz0 (zld (by rw [zhu];omega))]
 by_cases h3:z3m (z34 a.args)=0
 case neg=>rw [Ev.yz1 (by simpa using h3)];exact l0 true (λh=>by cases h) λ_ q=>h3 q.2.2.2.1
 rw [Ev.kz1 (by simpa using h3),Ev.yz0 yno]
 exact l0 _ (λh=>⟨⟨h1,h2⟩,h3,by have:=of_decide_eq_false h;omega⟩) λh q=>by have:=of_decide_eq_true h;have:=q.2.2.2.2.1;omega
end Go.Proofs.YtahcjggdcmgpkaaGreat
namespace Go.Proofs.YtahcjggdcmgpkaaGreat
open Go Go.Ab
set_option linter.unusedVariables false
set_option linter.unusedSimpArgs false
noncomputable def y8q (c:kz5):Bool:=decide (1<=c.weight)&&(decide (c.weight<=1000000)&&((z3m c.when_==0)&&c.do_.all z5i))
noncomputable def y1e (r:kz4):Bool:=zeq r.name&&(r.params.all zeq&&r.cases.all y8q)
noncomputable def yew (t:kz6):Bool:=zeq t.name&&(z3m t.value==0)
noncomputable def zfm (p:zz0):Bool:=p.attrs.all yew&&p.rules.all y1e
theorem ifA {c d:Bool} {γ:Type} {x y:γ}:(if (c&&d)=true then x else y)=if c=true then (if d=true then x else y) else y:=by cases c <;> rfl
theorem yoq {p:zz0} (hw:p.wf) (hs:p.size<=8000000):Ev (λn=>zcf n p) (zfm p):=by
 have:=@zjj p
 have:=@ze1 p
 have l2:Ev (λn=>z2l n 0 p.rules (p.rules.length:Int)) (if p.rules.all y1e=true then true else false):=by
  refine zdx (L:=λn k=>z2l n k p.rules (p.rules.length:Int)) (by rw [zq7,Ev.kz1 (by simp),Ev.kz0]) λk hk v hv => ?_
  have hr:=List.getElem_mem hk
  have:=znd hr
  have:=@zy9 p.rules[k]
  have:=@zup p.rules[k]
  have:=@z04u p.rules[k]
  have hwr:=yvi hw hr
  have l4:Ev (λn=>z2x n 0 p.rules[k].cases p.rules (p.rules.length:Int) (k:Int) (p.rules[k].cases.length:Int)) (if p.rules[k].cases.all y8q=true then v else false):=by
   refine zdx (L:=λn j=>z2x n j p.rules[k].cases p.rules (p.rules.length:Int) (k:Int) (p.rules[k].cases.length:Int)) (by rw [zqy,Ev.kz1 (by simp),wrk (by omega)];exact hv) λj hj w hv => ?_
   have hc:=List.getElem_mem hj
   have:=zt8 hc
   have:=@y8a p.rules[k].cases[j]
   have:=@zvt p.rules[k].cases[j]
   have hwc:=z017 hwr hc
   have l6:Ev (λn=>z2u n 0 p.rules[k].cases[j].do_ p.rules[k].cases p.rules (p.rules.length:Int) (k:Int) (p.rules[k].cases.length:Int) (j:Int) (p.rules[k].cases[j].do_.length:Int)) (if p.rules[k].cases[j].do_.all z5i=true then w else false):=by
    refine zdx (L:=λn i=>z2u n i p.rules[k].cases[j].do_ p.rules[k].cases p.rules (p.rules.length:Int) (k:Int) (p.rules[k].cases.length:Int) (j:Int) (p.rules[k].cases[j].do_.length:Int)) (by rw [zrd,Ev.kz1 (by simp),wrk (by omega)];exact hv) λi hi u hu => ?_
    have ha:=List.getElem_mem hi
    have:=zx1 ha
    rw [zrd,Ev.yz1 (by simpa using hi),Ev.kz2 (yz6 hi),Ev.yz0 (z00h (z01e hwc ha) (by omega))]
    cases z5i p.rules[k].cases[j].do_[i]
    ·rw [Ev.yz1 (by rfl),Ev.kz0];rfl
    ·rw [Ev.kz1 (by rfl),wrk (by omega)];exact hu
   have l5:∀b,Ev (λn=>z30 n p.rules[k].cases p.rules (p.rules.length:Int) (k:Int) (p.rules[k].cases.length:Int) (j:Int) (!b) p.rules[k].cases[j]) (if b=true then (if p.rules[k].cases[j].do_.all z5i=true then w else false) else false):=λb=>by
    cases b
    ·rw [zqa,Ev.yz1 (by rfl),Ev.kz0];rfl
    ·rw [zqa,Ev.kz1 (by rfl)];exact l6
   rw [zqy,Ev.yz1 (by simpa using hj),Ev.kz2 (yz6 hj),kz5.yz5,y8q,ifA,ifA,ifA]
   by_cases h1:1<=p.rules[k].cases[j].weight
   case neg=>rw [Ev.yz1 (by simp;omega),decide_eq_false h1];exact l5 false
   rw [Ev.kz1 (by simp;omega),decide_eq_true h1]
   by_cases h2:p.rules[k].cases[j].weight<=1000000
   case neg=>rw [Ev.yz1 (by simp;omega),decide_eq_false h2];exact l5 false
   rw [Ev.kz1 (by simp;omega),decide_eq_true h2,zz1.yz5,Ev.yz0 (zwl (z05m hwc) (by omega)),neI]
   exact l5 _
  have l3:∀b,Ev (λn=>z4k n p.rules (p.rules.length:Int) (k:Int) (!b) p.rules[k]) (if b=true then (if p.rules[k].cases.all y8q=true then v else false) else false):=λb=>by
   cases b
   ·rw [zqm,Ev.yz1 (by rfl),Ev.kz0];rfl
   ·rw [zqm,Ev.kz1 (by rfl)];exact l4
  obtain ⟨i,h1,h2⟩:=y76 (S:=λn x=>z9l n x) (l:=p.rules[k].params) (p:=λs => !zeq s) (L:=λn k l m=>zzn n k l m) (λn k=>zzn.eq_2 _ _ _ n) (by omega) λx hx=>by
   have:=z075 hx
   rw [y59,Ev.yz0 (zo9 (by omega)),Ev.kz0]
  have hc:Ev (λn=>kzm n p.rules[k].params) (!p.rules[k].params.all zeq):=by
   rw [zgr,Ev.yz0 (by rw [zj1];exact h1),Ev.kz0,h2,<-List.not_all_eq_any_not]
  rw [zq7,Ev.yz1 (by simpa using hk),Ev.kz2 (yz6 hk),y1e,ifA,ifA,Ev.yz0 (zo9 (by omega))]
  cases zeq p.rules[k].name
  ·rw [Ev.yz1 (by rfl)];exact l3 false
  ·rw [Ev.kz1 (by rfl),Ev.yz0 hc];exact l3 _
 have l0:Ev (λn=>z2q n 0 p.attrs (p.attrs.length:Int) p) (if p.attrs.all yew=true then p.rules.all y1e else false):=by
  refine zdx (L:=λn k=>z2q n k p.attrs (p.attrs.length:Int) p) (by rw [zrc,Ev.kz1 (by simp),<-ifB (p.rules.all y1e)];exact l2) λk hk v hv => ?_
  have ht:=List.getElem_mem hk
  have:=zx8 ht
  have:=@zx9 p.attrs[k]
  have l1:∀b,Ev (λn=>z4o n p.attrs (p.attrs.length:Int) (k:Int) (!b) p) (if b=true then v else false):=λb=>by
   cases b
   ·rw [zqt,Ev.yz1 (by rfl),Ev.kz0];rfl
   ·rw [zqt,Ev.kz1 (by rfl),wrk (by omega)];exact hv
  rw [zrc,Ev.yz1 (by simpa using hk),Ev.kz2 (yz6 hk),yew,ifA,Ev.yz0 (zo9 (by omega))]
  cases zeq p.attrs[k].name
  ·rw [Ev.yz1 (by rfl)];exact l1 false
  ·rw [Ev.kz1 (by rfl),zz1.yz5,Ev.yz0 (zwl (z00o hw ht) (by omega)),neI];exact l1 _
 rw [y98]
 refine l0.to ?_
 rw [zfm];cases p.attrs.all yew <;> rfl
theorem yqv {p:zz0} (hw:p.wf) (hs:p.size<=8000000):Ev (λn=>zc9 n p) (zfm p):=by
 have:=@zjj p
 have:=@ze1 p
 have l2:Ev (λn=>z2z n 0 p) (if p.rules.all y1e=true then true else false):=by
  refine zdx (L:=λn k=>z2z n k p) (by rw [zqq,Ev.kz1 (by simp),Ev.kz0]) λk hk v hv => ?_
  have hr:=List.getElem_mem hk
  have:=znd hr
  have:=@zy9 p.rules[k]
  have:=@zup p.rules[k]
  have:=@z04u p.rules[k]
  have hwr:=yvi hw hr
  have l4:Ev (λn=>z2m n 0 (k:Int) p.rules[k] p) (if p.rules[k].cases.all y8q=true then v else false):=by
   refine zdx (L:=λn j=>z2m n j (k:Int) p.rules[k] p) (by rw [zq4,Ev.kz1 (by simp),wrk (by omega)];exact hv) λj hj w hv => ?_
   have hc:=List.getElem_mem hj
   have:=zt8 hc
   have:=@y8a p.rules[k].cases[j]
   have:=@zvt p.rules[k].cases[j]
   have hwc:=z017 hwr hc
   have l6:Ev (λn=>z2o n 0 (k:Int) (j:Int) p.rules[k].cases[j] p.rules[k] p) (if p.rules[k].cases[j].do_.all z5i=true then w else false):=by
    refine zdx (L:=λn i=>z2o n i (k:Int) (j:Int) p.rules[k].cases[j] p.rules[k] p) (by rw [zr2,Ev.kz1 (by simp),wrk (by omega)];exact hv) λi hi u hu => ?_
    have ha:=List.getElem_mem hi
    have:=zx1 ha
    rw [zr2,Ev.yz1 (by simpa using hi),Ev.kz2 (yz6 hi),Ev.yz0 (yyg (z01e hwc ha) (by omega)),kz5.yz5]
    cases z5i p.rules[k].cases[j].do_[i]
    ·rw [Ev.yz1 (by rfl),Ev.kz0];rfl
    ·rw [Ev.kz1 (by rfl),wrk (by omega)];exact hu
   have l5:∀b,Ev (λn=>z2r n (k:Int) (j:Int) (!b) p.rules[k].cases[j] p.rules[k] p) (if b=true then (if p.rules[k].cases[j].do_.all z5i=true then w else false) else false):=λb=>by
    cases b
    ·rw [zqk,Ev.yz1 (by rfl),Ev.kz0];rfl
    ·rw [zqk,Ev.kz1 (by rfl),kz5.yz5];exact l6
   rw [zq4,Ev.yz1 (by simpa using hj),Ev.kz2 (yz6 hj),kz5.yz5,y8q,ifA,ifA,ifA]
   by_cases h1:1<=p.rules[k].cases[j].weight
   case neg=>rw [Ev.yz1 (by simp;omega),decide_eq_false h1];exact l5 false
   rw [Ev.kz1 (by simp;omega),decide_eq_true h1]
   by_cases h2:p.rules[k].cases[j].weight<=1000000
   case neg=>rw [Ev.yz1 (by simp;omega),decide_eq_false h2];exact l5 false
   rw [Ev.kz1 (by simp;omega),decide_eq_true h2,zz1.yz5,Ev.yz0 (zld (by omega)),neI]
   exact l5 _
  have l3:Ev (λn=>z2w n 0 (k:Int) p.rules[k] p) (if p.rules[k].params.all zeq=true then (if p.rules[k].cases.all y8q=true then v else false) else false):=by
   refine zdx (L:=λn j=>z2w n j (k:Int) p.rules[k] p) (by rw [zqs,Ev.kz1 (by simp)];exact l4) λj hj w hv => ?_
   have:=z075 (List.getElem_mem hj)
   rw [zqs,Ev.yz1 (by simpa using hj),Ev.kz2 (yz6 hj),Ev.yz0 (zqc (by omega))]
   cases zeq p.rules[k].params[j]
   ·rw [Ev.yz1 (by rfl),Ev.kz0];rfl
   ·rw [Ev.kz1 (by rfl),wrk (by omega)];exact hv
  rw [zqq,Ev.yz1 (by simpa using hk),Ev.kz2 (yz6 hk),y1e,ifA,ifA,Ev.yz0 (zqc (by omega))]
  cases zeq p.rules[k].name
  ·rw [Ev.yz1 (by rfl),Ev.kz0];rfl
  ·rw [Ev.kz1 (by rfl)];exact l3
 have l0:Ev (λn=>z2y n 0 p) (if p.attrs.all yew=true then p.rules.all y1e else false):=by
  refine zdx (L:=λn k=>z2y n k p) (by rw [zqr,Ev.kz1 (by simp),<-ifB (p.rules.all y1e)];exact l2) λk hk v hv => ?_
  have ht:=List.getElem_mem hk
  have:=zx8 ht
  have:=@zx9 p.attrs[k]
  have l1:∀b,Ev (λn=>z4n n (k:Int) (!b) p) (if b=true then v else false):=λb=>by
   cases b
   ·rw [zrf,Ev.yz1 (by rfl),Ev.kz0];rfl
   ·rw [zrf,Ev.kz1 (by rfl),wrk (by omega)];exact hv
  rw [zqr,Ev.yz1 (by simpa using hk),Ev.kz2 (yz6 hk),yew,ifA,Ev.yz0 (zqc (by omega))]
  cases zeq p.attrs[k].name
  ·rw [Ev.yz1 (by rfl)];exact l1 false
  ·rw [Ev.kz1 (by rfl),Ev.kz2 (yz6 hk),zz1.yz5,Ev.yz0 (zld (by omega)),neI];exact l1 _
 rw [y9v]
 refine l0.to ?_
 rw [zfm];cases p.attrs.all yew <;> rfl
def kz8 (p:zz0):List (List UInt8):=p.attrs.map (·.name)
def zz4 (p:zz0):List (List UInt8):=p.rules.map (·.name)
theorem yd9 {α β:Type} {g:α->β} (l:List α) (s:List β):l.foldl (λs x=>s++[g x]) s=s++l.map g:=by
 induction l generalizing s with
 |nil=>simp
 |cons x l ih=>simp [ih]
theorem zry {p:zz0} (hs:p.size<=8000000):Ev (λn=>z5w n p) (kz8 p):=by
 have:=@zjj p
 rw [yg5]
 refine ywe (L:=λn k s=>z65 n k p s) (xs:=p.attrs) (f:=λs x=>s++[x.name]) (I:=λk s=>s.length=k) rfl (λ_=>by
  rw [zrk,Ev.kz1 (by simp),Ev.kz0,yd9];rfl) λk hk s hi=>⟨by simp [hi],λh=>by
  rw [zrk,Ev.yz1 (by simpa using hk),Ev.kz2 (yz6 hk),Ev.kz2 (z1j (by simp;omega)),wrk (by omega)];exact h⟩
theorem zf0 {p:zz0} (hs:p.size<=8000000):Ev (λn=>z11 n p) (zz4 p):=by
 have:=@ze1 p
 rw [ydq]
 refine ywe (L:=λn k s=>z5p n k p s) (xs:=p.rules) (f:=λs x=>s++[x.name]) (I:=λk s=>s.length=k) rfl (λ_=>by
  rw [zsn,Ev.kz1 (by simp),Ev.kz0,yd9];rfl) λk hk s hi=>⟨by simp [hi],λh=>by
  rw [zsn,Ev.yz1 (by simpa using hk),Ev.kz2 (yz6 hk),Ev.kz2 (z1j (by simp;omega)),wrk (by omega)];exact h⟩
def atI (l:List (List UInt8)) (s:List UInt8):Int:=match l.idxOf? s with
 |some i=>(i:Int)
 |none => -1
theorem z05y {l:List (List UInt8)} {s:List UInt8} : -1<=atI l s:=by unfold atI;split <;> omega
theorem zr8 (x:List UInt8) (l:List (List UInt8)) (s:List UInt8):atI (x::l) s=if x=s then 0 else if atI l s = -1 then -1 else atI l s+1:=by
 unfold atI
 rw [List.idxOf?_cons]
 by_cases h:x=s
 ·subst h;simp
 ·have:(x==s)=false:=by simpa using h
  rw [this,if_neg h]
  simp only [Bool.false_eq_true,if_false]
  cases l.idxOf? s <;> simp
theorem ycf {L:Nat->Int->Option Int} {l:List (List UInt8)} {s:List UInt8} {p:List UInt8->Bool} (hp:∀x,p x=true↔x=s) (hb:l.length<=8388608)
  (hL:∀n (k:Int),L (n+1) k=pIf (decide (k<(l.length:Int))) ((ix l k).bind λx0=>pIf (p x0) (some k) (L n (IntKind.i64.wrap (k+1)))) (some (-1))):Ev (λn=>L n 0) (atI l s):=by
 have:∀k,k<=l.length->Ev (λn=>L n (k:Int)) (if atI (l.drop k) s = -1 then -1 else atI (l.drop k) s+k) :=
  down (by rw [Ev.zmg (λn=>hL n _),Ev.kz1 (by simp),Ev.kz0,List.drop_length];rfl) λk hk ih=>by
   rw [Ev.zmg (λn=>hL n _),Ev.yz1 (by simpa using hk),Ev.kz2 (yz6 hk),<-List.getElem_cons_drop (h:=hk),zr8]
   by_cases h:l[k]=s
   ·rw [Ev.yz1 ((hp _).2 h),Ev.kz0,if_pos h];simp
   ·rw [Ev.kz1 (by rw [Bool.eq_false_iff];exact λq=>h ((hp _).1 q)),wrk (by omega),if_neg h]
    refine ih.to ?_
    by_cases q:atI (l.drop (k+1)) s = -1
    ·simp [q]
    ·have h0:=@z05y (l.drop (k+1)) s
     rw [if_neg q,if_neg q,if_neg (by omega)];omega
 have:=this 0 (Nat.zero_le _)
 simp only [List.drop_zero] at this
 refine Ev.to this ?_
 split
 ·rename_i h;exact h.symm
 ·simp
theorem zmr {l:List (List UInt8)} {s:List UInt8} (hb:l.length<=8388608):Ev (λn=>z44 n l s) (atI l s):=by
 rw [yv4]
 exact ycf (L:=λn k=>zej n k s l) (p:=λx=>x==s) (λx=>by simp) hb λn k=>zej.eq_2 _ _ _ n
theorem z01h {l:List (List UInt8)} {s:List UInt8} (hb:l.length<=8388608):Ev (λn=>kzv n l s) (atI l s):=by
 rw [zf1]
 exact ycf (L:=λn k=>yzi n k l s (l.length:Int)) (p:=λx=>s==x) (λx=>by simp;exact eq_comm) hb λn k=>yzi.eq_2 _ _ _ _ n
theorem z4g {l:List (List UInt8)} {s:List UInt8}:atI l s<0↔s∉l:=by
 induction l with
 |nil=>simp [atI]
 |cons x l ih =>
  rw [zr8]
  by_cases h:x=s
  · subst h;simp
  · have:s∉x::l↔s∉l:=by simp [Ne.symm h]
    rw [if_neg h,this,<-ih]
    split
    · rename_i q;simp [q]
    · have : -1<=atI l s:=by unfold atI;split <;> omega
      omega
theorem zyb {l:List (List UInt8)} {s:List UInt8} (h:s∈l):∃i:Nat,∃(hi:i<l.length),atI l s=(i:Int)∧l[i]=s∧∀j (hj:j<i),l[j]'(by omega)≠s:=by
 induction l with
 |nil=>cases h
 |cons x l ih =>
  rw [zr8]
  by_cases q:x=s
  · exact ⟨0,by simp,by simp [q],by simpa using q,λj hj=>by omega⟩
  · have hm:s∈l:=by rcases List.mem_cons.1 h with h|h;· exact (q h.symm).elim
                    · exact h
    obtain ⟨i,hi,h1,h2,h3⟩:=ih hm
    refine ⟨i+1,by simp;omega,?_,by simpa using h2,λj hj => ?_⟩
    · rw [if_neg q,h1,if_neg (by omega)];omega
    · cases j with
      |zero=>simpa using q
      |succ j=>simpa using h3 j (by omega)
end Go.Proofs.YtahcjggdcmgpkaaGreat
namespace Go.Proofs.YtahcjggdcmgpkaaGreat
open Go Go.Ab
set_option linter.unusedVariables false
set_option linter.unusedSimpArgs false
theorem zko {α β γ:Type} {L:Nat->Int->List β->Option γ} {xs:List α} {g:α->List β} {v:γ} {s0:List β} {B:Nat} (hB:s0.length+(xs.flatMap g).length<=B)
  (he:Ev (λn=>L n (xs.length:Int) (s0++xs.flatMap g)) v)
  (hs:∀k (h:k<xs.length) s,s.length+(g xs[k]).length<=B->Ev (λn=>L n ((k+1:Nat):Int) (s++g xs[k])) v->Ev (λn=>L n (k:Int) s) v):Ev (λn=>L n 0 s0) v:=by
 have:∀m k,k+m=xs.length->∀s,s.length+((xs.drop k).flatMap g).length<=B->s++(xs.drop k).flatMap g=s0++xs.flatMap g->Ev (λn=>L n (k:Int) s) v:=λm=>by
  induction m with
  |zero =>
   intro k hk s hi hf
   have hkl:k=xs.length:=by omega
   subst hkl
   rw [List.drop_length] at hf
   simp only [List.flatMap_nil,List.append_nil] at hf
   rw [hf];exact he
  |succ m ih =>
   intro k hk s hi hf
   have hlt:k<xs.length:=by omega
   rw [<-List.getElem_cons_drop (h:=hlt),List.flatMap_cons,List.length_append] at hi
   rw [<-List.getElem_cons_drop (h:=hlt),List.flatMap_cons,<-List.append_assoc] at hf
   exact hs k hlt s (by omega) (ih (k+1) (by omega) _ (by rw [List.length_append];omega) hf)
 simpa using this xs.length 0 (by omega) s0 (by simpa using hB) (by simp)
theorem zq2 {α β:Type} {f:α->Nat} {g:α->List β}:∀{l:List α},(∀x∈l,(g x).length<=f x)->(l.flatMap g).length<=(l.map f).sum
 |[],_=>by simp
 |x::l,h=>by
  have h1:=h x List.mem_cons_self
  have h2:=zq2 (f:=f) (g:=g) (l:=l) λy hy=>h y (List.mem_cons_of_mem _ hy)
  simp only [List.flatMap_cons,List.length_append,List.map_cons,List.sum_cons];omega
def zyx (x:yza):List (List UInt8×Int):=[(x.name,(x.args.length:Int)-1)]
def zmt (a:zz3):List (List UInt8×Int):=(if a.name=[] then [] else [(a.name,(a.args.length:Int)-own a.kind)])++a.items.flatMap zyx
def y7p (c:kz5):List (List UInt8×Int):=c.do_.flatMap zmt
def zz9 (r:kz4):List (List UInt8×Int):=r.cases.flatMap y7p
theorem z006 (a:zz3):(zmt a).length<=a.size:=by
 have h:=zq2 (f:=yza.size) (g:=zyx) (l:=a.items) λx _=>by rw [yza.size_eq];show 1<=_;omega
 rw [zz3.size_eq,zmt,List.length_append]
 split <;> simp only [List.length_cons,List.length_nil] <;> omega
theorem z00a (c:kz5):(y7p c).length<=c.size:=by
 have h:=zq2 (f:=zz3.size) (g:=zmt) (l:=c.do_) λx _=>z006 x
 rw [kz5.size_eq];unfold y7p;omega
theorem zkx (r:kz4):(zz9 r).length<=r.size:=by
 have h:=zq2 (f:=kz5.size) (g:=y7p) (l:=r.cases) λx _=>z00a x
 rw [kz4.size_eq];unfold zz9;omega
def toT (x:List UInt8×Int):zzq:=⟨x.1,x.2⟩
def toG (x:List UInt8×Int):z0q:=⟨x.1,x.2⟩
theorem z07j (k:Int):0<=own k∧own k<=3:=by unfold own;split <;> (try split) <;> omega
theorem ysc {a k:Int} (h0:0<=a) (h1:a<=8000000) (h2:0<=k) (h3:k<=3):IntKind.i64.wrap (a-k)=a-k:=wI (by omega)
theorem y8r {r:kz4} (hs:r.size<=8000000):Ev (λn=>zbt n r) ((zz9 r).map toT):=by
 have hlen:=zkx r
 have hmap:(zz9 r).map toT=r.cases.flatMap λc=>c.do_.flatMap λa=>(zmt a).map toT:=by simp only [zz9,y7p,List.map_flatMap]
 have:=@zup r
 rw [yff]
 refine zko (L:=λn k s=>z6c n k r.cases (r.cases.length:Int) s) (xs:=r.cases) (g:=λc=>c.do_.flatMap λa=>(zmt a).map toT) (B:=8000000) (by rw [<-hmap];simp;omega) (by
  rw [zt3,Ev.kz1 (by simp),Ev.kz0,hmap];rfl) λk hk s hi hv => ?_
 have:=zt8 (List.getElem_mem hk)
 have:=@zvt r.cases[k]
 rw [zt3,Ev.yz1 (by simpa using hk),Ev.kz2 (yz6 hk)]
 refine zko (L:=λn j s=>z3t n j r.cases[k].do_ r.cases (r.cases.length:Int) (k:Int) (r.cases[k].do_.length:Int) s) (xs:=r.cases[k].do_) (g:=λa=>(zmt a).map toT) (B:=8000000) hi (by
  rw [zsi,Ev.kz1 (by simp),wrk (by omega)];exact hv) λj hj s hi hv => ?_
 have:=zx1 (List.getElem_mem hj)
 generalize hx:r.cases[k].do_[j]=a at *
 have:=@zxg a
 have:=@z04v a
 have ho:=z07j a.kind
 rw [zmt,List.map_append,List.length_append] at hi
 rw [zmt,List.map_append,<-List.append_assoc] at hv
 have l2:∀t:List zzq,t.length+((a.items.flatMap zyx).map toT).length<=8000000->Ev (λn=>z3t n ((j+1:Nat):Int) r.cases[k].do_ r.cases (r.cases.length:Int) (k:Int) (r.cases[k].do_.length:Int) (t++(a.items.flatMap zyx).map toT)) ((zz9 r).map toT)->Ev (λn=>z63 n r.cases[k].do_ r.cases (r.cases.length:Int) (k:Int) (r.cases[k].do_.length:Int) (j:Int) t a) ((zz9 r).map toT):=λt ht hv=>by
  have hm:(a.items.flatMap zyx).map toT=a.items.flatMap λx=>[(⟨x.name,(x.args.length:Int)-1⟩:zzq)]:=by rw [List.map_flatMap];rfl
  rw [hm] at ht hv
  rw [y3s]
  refine zko (L:=λn i s=>z79 n i a.items r.cases[k].do_ r.cases (r.cases.length:Int) (k:Int) (r.cases[k].do_.length:Int) (j:Int) (a.items.length:Int) s) (xs:=a.items) (g:=λx=>[(⟨x.name,(x.args.length:Int)-1⟩:zzq)]) (B:=8000000) ht (by
   rw [zs5,Ev.kz1 (by simp),wrk (by omega)];exact hv) λi hi s hl hv => ?_
  have:=y3b (List.getElem_mem hi)
  have:=@z041 a.items[i]
  rw [zs5,Ev.yz1 (by simpa using hi),Ev.kz2 (yz6 hi),ysc (by omega) (by omega) (by omega) (by omega),Ev.kz2 (z1j (by simp at hl ⊢;omega)),wrk (by omega)]
  exact hv
 rw [zsi,Ev.yz1 (by simpa using hj),Ev.kz2 (yz6 hj),hx]
 by_cases hn:a.name=[]
 ·rw [Ev.kz1 (by simp [hn])]
  rw [if_pos hn] at hv hi
  exact l2 s (by simpa using hi) (by simpa using hv)
 ·rw [Ev.yz1 (by simpa using hn),Ev.yz0 y7k,ysc (by omega) (by omega) ho.1 ho.2]
  rw [if_neg hn] at hv hi
  rw [Ev.kz2 (z1j (by simp at hi ⊢;omega))]
  exact l2 _ (by simp at hi ⊢;omega) hv
theorem y2h {r:kz4} (hs:r.size<=8000000) (hf:∀c∈r.cases,∀a∈c.do_,(a.name=[]↔a.kind=5∨a.kind=6)):Ev (λn=>zbc n r) ((zz9 r).map toG):=by
 have hlen:=zkx r
 have hmap:(zz9 r).map toG=r.cases.flatMap λc=>c.do_.flatMap λa=>(zmt a).map toG:=by simp only [zz9,y7p,List.map_flatMap]
 have:=@zup r
 rw [ylx]
 refine zko (L:=λn k s=>z7o n k s r) (xs:=r.cases) (g:=λc=>c.do_.flatMap λa=>(zmt a).map toG) (B:=8000000) (by rw [<-hmap];simp;omega) (by
  rw [zu8,Ev.kz1 (by simp),Ev.kz0,hmap];rfl) λk hk s hi hv => ?_
 have hc:=List.getElem_mem hk
 have:=zt8 hc
 have:=@zvt r.cases[k]
 rw [zu8,Ev.yz1 (by simpa using hk)]
 refine zko (L:=λn j s=>z55 n j (k:Int) s r) (xs:=r.cases[k].do_) (g:=λa=>(zmt a).map toG) (B:=8000000) hi (by
  rw [zu9,Ev.kz2 (yz6 hk),Ev.kz1 (by simp),wrk (by omega)];exact hv) λj hj s hi hv => ?_
 have ha:=List.getElem_mem hj
 have:=zx1 ha
 have hfa:=hf _ hc _ ha
 generalize hx:r.cases[k].do_[j]=a at *
 have:=@zxg a
 have:=@z04v a
 have ho:=z07j a.kind
 rw [zmt,List.map_append,List.length_append] at hi
 rw [zmt,List.map_append,<-List.append_assoc] at hv
 have l2:∀t:List z0q,t.length+((a.items.flatMap zyx).map toG).length<=8000000->Ev (λn=>z55 n ((j+1:Nat):Int) (k:Int) (t++(a.items.flatMap zyx).map toG) r) ((zz9 r).map toG)->Ev (λn=>z83 n (k:Int) (j:Int) a t r) ((zz9 r).map toG):=λt ht hv=>by
  have hm:(a.items.flatMap zyx).map toG=a.items.flatMap λx=>[(⟨x.name,(x.args.length:Int)-1⟩:z0q)]:=by rw [List.map_flatMap];rfl
  rw [hm] at ht hv
  rw [y6r]
  refine zko (L:=λn i s=>z80 n i (k:Int) (j:Int) a s r) (xs:=a.items) (g:=λx=>[(⟨x.name,(x.args.length:Int)-1⟩:z0q)]) (B:=8000000) ht (by
   rw [zvo,Ev.kz1 (by simp),wrk (by omega)];exact hv) λi hi s hl hv => ?_
  have:=y3b (List.getElem_mem hi)
  have:=@z041 a.items[i]
  rw [zvo,Ev.yz1 (by simpa using hi),Ev.kz2 (yz6 hi),Ev.kz2 (yz6 hi),ysc (by omega) (by omega) (by omega) (by omega),Ev.kz2 (z1j (by simp at hl ⊢;omega)),wrk (by omega)]
  exact hv
 rw [zu9,Ev.kz2 (yz6 hk),Ev.yz1 (by simpa using hj),Ev.kz2 (yz6 hk),Ev.kz2 (yz6 hj),hx]
 by_cases hn:a.name=[]
 ·rw [if_pos hn] at hv hi
  have l3:=l2 s (by simpa using hi) (by simpa using hv)
  have l2f:Ev (λn=>z7t n (k:Int) (j:Int) false a r s) ((zz9 r).map toG):=by rw [zuq,Ev.kz1 (by rfl)];exact l3
  rcases hfa.1 hn with h|h
  ·rw [Ev.kz1 (by simp [h])];exact l2f
  ·rw [Ev.yz1 (by simp [h]),show (a.kind != 6)=false by simp [h]];exact l2f
 ·have hk5:a.kind≠5∧a.kind≠6:=⟨λh=>hn (hfa.2 (.inl h)),λh=>hn (hfa.2 (.inr h))⟩
  rw [Ev.yz1 (by simp [hk5.1]),show (a.kind != 6)=true by simp [hk5.2],zuq,Ev.yz1 (by rfl),Ev.yz0 yno,ysc (by omega) (by omega) ho.1 ho.2]
  rw [if_neg hn] at hv hi
  rw [Ev.kz2 (z1j (by simp at hi ⊢;omega))]
  exact l2 _ (by simp at hi ⊢;omega) hv
theorem yfn {a:zz3} (h:z5i a=true):a.name=[]↔a.kind=5∨a.kind=6:=by
 obtain ⟨h1,h2,h3,_⟩:=ztg.1 h
 by_cases hk:a.kind<=4
 ·rw [if_pos hk] at h3
  refine ⟨λh => ?_,λh=>by omega⟩
  rw [h,yn5] at h3;cases h3
 ·rw [if_neg hk] at h3
  exact ⟨λ_=>by omega,λ_=>h3⟩
theorem y3i {p:zz0} (h:zfm p=true):∀r∈p.rules,∀c∈r.cases,∀a∈c.do_,z5i a=true:=λr hr c hc a ha=>by
 unfold zfm at h
 have h:=List.all_eq_true.1 (Bool.and_eq_true_iff.1 h).2 r hr
 unfold y1e at h
 have h:=List.all_eq_true.1 (Bool.and_eq_true_iff.1 (Bool.and_eq_true_iff.1 h).2).2 c hc
 unfold y8q at h
 exact List.all_eq_true.1 (Bool.and_eq_true_iff.1 (Bool.and_eq_true_iff.1 (Bool.and_eq_true_iff.1 h).2).2).2 a ha
def zhf (a:zz3):List zz1:=a.args++a.items.flatMap (·.args)
def zj7 (c:kz5):List zz1:=c.when_::c.do_.flatMap zhf
def zyt (r:kz4):List zz1:=r.cases.flatMap zj7
theorem ye5 (a:zz3):(zhf a).length<=a.size:=by
 have h:=zq2 (f:=yza.size) (g:=λx:yza=>x.args) (l:=a.items) λx _=>z041
 have:=zcb a.args
 rw [zz3.size_eq,zhf,List.length_append];omega
theorem y1t (c:kz5):(zj7 c).length<=c.size:=by
 have h:=zq2 (f:=zz3.size) (g:=zhf) (l:=c.do_) λx _=>ye5 x
 rw [kz5.size_eq,zj7,List.length_cons];omega
theorem yby (r:kz4):(zyt r).length<=r.size:=by
 have h:=zq2 (f:=kz5.size) (g:=zj7) (l:=r.cases) λx _=>y1t x
 rw [kz4.size_eq];unfold zyt;omega
theorem zw6 {a:zz3} {e:zz1} (h:e∈zhf a):e.size<=a.size∧(a.wf->e.wf):=by
 rcases List.mem_append.1 h with h|h
 ·have:=y05 h;have:=@y84 a;exact ⟨by omega,λw=>wf_ae w h⟩
 ·obtain ⟨x,hx,he⟩:=List.mem_flatMap.1 h
  have:=y05 he;have:=@y8v x;have:=y3b hx;exact ⟨by omega,λw=>wf_xe (z07a w hx) he⟩
theorem y34 {c:kz5} {e:zz1} (h:e∈zj7 c):e.size<=c.size∧(c.wf->e.wf):=by
 rcases List.mem_cons.1 h with h|h
 ·subst h;have:=@y8a c;exact ⟨by omega,z05m⟩
 ·obtain ⟨a,ha,he⟩:=List.mem_flatMap.1 h
  have:=zw6 he;have:=zx1 ha;exact ⟨by omega,λw=>(zw6 he).2 (z01e w ha)⟩
theorem ycc {r:kz4} {e:zz1} (h:e∈zyt r):e.size<=r.size∧(r.wf->e.wf):=by
 obtain ⟨c,hc,he⟩:=List.mem_flatMap.1 h
 have:=y34 he;have:=zt8 hc;exact ⟨by omega,λw=>(y34 he).2 (z017 w hc)⟩
theorem yw5 {r:kz4} (hs:r.size<=8000000):Ev (λn=>zdy n r) (zyt r):=by
 have hlen:=yby r
 have:=@zup r
 rw [ybo]
 refine zko (L:=λn k s=>z6s n k r.cases (r.cases.length:Int) s) (xs:=r.cases) (g:=zj7) (B:=8000000) (by show 0+(zyt r).length<=_;omega) (by
  rw [zrz,Ev.kz1 (by simp),Ev.kz0];rfl) λk hk s hi hv => ?_
 have:=zt8 (List.getElem_mem hk)
 have:=@zvt r.cases[k]
 have e1:s++zj7 r.cases[k]=(s++[r.cases[k].when_])++r.cases[k].do_.flatMap zhf:=by simp [zj7]
 rw [e1] at hv
 rw [zj7,List.length_cons] at hi
 rw [zrz,Ev.yz1 (by simpa using hk),Ev.kz2 (yz6 hk),zz1.yz5,Ev.kz2 (z1j (by simp only [List.length_append,List.length_cons,List.length_nil];omega))]
 refine zko (L:=λn j s=>z6k n j r.cases[k].do_ r.cases (r.cases.length:Int) (k:Int) (r.cases[k].do_.length:Int) s) (xs:=r.cases[k].do_) (g:=zhf) (B:=8000000) (by simp only [List.length_append,List.length_cons,List.length_nil];omega) (by
  rw [ztd,Ev.kz1 (by simp),wrk (by omega)];exact hv) λj hj s hi hv => ?_
 have:=zx1 (List.getElem_mem hj)
 generalize hx:r.cases[k].do_[j]=a at *
 have:=@zxg a
 rw [zhf,List.length_append] at hi
 rw [zhf,<-List.append_assoc] at hv
 rw [ztd,Ev.yz1 (by simpa using hj),Ev.kz2 (yz6 hj),hx,Ev.kz2 (z1j (by omega))]
 refine zko (L:=λn i s=>z61 n i a.items r.cases[k].do_ r.cases (r.cases.length:Int) (k:Int) (r.cases[k].do_.length:Int) (j:Int) (a.items.length:Int) s) (xs:=a.items) (g:=λx=>x.args) (B:=8000000) (by simp only [List.length_append,List.length_cons,List.length_nil];omega) (by
  rw [zrw,Ev.kz1 (by simp),wrk (by omega)];exact hv) λi hi s hl hv => ?_
 rw [zrw,Ev.yz1 (by simpa using hi),Ev.kz2 (yz6 hi),Ev.kz2 (z1j (by omega)),wrk (by omega)]
 exact hv
theorem yw1 {c:kz5} (hs:c.size<=8000000):Ev (λn=>ze3 n c) (zj7 c):=by
 have hlen:=y1t c
 have:=@zvt c
 have e1:zj7 c=[c.when_]++c.do_.flatMap zhf:=by simp [zj7]
 rw [zj7,List.length_cons] at hlen
 rw [ydd,kz5.yz5,zz1.yz5]
 refine zko (L:=λn j s=>z67 n j c s) (xs:=c.do_) (g:=zhf) (B:=8000000) (by simp only [List.length_append,List.length_cons,List.length_nil];omega) (by
  rw [zsw,Ev.kz1 (by simp),Ev.kz0,e1]) λj hj s hi hv => ?_
 have:=zx1 (List.getElem_mem hj)
 have hxx:=yz6 hj
 generalize hx:c.do_[j]=a at *
 have:=@zxg a
 rw [zhf,List.length_append] at hi
 rw [zhf,<-List.append_assoc] at hv
 rw [zsw,Ev.yz1 (by simpa using hj),Ev.kz2 hxx,Ev.kz2 (z1j (by omega)),kz5.yz5]
 refine zko (L:=λn i s=>z5u n i (j:Int) c s) (xs:=a.items) (g:=λx=>x.args) (B:=8000000) (by simp only [List.length_append,List.length_cons,List.length_nil];omega) (by
  rw [zst,Ev.kz2 hxx,Ev.kz1 (by simp),wrk (by omega),kz5.yz5];exact hv) λi hi s hl hv => ?_
 rw [zst,Ev.kz2 hxx,Ev.yz1 (by simpa using hi),Ev.kz2 hxx,Ev.kz2 (yz6 hi),Ev.kz2 (z1j (by omega)),wrk (by omega),kz5.yz5]
 exact hv
noncomputable def within (K:List (List UInt8)) (e:zz1):Bool:=(z5j e).1.all λs=>decide (s∈K)
theorem zwa (e:zz1) (hs:e.size<=8388608):(z5j e).1.length<=8388608:=by
 unfold z5j
 split
 ·simp
 ·have h1:=ynj e [];have h2:=zva e;simp only [List.length_nil] at h1;show (zn8 e []).length<=_;omega
theorem y3e {e:zz1} {K:List (List UInt8)} (hs:e.size<=8388608) (hK:K.length<=8388608):Ev (λn=>z9z n e K) (within K e):=by
 have hl:=zwa e hs
 rw [ya7,zz1.yz5,Ev.yz0 (y87 hs),<-ifB (within K e)]
 refine zdx (L:=λn k=>z4u n k (z5j e).1 K) (by rw [zr6,Ev.kz1 (by simp),Ev.kz0]) λk hk v hv => ?_
 rw [zr6,Ev.yz1 (by simpa using hk),Ev.kz2 (yz6 hk),Ev.yz0 (zmr hK)]
 by_cases h:(z5j e).1[k]∈K
 ·rw [Ev.kz1 (decide_eq_false λq=>z4g.1 q h),decide_eq_true h,wrk (by omega)];exact hv
 ·rw [Ev.yz1 (decide_eq_true (z4g.2 h)),decide_eq_false h,Ev.kz0];rfl
def MK (m:List (List UInt8×Bool)) (K:List (List UInt8)):Prop:=∀k,(z3k m k).getD false=decide (k∈K)
theorem zq1 {α σ:Type} {L:Nat->Int->Option (Int×σ)} {l:List α} {p:α->Bool} {st:σ}
  (he:Ev (λn=>L n (l.length:Int)) (-1,st))
  (hs:∀k (h:k<l.length) v,(p l[k]=true->Ev (λn=>L n (k:Int)) ((k:Int),st))∧(p l[k]=false->Ev (λn=>L n ((k+1:Nat):Int)) v->Ev (λn=>L n (k:Int)) v)) :
  ∃i:Int,Ev (λn=>L n 0) (i,st)∧decide (i>=0)=l.any p:=by
 have:∀k,k<=l.length->∃i:Int,Ev (λn=>L n (k:Int)) (i,st)∧decide (i>=0)=(l.drop k).any p :=
  down ⟨-1,he,by simp⟩ λk hk ⟨i,h1,h2⟩=>by
   obtain ⟨a1,a2⟩:=hs k hk (i,st)
   cases hp:p l[k] with
   |true=>exact ⟨k,a1 hp,by rw [<-List.getElem_cons_drop (h:=hk),List.any_cons,hp];simp⟩
   |false=>exact ⟨i,a2 hp h1,by rw [<-List.getElem_cons_drop (h:=hk),List.any_cons,hp,h2];simp⟩
 simpa using this 0 (Nat.zero_le _)
theorem yep {e:zz1} {m:List (List UInt8×Bool)} {K:List (List UInt8)} (hm:MK m K) (hw:e.wf) (hs:e.size<=8388608):Ev (λn=>zd6 n e (mks m) (mvs m)) (!within K e,mks m,mvs m):=by
 have hl:=zwa e hs
 obtain ⟨i,h1,h2⟩:=zq1 (L:=λn k=>yzf n k (z5j e).1 ((z5j e).1.length:Int) (mks m) (mvs m)) (l:=(z5j e).1) (p:=λs => !decide (s∈K)) (st:=(mks m,mvs m))
  (by rw [z2h,Ev.kz1 (by simp),Ev.kz0,kz3]) λk hk v=>by
   have hf:Ev (λn=>zc7 n (z5j e).1[k] (mks m) (mvs m)) (!decide ((z5j e).1[k]∈K),mks m,mvs m):=by
    rw [y9o,Ev.kz0,kz3,hm]
   constructor
   ·intro hp
    rw [z2h,Ev.yz1 (by simpa using hk),Ev.kz2 (yz6 hk),kz3,Ev.yz0 hf,Ev.yz1 hp,Ev.kz0,kz3]
   ·intro hp hv
    rw [z2h,Ev.yz1 (by simpa using hk),Ev.kz2 (yz6 hk),kz3,Ev.yz0 hf,Ev.kz1 hp,kz3,wrk (by omega)];exact hv
 have hc:Ev (λn=>yzn n (z5j e).1 (mks m) (mvs m)) (!within K e,mks m,mvs m):=by
  rw [zh0,kz3,Ev.yz0 (by rw [zj3,kz3];exact h1),Ev.kz0,h2,kz3,within,<-List.not_all_eq_any_not]
 rw [yk5,zz1.yz5,Ev.yz0 (yco hw hs),kz3,Ev.yz0 hc,Ev.kz0,kz3]
theorem ycg {l:List zz1} {m:List (List UInt8×Bool)} {K:List (List UInt8)} (hm:MK m K) (hw:∀e∈l,e.wf) (hs:∀e∈l,e.size<=8388608) (hl:l.length<=8388608):Ev (λn=>kzj n l (mks m) (mvs m)) (!l.all (within K),mks m,mvs m):=by
 obtain ⟨i,h1,h2⟩:=zq1 (L:=λn k=>kze n k l (l.length:Int) (mks m) (mvs m)) (l:=l) (p:=λe => !within K e) (st:=(mks m,mvs m))
  (by rw [z2a,Ev.kz1 (by simp),Ev.kz0,kz3]) λk hk v=>by
   have hx:=List.getElem_mem hk
   have hf:Ev (λn=>zbg n l[k] (mks m) (mvs m)) (!within K l[k],mks m,mvs m):=by
    rw [y6w,kz3,zz1.yz5,Ev.yz0 (yep hm (hw _ hx) (hs _ hx)),Ev.kz0,kz3]
   constructor
   ·intro hp
    rw [z2a,Ev.yz1 (by simpa using hk),Ev.kz2 (yz6 hk),kz3,zz1.yz5,Ev.yz0 hf,Ev.yz1 hp,Ev.kz0,kz3]
   ·intro hp hv
    rw [z2a,Ev.yz1 (by simpa using hk),Ev.kz2 (yz6 hk),kz3,zz1.yz5,Ev.yz0 hf,Ev.kz1 hp,kz3,wrk (by omega)];exact hv
 rw [zgj,kz3,Ev.yz0 (by rw [zio,kz3];exact h1),Ev.kz0,h2,kz3,<-List.not_all_eq_any_not]
theorem z00f {l:List (List UInt8)}:(∃k,∃h:k<l.length,atI l l[k]<(k:Int))↔¬l.Nodup:=by
 constructor
 ·rintro ⟨k,hk,h⟩ hn
  obtain ⟨i,hi,h1,h2,_⟩:=zyb (List.getElem_mem hk)
  have:=(List.getElem_inj hn).1 h2
  omega
 ·intro h
  rw [List.nodup_iff_pairwise_ne,List.pairwise_iff_getElem] at h
  simp only [Classical.not_forall] at h
  obtain ⟨i,j,hi,hj,hij,h⟩:=h
  have h:=Classical.not_not.1 h
  refine ⟨j,hj,?_⟩
  obtain ⟨a,ha,h1,h2,h3⟩:=zyb (List.getElem_mem hj)
  rw [h1]
  have:a<=i:=Nat.le_of_not_lt λq=>h3 i q (by rw [h])
  omega
noncomputable def dup (l:List (List UInt8)):Bool:=@decide (¬l.Nodup) (Classical.propDecidable _)
theorem yvp {l:List (List UInt8)}:dup l=true↔¬l.Nodup:=@decide_eq_true_iff _ (Classical.propDecidable _)
theorem z00q {l:List (List UInt8)}:dup l=false↔l.Nodup:=by rw [<-Bool.not_eq_true,yvp,Classical.not_not]
theorem ye0 {γ:Type} {L:Nat->Int->Option γ} {l:List (List UInt8)} {t f:γ} (he:Ev (λn=>L n (l.length:Int)) f)
  (hs:∀k (h:k<l.length) v,Ev (λn=>L n ((k+1:Nat):Int)) v->Ev (λn=>L n (k:Int)) (if decide (atI l l[k]<(k:Int))=true then t else v)):Ev (λn=>L n 0) (if dup l=true then t else f):=by
 have:∀k,k<=l.length->∀b:Bool,(b=true↔∃j,k<=j∧∃h:j<l.length,atI l l[j]<(j:Int))->Ev (λn=>L n (k:Int)) (if b=true then t else f) :=
  down (λb hb=>by
   rw [if_neg λh=>by obtain ⟨j,h1,h2,_⟩:=hb.1 h;omega];exact he) λk hk ih b hb=>by
   by_cases h:atI l l[k]<(k:Int)
   ·rw [if_pos (hb.2 ⟨k,Nat.le_refl _,hk,h⟩)]
    have:=hs k hk _ (ih (@decide _ (Classical.propDecidable _)) (@decide_eq_true_iff _ (Classical.propDecidable _)))
    rwa [if_pos (decide_eq_true h)] at this
   ·have hb':b=true↔∃j,k+1<=j∧∃h:j<l.length,atI l l[j]<(j:Int):=by
     rw [hb]
     constructor
     ·rintro ⟨j,h1,h2,h3⟩
      refine ⟨j,?_,h2,h3⟩
      rcases Nat.lt_or_ge k j with q|q
      ·exact q
      ·have e:j=k:=by omega
       subst e;exact (h h3).elim
     ·rintro ⟨j,h1,h2⟩
      exact ⟨j,by omega,h2⟩
    have:=hs k hk _ (ih b hb')
    rwa [if_neg (by simpa using h)] at this
 have:=this 0 (Nat.zero_le _) (dup l) (by rw [yvp,<-z00f];exact ⟨λ⟨k,h⟩=>⟨k,Nat.zero_le _,h⟩,λ⟨k,_,h⟩=>⟨k,h⟩⟩)
 simpa using this
theorem y8k {l:List (List UInt8)} (hb:l.length<=8388608):Ev (λn=>zbz n l) (dup l):=by
 rw [ybx,<-ifB (dup l)]
 refine ye0 (L:=λn k=>z5v n k l) (by rw [zrq,Ev.kz1 (by simp),Ev.kz0]) λk hk v hv => ?_
 rw [zrq,Ev.yz1 (by simpa using hk),Ev.kz2 (yz6 hk),Ev.yz0 (zmr hb),wrk (by omega),Ev.pif,Ev.kz0]
 split
 ·rfl
 ·exact hv
theorem zuj {l:List (List UInt8)} {s:List UInt8} (hb:l.length<=8388608):Ev (λn=>z47 n s l) (atI l s,l):=by
 have h:=ycf (L:=λn k=>(z08 n k s l).map Prod.fst) (l:=l) (s:=s) (p:=λx=>x==s) (λx=>by simp) hb λn k=>by
  show (z08 (n+1) k s l).map Prod.fst=_
  rw [z08.eq_2]
  cases decide (k<(l.length:Int))
  ·rfl
  ·cases hx:ix l k with
   |none=>rfl
   |some x=>show (pIf (x==s) _ _).map Prod.fst=pIf (x==s) _ _;cases (x==s) <;> rfl
 have h2:∀n k r,z08 n k s l=some r->r.2=l:=λn=>by
  induction n with
  |zero=>intro k r hr;cases hr
  |succ n ih =>
   intro k r hr
   rw [z08.eq_2] at hr
   cases hc:decide (k<(l.length:Int)) <;> rw [hc] at hr
   · injection hr with hr;rw [<-hr]
   · cases hx:ix l k with
     |none=>rw [hx] at hr;cases hr
     |some x =>
      rw [hx] at hr
      change pIf (x==s) _ _=_ at hr
      cases hq:(x==s) <;> rw [hq] at hr
      · exact ih _ _ hr
      · injection hr with hr;rw [<-hr]
 rw [ye8]
 obtain ⟨n,hn⟩:=h
 refine ⟨n,λm hm => ?_⟩
 have:=hn m hm
 change (z08 m 0 s l).map Prod.fst=_ at this
 show z08 m 0 s l=_
 cases hr:z08 m 0 s l with
 |none=>rw [hr] at this;cases this
 |some r =>
  rw [hr] at this
  injection this with this
  have e:=h2 _ _ _ hr
  obtain ⟨r1,r2⟩:=r
  simp only at this e;rw [this,e]
theorem yqc {l:List (List UInt8)} (hb:l.length<=8388608):Ev (λn=>z9q n l) (dup l,l):=by
 have e:(dup l,l)=if dup l=true then (true,l) else (false,l):=by cases dup l <;> rfl
 rw [y4p,e]
 refine ye0 (L:=λn k=>z2t n k l) (by rw [zoj,Ev.kz1 (by simp),Ev.kz0]) λk hk v hv => ?_
 rw [zoj,Ev.yz1 (by simpa using hk),Ev.kz2 (yz6 hk),Ev.yz0 (zuj hb),wrk (by omega),Ev.pif,Ev.kz0]
 split
 ·rfl
 ·exact hv
noncomputable def ysk (p:zz0):Bool:=dup (kz8 p)||(dup (zz4 p)||p.rules.any λr=>dup (r.params++kz8 p))
theorem yhq {p:zz0} (hs:p.size<=4000000):Ev (λn=>zbf n p) (ysk p):=by
 have:=@zjj p
 have:=@ze1 p
 have ha:(kz8 p).length=p.attrs.length:=by simp [kz8]
 have hr:(zz4 p).length=p.rules.length:=by simp [zz4]
 have l1:Ev (λn=>z1x n 0 p) (if (p.rules.any λr=>dup (r.params++kz8 p))=true then true else false):=by
  refine zgn (L:=λn k=>z1x n k p) (by rw [zp2,Ev.kz1 (by simp),Ev.kz0]) λk hk v hv => ?_
  have:=znd (List.getElem_mem hk)
  have:=@zy9 p.rules[k]
  rw [zp2,Ev.yz1 (by simpa using hk),Ev.kz2 (yz6 hk),Ev.kz2 (z1j (by simp only [List.length_append,List.length_cons,List.length_nil];omega)),List.nil_append,Ev.yz0 (zry (by omega)),Ev.kz2 (z1j (by omega)),Ev.yz0 (yqc (by rw [List.length_append];omega)),wrk (by omega),Ev.pif,Ev.kz0]
  split
  ·rfl
  ·exact hv
 have l0:∀b,Ev (λn=>z3h n b p) (b||p.rules.any λr=>dup (r.params++kz8 p)):=λb=>by
  cases b
  ·rw [zpc,Ev.kz1 (by rfl),ifB] at *;exact l1
  ·rw [zpc,Ev.yz1 (by rfl),Ev.kz0];rfl
 rw [y6c,Ev.yz0 (zry (by omega)),Ev.yz0 (y8k (by omega)),ysk]
 cases dup (kz8 p)
 ·rw [Ev.kz1 (by rfl),Ev.yz0 (zf0 (by omega)),Ev.yz0 (y8k (by omega))];exact l0 _
 ·rw [Ev.yz1 (by rfl)];exact l0 true
end Go.Proofs.YtahcjggdcmgpkaaGreat
namespace Go.Proofs.YtahcjggdcmgpkaaGreat
open Go Go.Ab
set_option linter.unusedVariables false
set_option linter.unusedSimpArgs false
noncomputable def kA:List (List UInt8)->List kz6->Bool
 |_,[]=>true
 |pre,t::l=>within pre t.value&&kA (pre++[t.name]) l
def scope (p:zz0) (r:kz4):List (List UInt8):=([[115,120],[115,121],[115,122]]++kz8 p)++r.params
noncomputable def kR (p:zz0) (r:kz4):Bool:=(zyt r).all (within (scope p r))&&(zz9 r).all λc=>decide (c.1∈zz4 p)
noncomputable def y5y (p:zz0):Bool:=kA [] p.attrs&&p.rules.all (kR p)
def plen (p:zz0) (s:List UInt8):Int:=match p.rules[(atI (zz4 p) s).toNat]? with
 |some r=>r.params.length
 |none => -1
def zoq (p:zz0) (r:kz4):Bool:=(zz9 r).any λc=>decide (c.1∈zz4 p)&&(c.2 != plen p c.1)
def ybn (p:zz0):Bool:=p.rules.any (zoq p)
noncomputable def z5k (p:zz0):Int:=if y4y p=true then 4 else if zfm p=true then (if ysk p=true then 14 else if y5y p=true then (if ybn p=true then 2 else 0) else 6) else 8
theorem zl8 {p:zz0} {k:Nat} (h:k<p.attrs.length):(kz8 p).take (k+1)=(kz8 p).take k++[p.attrs[k].name]:=by
 rw [List.take_add_one]
 simp only [kz8,List.getElem?_map,List.getElem?_eq_getElem h,Option.map_some,Option.toList_some]
theorem zxs {p:zz0} {k:Nat} (h:k<p.rules.length):(zz4 p).take (k+1)=(zz4 p).take k++[p.rules[k].name]:=by
 rw [List.take_add_one]
 simp only [zz4,List.getElem?_map,List.getElem?_eq_getElem h,Option.map_some,Option.toList_some]
theorem ywl {α:Type} {l:List α} {k:Nat} (h:k<=l.length):sub l 0 (k:Int)=some (l.take k):=by
 unfold sub
 rw [if_pos (by omega)];simp
theorem z02t (p:zz0) (r:kz4):(scope p r).length=3+p.attrs.length+r.params.length:=by simp [scope,kz8];omega
theorem y4s {p:zz0} {s:List UInt8} (h:s∈zz4 p):∃i:Nat,∃hi:i<p.rules.length,atI (zz4 p) s=(i:Int)∧p.rules[i].name=s∧plen p s=(p.rules[i].params.length:Int):=by
 obtain ⟨i,hi,h1,h2,_⟩:=zyb h
 have hi':i<p.rules.length:=by simpa [zz4] using hi
 refine ⟨i,hi',h1,by simpa [zz4] using h2,?_⟩
 unfold plen
 rw [h1,Int.toNat_natCast,List.getElem?_eq_getElem hi']
theorem ywa {p:zz0} (hs:p.size<=4000000) (hf:zfm p=true):Ev (λn=>zel n p) (y5y p):=by
 have:=@zjj p
 have:=@ze1 p
 have ha:(kz8 p).length=p.attrs.length:=by simp [kz8]
 have hr:(zz4 p).length=p.rules.length:=by simp [zz4]
 have l1:Ev (λn=>z3w n 0 (kz8 p) p) (if p.rules.all (kR p)=true then true else false):=by
  refine zdx (L:=λn k=>z3w n k (kz8 p) p) (by rw [zsk,Ev.kz1 (by simp),Ev.kz0]) λk hk v hv => ?_
  have hm:=List.getElem_mem hk
  have:=znd hm
  have:=@zy9 p.rules[k]
  have:=@zup p.rules[k]
  have hsc:=z02t p p.rules[k]
  have hcl:=zkx p.rules[k]
  have l4:Ev (λn=>z43 n 0 ((zz9 p.rules[k]).map toG) (kz8 p) (k:Int) p) (if ((zz9 p.rules[k]).all λc=>decide (c.1∈zz4 p))=true then v else false):=by
   refine zdx (L:=λn j=>z43 n j ((zz9 p.rules[k]).map toG) (kz8 p) (k:Int) p) (by rw [zso,Ev.kz1 (by simp),wrk (by omega)];exact hv) λj hj w hw => ?_
   have hj':j<((zz9 p.rules[k]).map toG).length:=by simpa using hj
   rw [zso,Ev.yz1 (by simpa using hj),Ev.yz0 (zf0 (by omega)),Ev.kz2 (yz6 hj'),List.getElem_map,Ev.yz0 (zmr (by omega))]
   show Ev (λn=>pIf (decide (atI (zz4 p) (zz9 p.rules[k])[j].1<0)) _ _) _
   by_cases h:(zz9 p.rules[k])[j].1∈zz4 p
   ·rw [Ev.kz1 (decide_eq_false λq=>z4g.1 q h),decide_eq_true h,wrk (by omega)];exact hw
   ·rw [Ev.yz1 (decide_eq_true (z4g.2 h)),decide_eq_false h,Ev.kz0];rfl
  have l2:Ev (λn=>z3u n (scope p p.rules[k]) 0 (kz8 p) (k:Int) p.rules[k] p) (if (p.rules[k].cases.all λc=>(zj7 c).all (within (scope p p.rules[k])))=true then (if ((zz9 p.rules[k]).all λc=>decide (c.1∈zz4 p))=true then v else false) else false):=by
   refine zdx (L:=λn j=>z3u n (scope p p.rules[k]) j (kz8 p) (k:Int) p.rules[k] p) (by rw [zt6,Ev.kz1 (by simp),Ev.yz0 (y2h (by omega) λc hc a ha=>yfn (y3i hf _ hm c hc a ha))];exact l4) λj hj w hw => ?_
   have:=zt8 (List.getElem_mem hj)
   have hel:=y1t p.rules[k].cases[j]
   rw [zt6,Ev.yz1 (by simpa using hj),Ev.kz2 (yz6 hj),kz5.yz5,Ev.yz0 (yw1 (by omega))]
   refine zdx (L:=λn i=>z6i n i (scope p p.rules[k]) (zj7 p.rules[k].cases[j]) (kz8 p) (k:Int) (j:Int) p.rules[k] p) (by rw [zsa,Ev.kz1 (by simp),wrk (by omega)];exact hw) λi hi u hu => ?_
   have:=(y34 (List.getElem_mem hi)).1
   rw [zsa,Ev.yz1 (by simpa using hi),Ev.kz2 (yz6 hi),zz1.yz5,Ev.yz0 (y3e (by omega) (by omega))]
   cases within (scope p p.rules[k]) (zj7 p.rules[k].cases[j])[i]
   ·rw [Ev.yz1 (by rfl),Ev.kz0];rfl
   ·rw [Ev.kz1 (by rfl),wrk (by omega)];exact hu
  rw [zsk,Ev.yz1 (by simpa using hk),Ev.kz2 (yz6 hk),Ev.kz2 (z1j (by simp only [List.length_cons,List.length_nil];omega)),Ev.kz2 (z1j (by simp only [List.length_append,List.length_cons,List.length_nil];omega)),kR,ifA,zyt,List.all_flatMap]
  exact l2
 have l0:∀k,k<=p.attrs.length->Ev (λn=>z6p n (k:Int) (kz8 p) p) (if kA ((kz8 p).take k) (p.attrs.drop k)=true then p.rules.all (kR p) else false) :=
  down (by
   rw [zrl,Ev.kz1 (by simp),List.drop_length,kA,if_pos rfl,<-ifB (p.rules.all (kR p))];exact l1) λk hk ih=>by
   have hm:=List.getElem_mem hk
   have:=zx8 hm
   have:=@zx9 p.attrs[k]
   rw [zrl,Ev.yz1 (by simpa using hk),Ev.kz2 (yz6 hk),Ev.kz2 (ywl (by omega)),zz1.yz5,Ev.yz0 (y3e (by omega) (by simp;omega)),<-List.getElem_cons_drop (h:=hk),kA,ifA]
   cases within ((kz8 p).take k) p.attrs[k].value
   ·rw [Ev.yz1 (by rfl),Ev.kz0];rfl
   ·rw [Ev.kz1 (by rfl),wrk (by omega),if_pos rfl,<-zl8 hk];exact ih
 have:=l0 0 (Nat.zero_le _)
 rw [ybt,Ev.yz0 (zry (by omega)),y5y]
 refine Ev.to this ?_
 rw [List.drop_zero,List.take_zero]
 cases kA [] p.attrs <;> rfl
theorem zoc {p:zz0} (hw:p.wf) (hs:p.size<=4000000):Ev (λn=>z4c n p) (z5k p):=by
 have:=@ze1 p
 have hr:(zz4 p).length=p.rules.length:=by simp [zz4]
 rw [yer,Ev.yz0 (yxc (by omega)),z5k]
 cases y4y p
 case true=>rw [Ev.yz1 (by rfl),Ev.kz0];rfl
 rw [Ev.kz1 (by rfl),Ev.yz0 (yqv hw (by omega)),if_neg (by simp)]
 cases hf:zfm p
 case false=>rw [Ev.yz1 (by rfl),Ev.kz0];rfl
 rw [Ev.kz1 (by rfl),Ev.yz0 (yhq hs),if_pos rfl]
 cases ysk p
 case true=>rw [Ev.yz1 (by rfl),Ev.kz0];rfl
 rw [Ev.kz1 (by rfl),Ev.yz0 (ywa hs hf),if_neg (by simp)]
 cases hk:y5y p
 case false=>rw [Ev.yz1 (by rfl),Ev.kz0];rfl
 rw [Ev.kz1 (by rfl),if_pos rfl]
 have hkr:=List.all_eq_true.1 (Bool.and_eq_true_iff.1 hk).2
 refine zgn (L:=λn k=>z6o n k p) (by rw [zru,Ev.kz1 (by simp),Ev.kz0]) λk hk v hv => ?_
 have hm:=List.getElem_mem hk
 have:=znd hm
 have hcl:=zkx p.rules[k]
 have hkc:=List.all_eq_true.1 (Bool.and_eq_true_iff.1 (hkr _ hm)).2
 rw [zru,Ev.yz1 (by simpa using hk),Ev.kz2 (yz6 hk),Ev.yz0 (y2h (by omega) λc hc a ha=>yfn (y3i hf _ hm c hc a ha))]
 refine zgn (L:=λn j=>z6g n j ((zz9 p.rules[k]).map toG) (k:Int) p) (by rw [zss,Ev.kz1 (by simp),wrk (by omega)];exact hv) λj hj w hw => ?_
 have hj':j<((zz9 p.rules[k]).map toG).length:=by simpa using hj
 have hc:=hkc _ (List.getElem_mem hj)
 obtain ⟨i,hi,h1,h2,h3⟩:=y4s (of_decide_eq_true hc)
 rw [zss,Ev.yz1 (by simpa using hj),Ev.kz2 (yz6 hj'),Ev.yz0 (zf0 (by omega)),Ev.kz2 (yz6 hj'),List.getElem_map,Ev.yz0 (zmr (by omega))]
 show Ev (λn=>(ix p.rules (atI (zz4 p) (zz9 p.rules[k])[j].1)).bind _) _
 rw [h1,Ev.kz2 (yz6 hi),hc,h3,Bool.true_and,wrk (by omega)]
 show Ev (λn=>pIf ((zz9 p.rules[k])[j].2 != (p.rules[i].params.length:Int)) _ _) _
 cases (zz9 p.rules[k])[j].2 != (p.rules[i].params.length:Int)
 ·rw [Ev.kz1 rfl];exact hw
 ·rw [Ev.yz1 rfl,Ev.kz0];rfl
end Go.Proofs.YtahcjggdcmgpkaaGreat
namespace Go.Proofs.YtahcjggdcmgpkaaGreat
open Go Go.Ab
set_option linter.unusedVariables false
set_option linter.unusedSimpArgs false
section
variable {T : Type}
theorem zpw (q:List UInt8×T) (m:List (List UInt8×T)) (k:List UInt8):z3k (q::m) k=if k=q.1 then some q.2 else z3k m k:=by
 unfold z3k
 rw [List.find?_cons]
 by_cases h:k=q.1
 ·simp [h]
 ·have:(k==q.1)=false:=by simpa using h
  rw [this,if_neg h]
theorem ynk (q:List UInt8×T) (m:List (List UInt8×T)) (k:List UInt8) (x:T):z90 (q::m) k x=if k=q.1 then (k,x)::m else q::z90 m k x:=by
 unfold z90
 rw [List.findIdx?_cons]
 by_cases h:k=q.1
 ·simp [h]
 ·have:(k==q.1)=false:=by simpa using h
  rw [this,if_neg h]
  simp only [Bool.false_eq_true,if_false]
  cases List.findIdx? (λp=>k==p.1) m <;> simp
theorem y4r (m:List (List UInt8×T)) (k k':List UInt8) (x:T):z3k (z90 m k x) k'=if k'=k then some x else z3k m k':=by
 induction m with
 |nil=>show z3k [(k,x)] k'=_;rw [zpw]
 |cons q m ih =>
  rw [ynk]
  by_cases h:k=q.1
  · rw [if_pos h,zpw,zpw]
    by_cases h2:k'=k
    · simp [h2]
    · rw [if_neg h2,if_neg h2,if_neg (λz=>h2 (z.trans h.symm))]
  · rw [if_neg h,zpw,ih,zpw]
    by_cases h2:k'=q.1
    · rw [if_pos h2,if_pos h2,if_neg (λz=>h (z.symm.trans h2))]
    · rw [if_neg h2,if_neg h2]
theorem y06 {m:List (List UInt8×T)} {k:List UInt8}:z3k m k=none↔k∉mks m:=by
 induction m with
 |nil=>simp [z3k,mks]
 |cons q m ih =>
  rw [zpw]
  show _↔k∉q.1::mks m
  by_cases h:k=q.1
  · simp [h]
  · rw [if_neg h,ih];simp [h]
end
theorem z01a {T:Type}:∀{es:List (List UInt8×T)} {i:Nat} (h:i<es.length) (s:List UInt8),s∈mks es↔s=es[i].1∨s∈mks (es.eraseIdx i)
 |[],_,h,_=>by cases h
 |q::es,0,_,s=>by show s∈q.1::mks es↔_;rw [List.mem_cons];exact Iff.rfl
 |q::es,i+1,h,s=>by
  show s∈q.1::mks es↔s=(es[i]'(by simpa using h)).1∨s∈q.1::mks (es.eraseIdx i)
  rw [List.mem_cons,List.mem_cons,z01a (es:=es) (i:=i) (by simpa using h) s]
  exact or_left_comm
def TM (m:List (List UInt8×Bool)) (K:List (List UInt8)):Prop:=∀k,z3k m k=if k∈K then some true else none
theorem TM.mk {m:List (List UInt8×Bool)} {K:List (List UInt8)} (h:TM m K):MK m K:=λk=>by
 rw [h k];by_cases q:k∈K <;> simp [q]
theorem TM.nil:TM [] []:=λk=>by simp [z3k]
theorem TM.put {m:List (List UInt8×Bool)} {K:List (List UInt8)} (h:TM m K) (s:List UInt8):TM (z90 m s true) (K++[s]):=λk=>by
 rw [y4r,h k]
 by_cases q:k=s <;> simp [q]
theorem TM.keys {m:List (List UInt8×Bool)} {K:List (List UInt8)} (h:TM m K) (s:List UInt8):s∈mks m↔s∈K:=by
 have:=h s
 by_cases q:s∈K
 ·rw [if_pos q] at this
  exact ⟨λ_=>q,λ_=>Classical.byContradiction λz=>by rw [y06.2 z] at this;cases this⟩
 ·rw [if_neg q] at this
  exact ⟨λz=>(y06.1 this z).elim,λz=>(q z).elim⟩
theorem MK.put {m:List (List UInt8×Bool)} {K:List (List UInt8)} (h:MK m K) (s:List UInt8):MK (z90 m s true) (K++[s]):=λk=>by
 rw [y4r]
 by_cases q:k=s
 ·simp [q]
 ·rw [if_neg q,h k];simp [q]
theorem MK.ext {m:List (List UInt8×Bool)} {K J:List (List UInt8)} (h:MK m K) (e:∀s,s∈K↔s∈J):MK m J:=λk=>by rw [h k];exact decide_eq_decide.2 (e k)
def RM (m:List (List UInt8×Int)) (K:List (List UInt8)):Prop:=∀k,z3k m k=if k∈K then some (atI K k) else none
theorem RM.nil:RM [] []:=λk=>by simp [z3k]
theorem z04x {K:List (List UInt8)} {s:List UInt8} (h:s∉K) (k:List UInt8):atI (K++[s]) k=if k=s then (K.length:Int) else atI K k:=by
 induction K with
 |nil=>show atI [s] k=_;rw [zr8];by_cases q:s=k
       · simp [q]
       · rw [if_neg q,if_neg (Ne.symm q)];simp [atI]
 |cons x K ih =>
  have hx:x≠s:=λe=>h (by rw [e];exact List.mem_cons_self)
  have:=ih λz=>h (List.mem_cons_of_mem _ z)
  rw [List.cons_append,zr8,zr8,this]
  by_cases q:k=s
  · subst q;rw [if_neg hx,if_pos rfl,if_pos rfl,if_neg (by omega)];simp
  · simp only [if_neg q]
theorem RM.put {m:List (List UInt8×Int)} {K:List (List UInt8)} (h:RM m K) {s:List UInt8} (hs:s∉K):RM (z90 m s (K.length:Int)) (K++[s]):=λk=>by
 rw [y4r,h k,z04x hs]
 by_cases q:k=s
 ·simp [q]
 ·simp [q]
theorem Ev.pick {α R:Type} {es:List (List UInt8×α)} {f:Nat->List UInt8->α->List (List UInt8×α)->Option R} {g:Nat->Option R} {r:R}
  (h0:es=[]->Ev g r) (h1:∀i (h:i<es.length),Ev (λn=>f n es[i].1 es[i].2 (es.eraseIdx i)) r):Ev (λn=>y8c es (f n) (g n)) r:=by
 have hz:∃N,∀m,N<=m->(es=[]->g m=some r):=by
  by_cases he:es=[]
  ·obtain ⟨N,hN⟩:=h0 he;exact ⟨N,λm hm _=>hN m hm⟩
  ·exact ⟨0,λ_ _ h=>(he h).elim⟩
 have hb:∀k,k<=es.length->∃N,∀m,N<=m->∀i (h:i<es.length),i<k->f m es[i].1 es[i].2 (es.eraseIdx i)=some r:=λk=>by
  induction k with
  |zero=>intro _;exact ⟨0,λ_ _ _ _ h=>by omega⟩
  |succ k ih =>
   intro hk
   obtain ⟨N,hN⟩:=ih (by omega)
   obtain ⟨M,hM⟩:=h1 k (by omega)
   refine ⟨max N M,λm hm i hi hik => ?_⟩
   by_cases h:i=k
   · subst h;exact hM m (by omega)
   · exact hN m (by omega) i hi (by omega)
 obtain ⟨N,hN⟩:=hz
 obtain ⟨M,hM⟩:=hb es.length (Nat.le_refl _)
 refine ⟨max N M,λm hm=>z03x (hN m (by omega)) λi p hp => ?_⟩
 obtain ⟨hi,rfl⟩:=List.getElem?_eq_some_iff.1 hp
 exact hM m (by omega) i hi hi
theorem z05n {γ:Type} {L:Nat->Int->Option γ} {len:Nat} {p:Nat->Bool} {got r:γ} {b:Bool} (hb:b=true↔∃j,j<len∧p j=true)
  (he:Ev (λn=>L n (len:Int)) r)
  (hs:∀k (h:k<len) v,Ev (λn=>L n ((k+1:Nat):Int)) v->Ev (λn=>L n (k:Int)) (if p k=true then got else v)):Ev (λn=>L n 0) (if b=true then got else r):=by
 have:∀k,k<=len->∀b:Bool,(b=true↔∃j,k<=j∧j<len∧p j=true)->Ev (λn=>L n (k:Int)) (if b=true then got else r) :=
  down (λb hb=>by rw [if_neg λh=>by obtain ⟨j,h1,h2,_⟩:=hb.1 h;omega];exact he) λk hk ih b hb=>by
   cases h:p k with
   |true =>
    rw [if_pos (hb.2 ⟨k,Nat.le_refl _,hk,h⟩)]
    have:=hs k hk _ (ih (@decide _ (Classical.propDecidable _)) (@decide_eq_true_iff _ (Classical.propDecidable _)))
    rwa [if_pos h] at this
   |false =>
    have hb':b=true↔∃j,k+1<=j∧j<len∧p j=true:=by
     rw [hb]
     constructor
     · rintro ⟨j,h1,h2,h3⟩
       refine ⟨j,?_,h2,h3⟩
       rcases Nat.lt_or_ge k j with q|q
       · exact q
       · have e:j=k:=by omega
         subst e;rw [h] at h3;cases h3
     · rintro ⟨j,h1,h2⟩
       exact ⟨j,by omega,h2⟩
    have:=hs k hk _ (ih b hb')
    rwa [if_neg (by simp [h])] at this
 have:=this 0 (Nat.zero_le _) b (by rw [hb];exact ⟨λ⟨j,h⟩=>⟨j,Nat.zero_le _,h⟩,λ⟨j,_,h⟩=>⟨j,h⟩⟩)
 simpa using this
noncomputable def pbad (p:zz0) (r:kz4) (k:Nat):Bool:=if h:k<r.params.length then decide (r.params[k]∈kz8 p)||decide (atI r.params r.params[k]<(k:Int)) else false
noncomputable def pdup (p:zz0) (r:kz4):Bool:=dup (r.params++kz8 p)
theorem z055 {p:zz0} {r:kz4} (ha:(kz8 p).Nodup):pdup p r=true↔∃j,j<r.params.length∧pbad p r j=true:=by
 unfold pdup
 rw [yvp,List.nodup_append]
 constructor
 ·intro h
  by_cases hp:r.params.Nodup
  ·have:¬∀a∈r.params,∀b∈kz8 p,a≠b:=λz=>h ⟨hp,ha,z⟩
   simp only [Classical.not_forall,Classical.not_not] at this
   obtain ⟨a,h1,b,h2,h3⟩:=this
   obtain ⟨j,hj,e⟩:=List.mem_iff_getElem.1 h1
   refine ⟨j,hj,?_⟩
   unfold pbad
   rw [dif_pos hj,e,h3,decide_eq_true h2];rfl
  ·obtain ⟨k,hk,h⟩:=z00f.2 hp
   refine ⟨k,hk,?_⟩
   unfold pbad
   rw [dif_pos hk,decide_eq_true h,Bool.or_true]
 ·rintro ⟨j,hj,h⟩ ⟨h1,_,h3⟩
  unfold pbad at h
  rw [dif_pos hj,Bool.or_eq_true] at h
  rcases h with h|h
  ·exact h3 _ (List.getElem_mem hj) _ (of_decide_eq_true h) rfl
  ·exact (z00f.1 ⟨j,hj,of_decide_eq_true h⟩) h1
theorem ygg {l:List (List UInt8)} {k:Nat} (h:l.Nodup):(l.take k).Nodup:=h.sublist (List.take_sublist k l)
theorem yyc {p:zz0} (hw:p.wf) (hs:p.size<=4000000) {m:List (List UInt8×Bool)} {m2:List (List UInt8×Int)} (hm:TM m (kz8 p)) (hm2:RM m2 (zz4 p)) (u:Bool) :
  Ev (λn=>z3r n false 0 u (mks m) (mvs m) p.rules (p.rules.length:Int) p (mks m2) (mvs m2)) (if (u || !p.rules.all (kR p))=true then 6 else if ybn p=true then 2 else 0):=by
 have:=@zjj p
 have:=@ze1 p
 have hr:(zz4 p).length=p.rules.length:=by simp [zz4]
 have main:∀k,k<=p.rules.length->∀w u:Bool,Ev (λn=>z3r n w (k:Int) u (mks m) (mvs m) p.rules (p.rules.length:Int) p (mks m2) (mvs m2)) (if (u || !(p.rules.drop k).all (kR p))=true then 6 else if (w||(p.rules.drop k).any (zoq p))=true then 2 else 0) :=
  down (λw u=>by
   rw [zsh,Ev.kz1 (by simp),List.drop_length,Ev.pif,Ev.pif,Ev.kz0,Ev.kz0,Ev.kz0]
   cases u <;> cases w <;> simp) λk hk ih w u=>by
   have hmem:=List.getElem_mem hk
   have:=znd hmem
   have hwr:=yvi hw hmem
   have:=@zy9 p.rules[k]
   have hcl:=zkx p.rules[k]
   have hxl:=yby p.rules[k]
   have l9:∀u:Bool,Ev (λn=>z69 n w u (mks m) (mvs m) p.rules (p.rules.length:Int) (k:Int) p (mks m2) (mvs m2) p.rules[k]) (if ((u || !(zz9 p.rules[k]).all λc=>decide (c.1∈zz4 p)) || !(p.rules.drop (k+1)).all (kR p))=true then 6 else if ((w||zoq p p.rules[k])||(p.rules.drop (k+1)).any (zoq p))=true then 2 else 0):=λu=>by
    have hT:((zz9 p.rules[k]).map toT).length=(zz9 p.rules[k]).length:=by simp
    rw [y3r,Ev.yz0 (y8r (by omega)),kz3,kz3]
    have loop:∀j,j<=(zz9 p.rules[k]).length->∀w u:Bool,Ev (λn=>z6f n (j:Int) w u ((zz9 p.rules[k]).map toT) (mks m) (mvs m) p.rules (p.rules.length:Int) (k:Int) (((zz9 p.rules[k]).map toT).length:Int) p (mks m2) (mvs m2)) (if ((u || !((zz9 p.rules[k]).drop j).all λc=>decide (c.1∈zz4 p)) || !(p.rules.drop (k+1)).all (kR p))=true then 6 else if ((w||((zz9 p.rules[k]).drop j).any λc=>decide (c.1∈zz4 p)&&(c.2 != plen p c.1))||(p.rules.drop (k+1)).any (zoq p))=true then 2 else 0) :=
     down (λw u=>by
      rw [zrr,Ev.kz1 (by simp),wrk (by omega),kz3,kz3,List.drop_length]
      simpa using ih w u) λj hj ihj w u=>by
      have hj':j<((zz9 p.rules[k]).map toT).length:=by simpa using hj
      have l11:∀w u:Bool,Ev (λn=>z2v n w u ((zz9 p.rules[k]).map toT) (mks m) (mvs m) p.rules (p.rules.length:Int) (k:Int) (((zz9 p.rules[k]).map toT).length:Int) (j:Int) p (mks m2) (mvs m2)) _:=λw u=>by
       rw [y2c,wrk (by omega),kz3,kz3];exact ihj w u
      have hget:=hm2 (zz9 p.rules[k])[j].1
      have l10:∀u:Bool,Ev (λn=>z4l n u ((zz9 p.rules[k]).map toT) (mks m) (mvs m) p.rules (p.rules.length:Int) (k:Int) (((zz9 p.rules[k]).map toT).length:Int) (j:Int) (Option.getD (z3k m2 (zz9 p.rules[k])[j].1) 0) (Option.isSome (z3k m2 (zz9 p.rules[k])[j].1)) w p (mks m2) (mvs m2) (toT (zz9 p.rules[k])[j])) (if ((u || !((zz9 p.rules[k]).drop (j+1)).all λc=>decide (c.1∈zz4 p)) || !(p.rules.drop (k+1)).all (kR p))=true then 6 else if (((w||(decide ((zz9 p.rules[k])[j].1∈zz4 p)&&((zz9 p.rules[k])[j].2 != plen p (zz9 p.rules[k])[j].1)))||((zz9 p.rules[k]).drop (j+1)).any λc=>decide (c.1∈zz4 p)&&(c.2 != plen p c.1))||(p.rules.drop (k+1)).any (zoq p))=true then 2 else 0):=λu=>by
       rw [y1q,kz3,kz3]
       cases w with
       |true=>rw [Ev.yz1 rfl,Bool.true_or];exact l11 true u
       |false =>
        rw [Ev.kz1 rfl,Bool.false_or]
        by_cases hin:(zz9 p.rules[k])[j].1∈zz4 p
        · obtain ⟨i,hi,h1,h2,h3⟩:=y4s hin
          rw [hget,if_pos hin,decide_eq_true hin,Bool.true_and,h3,h1]
          show Ev (λn=>pIf true ((ix p.rules (i:Int)).bind _) _) _
          rw [Ev.yz1 rfl,Ev.kz2 (yz6 hi)]
          exact l11 _ u
        · rw [hget,if_neg hin,decide_eq_false hin,Bool.false_and]
          show Ev (λn=>pIf false _ _) _
          rw [Ev.kz1 rfl];exact l11 false u
      rw [zrr,Ev.yz1 (by simpa using hj),Ev.kz2 (yz6 hj'),List.getElem_map,kz3,kz3,<-List.getElem_cons_drop (h:=hj),List.all_cons,List.any_cons]
      cases u with
      |true=>rw [Ev.yz1 rfl];exact (l10 true).to (by simp)
      |false =>
       rw [Ev.kz1 rfl]
       have e:Option.isSome (z3k m2 (toT (zz9 p.rules[k])[j]).name)=decide ((zz9 p.rules[k])[j].1∈zz4 p):=by
        show Option.isSome (z3k m2 (zz9 p.rules[k])[j].1)=_
        rw [hget];by_cases q:(zz9 p.rules[k])[j].1∈zz4 p <;> simp [q]
       have:=l10 (!decide ((zz9 p.rules[k])[j].1∈zz4 p))
       have e2:Option.isSome (z3k m2 (zz9 p.rules[k])[j].1)=decide ((zz9 p.rules[k])[j].1∈zz4 p):=e
       rw [e2] at this
       rw [Bool.false_or,e]
       exact this.to (by rw [Bool.not_and,Bool.or_assoc w])
    have:=loop 0 (Nat.zero_le _) w u
    rw [List.drop_zero] at this
    exact this
   have l7:∀d,MK d ([[115,120],[115,121],[115,122]]++kz8 p)->Ev (λn=>z3x n 0 p.rules[k].params w (mks m) (mvs m) p.rules (p.rules.length:Int) (k:Int) u (p.rules[k].params.length:Int) p (mks m2) (mvs m2) p.rules[k] (mks d) (mvs d)) (if ((u || !kR p p.rules[k]) || !(p.rules.drop (k+1)).all (kR p))=true then 6 else if ((w||zoq p p.rules[k])||(p.rules.drop (k+1)).any (zoq p))=true then 2 else 0):=λd hd=>by
    have loop:∀j,j<=p.rules[k].params.length->∀d,MK d (([[115,120],[115,121],[115,122]]++kz8 p)++p.rules[k].params.take j)->Ev (λn=>z3x n (j:Int) p.rules[k].params w (mks m) (mvs m) p.rules (p.rules.length:Int) (k:Int) u (p.rules[k].params.length:Int) p (mks m2) (mvs m2) p.rules[k] (mks d) (mvs d)) (if ((u || !kR p p.rules[k]) || !(p.rules.drop (k+1)).all (kR p))=true then 6 else if ((w||zoq p p.rules[k])||(p.rules.drop (k+1)).any (zoq p))=true then 2 else 0) :=
     down (λd hd=>by
      rw [List.take_length] at hd
      rw [zsb,Ev.kz1 (by simp),kz3,kz3,kz3]
      cases u with
      |true=>rw [Ev.yz1 rfl];have:=l9 true;simpa using this
      |false =>
       rw [Ev.kz1 rfl,Ev.yz0 (yw5 (by omega)),Ev.yz0 (ycg (K:=scope p p.rules[k]) hd (λe he=>(ycc he).2 hwr) (λe he=>by have:=(ycc he).1;omega) (by omega))]
       have:=l9 (!(zyt p.rules[k]).all (within (scope p p.rules[k])))
       rw [<-Bool.not_and] at this
       rw [Bool.false_or,kR]
       exact this) λj hj ihj d hd=>by
      rw [zsb,Ev.yz1 (by simpa using hj),Ev.kz2 (yz6 hj),wrk (by omega),kz3,kz3,kz3]
      refine ihj _ ((hd.put p.rules[k].params[j]).ext λs => ?_)
      rw [List.append_assoc,zbb hj]
    exact loop 0 (Nat.zero_le _) d (by simpa using hd)
   have l6:∀len,∀es:List (List UInt8×Bool),es.length=len->∀d D,MK d D->(∀s,(s∈D∨s∈mks es)↔s∈[[115,120],[115,121],[115,122]]++kz8 p)->Ev (λn=>z5x n w (mks m) (mvs m) p.rules (p.rules.length:Int) (k:Int) u (mks es) (mvs es) p (mks m2) (mvs m2) p.rules[k] (mks d) (mvs d)) (if ((u || !kR p p.rules[k]) || !(p.rules.drop (k+1)).all (kR p))=true then 6 else if ((w||zoq p p.rules[k])||(p.rules.drop (k+1)).any (zoq p))=true then 2 else 0):=λlen=>by
    induction len with
    |zero =>
     intro es he d D hd hD
     have he:=List.length_eq_zero_iff.1 he
     subst he
     rw [zrx]
     refine Ev.pick (λ_ => ?_) λi hi=>by cases hi
     rw [kz3,kz3,kz3]
     exact l7 d (hd.ext λs=>by rw [<-hD s];simp [mks])
    |succ len ihl =>
     intro es he d D hd hD
     rw [zrx,kz3,kz3,kz3,kz3]
     refine Ev.pick (λh=>by rw [h] at he;cases he) λi hi => ?_
     refine ihl (es.eraseIdx i) (by rw [List.length_eraseIdx_of_lt hi];omega) _ _ (hd.put es[i].1) λs => ?_
     rw [<-hD s,List.mem_append,List.mem_singleton]
     rw [z01a hi s,or_assoc]
   rw [zsh,Ev.yz1 (by simpa using hk),Ev.kz2 (yz6 hk),kz3,kz3,<-List.getElem_cons_drop (h:=hk),List.all_cons,List.any_cons,Bool.not_and,<-Bool.or_assoc,<-Bool.or_assoc]
   refine l6 m.length m rfl _ [[115,120],[115,121],[115,122]] ?_ λs => ?_
   ·have h0:MK [] []:=λk=>by simp [z3k]
    exact ((h0.put _).put _).put _
   ·rw [hm.keys,List.mem_append]
 have:=main 0 (Nat.zero_le _) false u
 rw [List.drop_zero,Bool.false_or] at this
 exact this
end Go.Proofs.YtahcjggdcmgpkaaGreat
namespace Go.Proofs.YtahcjggdcmgpkaaGreat
open Go Go.Ab
set_option linter.unusedVariables false
set_option linter.unusedSimpArgs false
theorem zxt {p:zz0} (hw:p.wf) (hs:p.size<=4000000):Ev (λn=>z9d n p) (z5k p):=by
 have:=@zjj p
 have:=@ze1 p
 have hal:(kz8 p).length=p.attrs.length:=by simp [kz8]
 have hrl:(zz4 p).length=p.rules.length:=by simp [zz4]
 have l2:∀(m:List (List UInt8×Bool)) (u:Bool),TM m (kz8 p)->(kz8 p).Nodup->∀k,k<=p.rules.length->∀m2,RM m2 ((zz4 p).take k)->((zz4 p).take k).Nodup->Ev (λn=>z73 n (k:Int) p.rules u (p.rules.length:Int) (mks m) (mvs m) (mks m2) (mvs m2) p) (if (dup (zz4 p)||(p.rules.drop k).any (pdup p))=true then 14 else if (u || !p.rules.all (kR p))=true then 6 else if ybn p=true then 2 else 0):=λm u hm hn =>
  down (λm2 hm2 hn2=>by
   rw [<-hrl,List.take_length] at hm2 hn2
   rw [zt1,Ev.kz1 (by simp),kz3,kz3,List.drop_length,z00q.2 hn2]
   exact yyc hw hs hm hm2 u) λk hk ih m2 hm2 hn2=>by
   have hmem:=List.getElem_mem hk
   have:=znd hmem
   have:=@zy9 p.rules[k]
   have hget:=hm2 p.rules[k].name
   rw [zt1,Ev.yz1 (by simpa using hk),Ev.kz2 (yz6 hk),kz3,kz3]
   by_cases hin:p.rules[k].name∈(zz4 p).take k
   ·rw [hget,if_pos hin,Ev.yz1 (by rfl),Ev.kz0]
    have:dup (zz4 p)=true:=by
     rw [yvp];intro hd
     have h:=ygg (k:=k+1) hd
     rw [zxs hk,List.nodup_append] at h
     exact h.2.2 _ hin _ (List.mem_singleton.2 rfl) rfl
    rw [this];rfl
   ·rw [hget,if_neg hin,Ev.kz1 (by rfl)]
    have hlen:((zz4 p).take k).length=k:=by rw [List.length_take];omega
    have hput:=hm2.put hin
    rw [hlen,<-zxs hk] at hput
    have hnn:((zz4 p).take (k+1)).Nodup:=by
     rw [zxs hk,List.nodup_append]
     exact ⟨hn2,by simp,λa ha b hb e=>hin (by rw [<-List.mem_singleton.1 hb,<-e];exact ha)⟩
    have hv:=ih _ hput hnn
    have l3:=z05n (L:=λn j=>z6b n j p.rules[k].params p.rules u (p.rules.length:Int) (k:Int) (p.rules[k].params.length:Int) p.rules[k] (mks m) (mvs m) (mks (z90 m2 p.rules[k].name (k:Int))) (mvs (z90 m2 p.rules[k].name (k:Int))) p) (len:=p.rules[k].params.length) (p:=pbad p p.rules[k]) (got:=14) (z055 (r:=p.rules[k]) hn) (by
     rw [zsx,Ev.kz1 (by simp),wrk (by omega),kz3,kz3];exact hv) λj hj w hw'=>by
     have l4:∀b:Bool,Ev (λn=>z6t n p.rules[k].params p.rules u (p.rules.length:Int) (k:Int) (p.rules[k].params.length:Int) (j:Int) b p.rules[k] (mks m) (mvs m) (mks (z90 m2 p.rules[k].name (k:Int))) (mvs (z90 m2 p.rules[k].name (k:Int))) p) (if b=true then 14 else w):=λb=>by
      cases b
      ·rw [zsq,Ev.kz1 (by rfl),wrk (by omega),kz3,kz3];exact hw'
      ·rw [zsq,Ev.yz1 (by rfl),Ev.kz0];rfl
     rw [zsx,Ev.yz1 (by simpa using hj),Ev.kz2 (yz6 hj),kz3,kz3,hm.mk,pbad,dif_pos hj]
     by_cases h:p.rules[k].params[j]∈kz8 p
     ·rw [decide_eq_true h,Ev.yz1 rfl];exact l4 true
     ·rw [decide_eq_false h,Ev.kz1 rfl,Ev.yz0 (z01h (by omega))];exact l4 _
    refine l3.to ?_
    rw [<-List.getElem_cons_drop (h:=hk),List.any_cons]
    cases pdup p p.rules[k] <;> cases dup (zz4 p) <;> rfl
 have l0:∀k,k<=p.attrs.length->∀(u:Bool) (m:List (List UInt8×Bool)),TM m ((kz8 p).take k)->((kz8 p).take k).Nodup->Ev (λn=>z6v n (k:Int) u p.attrs (p.attrs.length:Int) (mks m) (mvs m) (mks ([]:List (List UInt8×Int))) (mvs ([]:List (List UInt8×Int))) p) (if dup (kz8 p)=true then 14 else if (dup (zz4 p)||p.rules.any (pdup p))=true then 14 else if ((u || !kA ((kz8 p).take k) (p.attrs.drop k)) || !p.rules.all (kR p))=true then 6 else if ybn p=true then 2 else 0) :=
  down (λu m hm hn=>by
   rw [<-hal,List.take_length] at hm hn
   rw [zt4,Ev.kz1 (by simp),kz3,kz3,List.drop_length,z00q.2 hn,kA,if_neg (by simp)]
   have:=l2 m u hm hn 0 (Nat.zero_le _) [] (by rw [List.take_zero];exact RM.nil) (by rw [List.take_zero];exact List.nodup_nil)
   rw [List.drop_zero] at this
   simpa using this) λk hk ih u m hm hn=>by
   have hmem:=List.getElem_mem hk
   have:=zx8 hmem
   have:=@zx9 p.attrs[k]
   have l1:∀u:Bool,Ev (λn=>z5z n u p.attrs (p.attrs.length:Int) (k:Int) (mks m) (mvs m) (mks ([]:List (List UInt8×Int))) (mvs ([]:List (List UInt8×Int))) p p.attrs[k]) (if dup (kz8 p)=true then 14 else if (dup (zz4 p)||p.rules.any (pdup p))=true then 14 else if ((u || !kA ((kz8 p).take (k+1)) (p.attrs.drop (k+1))) || !p.rules.all (kR p))=true then 6 else if ybn p=true then 2 else 0):=λu=>by
    rw [y38,kz3,kz3,hm p.attrs[k].name]
    by_cases hin:p.attrs[k].name∈(kz8 p).take k
    ·rw [if_pos hin]
     show Ev (λn=>pIf true _ _) _
     rw [Ev.yz1 rfl,Ev.kz0]
     have:dup (kz8 p)=true:=by
      rw [yvp];intro hd
      have h:=ygg (k:=k+1) hd
      rw [zl8 hk,List.nodup_append] at h
      exact h.2.2 _ hin _ (List.mem_singleton.2 rfl) rfl
     rw [this];rfl
    ·rw [if_neg hin]
     show Ev (λn=>pIf false _ _) _
     rw [Ev.kz1 rfl,wrk (by omega)]
     refine ih u _ ?_ ?_
     ·rw [zl8 hk];exact hm.put _
     ·rw [zl8 hk,List.nodup_append]
      exact ⟨hn,by simp,λa ha b hb e=>hin (by rw [<-List.mem_singleton.1 hb,<-e];exact ha)⟩
   rw [zt4,Ev.yz1 (by simpa using hk),Ev.kz2 (yz6 hk),kz3,kz3,kz6.yz5,zz1.yz5,<-List.getElem_cons_drop (h:=hk),kA,<-zl8 hk]
   cases u with
   |true=>rw [Ev.yz1 rfl];exact (l1 true).to (by simp)
   |false =>
    rw [Ev.kz1 rfl,Ev.yz0 (yep hm.mk (z00o hw hmem) (by omega)),kz3]
    exact (l1 _).to (by rw [Bool.false_or,Bool.not_and])
 have h0:=l0 0 (Nat.zero_le _) false [] (by rw [List.take_zero];exact TM.nil) (by rw [List.take_zero];exact List.nodup_nil)
 rw [ycp,Ev.yz0 (yy3 (by omega)),z5k]
 cases y4y p
 case true=>rw [Ev.yz1 (by rfl),Ev.kz0];rfl
 rw [Ev.kz1 (by rfl),Ev.yz0 (yoq hw (by omega)),if_neg (by simp)]
 cases zfm p
 case false=>rw [Ev.yz1 (by rfl),Ev.kz0];rfl
 rw [Ev.kz1 (by rfl),if_pos rfl]
 refine Ev.to h0 ?_
 rw [List.take_zero,List.drop_zero,ysk,y5y]
 show (if dup (kz8 p)=true then _ else if (dup (zz4 p)||p.rules.any λr=>dup (r.params++kz8 p))=true then _ else _)=_
 cases dup (kz8 p) <;> cases (dup (zz4 p)||p.rules.any λr=>dup (r.params++kz8 p)) <;> cases kA [] p.attrs <;> cases p.rules.all (kR p) <;> rfl
theorem zb5 {l:List (List UInt8)} (h:zdk l):l.Nodup:=by
 refine List.Pairwise.imp (λ{a b} hab e => ?_) h
 subst e;rw [zvq] at hab;cases hab
theorem yta {s:List UInt8} {acc:List (List UInt8)} (hb:acc.length<=8000000):Ev (λn=>zak n s acc) (ins acc s):=by
 have hil:=y0b s acc
 have fin:∀k,k<=acc.length->acc.takeWhile (λx=>Op.bytesLess x s)=acc.take k->acc.dropWhile (λx=>Op.bytesLess x s)=acc.drop k->Ev (λn=>z4z n s (k:Int) false acc) (ins acc s):=λk hk ht hd=>by
  have hins:=ysl s acc
  rw [ht,hd] at hins
  have put:ins acc s=acc.take k++s::acc.drop k->Ev (λn=>z4p n s (k:Int) false acc) (ins acc s):=λhi=>by
   obtain ⟨s1,s2⟩:=ynh hk s
   have hx:ext acc [[]]=some (acc++[[]]):=z1j (by simp;omega)
   have hc1:y49 (acc++[[]]) ((k+1:Nat):Int)=some ():=by unfold y49;rw [if_pos (by simp;omega)]
   have hc2:y49 (acc++[[]]) (k:Int)=some ():=by unfold y49;rw [if_pos (by simp;omega)]
   have hg:ix (acc.take k++[(acc++[[]])[k]'(by simp;omega)]++acc.drop k) (k:Int)=some ((acc++[[]])[k]'(by simp;omega)):=by
    rw [z00i,List.append_assoc,List.getElem?_append_right (by simp;omega)]
    simp [Nat.min_eq_left hk]
   rw [zqg,Ev.kz1 (by rfl),Ev.kz2 hx,wrk (by omega),Ev.kz2 hc1,Ev.kz2 hc2,Ev.kz2 s1,Ev.kz2 hg,Int.toNat_natCast,s2,<-hi,Ev.kz0]
  rw [zr4,Ev.kz1 (by rfl)]
  by_cases he:k=acc.length
  ·rw [Ev.kz1 (by simp;omega)]
   exact put (by rw [hins,if_neg (by rw [List.drop_of_length_le (by omega)];simp)])
  ·have hlt:k<acc.length:=by omega
   rw [Ev.yz1 (by simp;omega),Ev.kz2 (yz6 hlt)]
   have hhead:(acc.drop k).head?=some acc[k]:=by rw [<-List.getElem_cons_drop (h:=hlt)];rfl
   by_cases heq:acc[k]=s
   ·rw [show (acc[k]==s)=true by simpa using heq,zqg,Ev.yz1 (by rfl),Ev.kz0]
    rw [hins,if_pos (by rw [hhead,heq])]
   ·rw [show (acc[k]==s)=false by simpa using heq]
    exact put (by rw [hins,if_neg (by rw [hhead];simpa using heq)])
 have place:∀k,k<=acc.length->(acc.take k).all (λx=>Op.bytesLess x s)=true->Ev (λn=>z2n n (k:Int) s acc) (ins acc s) :=
  down (Q:=λk=>(acc.take k).all (λx=>Op.bytesLess x s)=true->Ev (λn=>z2n n (k:Int) s acc) (ins acc s)) (λhall=>by
   rw [List.take_length] at hall
   rw [List.all_eq_true] at hall
   rw [zq3,Ev.kz1 (by simp)]
   refine fin _ (Nat.le_refl _) ?_ ?_
   ·rw [List.take_length];exact (y2t hall).1
   ·rw [List.drop_length];exact (y2t hall).2) λk hk ihk hall=>by
   have hsplit:acc=acc.take k++acc.drop k:=(List.take_append_drop k acc).symm
   rw [zq3,Ev.yz1 (by simpa using hk),Ev.kz2 (yz6 hk)]
   cases hb:Op.bytesLess acc[k] s
   ·rw [List.all_eq_true] at hall
    refine fin k (by omega) ?_ ?_
    ·conv=>lhs;rw [hsplit]
     rw [List.takeWhile_append_of_pos hall,<-List.getElem_cons_drop (h:=hk),List.takeWhile_cons_of_neg (by simp [hb]),List.append_nil]
    ·conv=>lhs;rw [hsplit]
     rw [List.dropWhile_append_of_pos hall,<-List.getElem_cons_drop (h:=hk),List.dropWhile_cons_of_neg (by simp [hb])]
   ·rw [zr4,Ev.yz1 (by rfl),wrk (by omega)]
    refine ihk ?_
    rw [<-zbb hk,List.all_append,hall];simp [hb]
 rw [ya8]
 exact place 0 (Nat.zero_le _) (by simp)
theorem yui {α σ:Type} {L:Nat->Int->Option (Int×σ)} {xs:List α} {f:α->List UInt8} {s:List UInt8} {st:σ} (he:Ev (λn=>L n (xs.length:Int)) (-1,st))
  (hs:∀k (h:k<xs.length) v,(f xs[k]=s->Ev (λn=>L n (k:Int)) ((k:Int),st))∧(f xs[k]≠s->Ev (λn=>L n ((k+1:Nat):Int)) v->Ev (λn=>L n (k:Int)) v)):Ev (λn=>L n 0) (atI (xs.map f) s,st):=by
 have:∀k,k<=xs.length->Ev (λn=>L n (k:Int)) (if atI ((xs.drop k).map f) s = -1 then -1 else atI ((xs.drop k).map f) s+k,st) :=
  down (by rw [List.drop_length];exact he) λk hk ih=>by
   obtain ⟨h1,h2⟩:=hs k hk (if atI ((xs.drop (k+1)).map f) s = -1 then -1 else atI ((xs.drop (k+1)).map f) s+((k+1:Nat):Int),st)
   rw [<-List.getElem_cons_drop (h:=hk),List.map_cons,zr8]
   by_cases q:f xs[k]=s
   ·rw [if_pos q];refine (h1 q).to ?_;simp
   ·rw [if_neg q]
    refine (h2 q ih).to ?_
    have h0:=@z05y ((xs.drop (k+1)).map f) s
    by_cases z:atI ((xs.drop (k+1)).map f) s = -1
    ·rw [if_pos z,if_pos z,if_pos rfl]
    ·rw [if_neg z,if_neg z,if_neg (by omega)]
     have:atI ((xs.drop (k+1)).map f) s+((k+1:Nat):Int)=atI ((xs.drop (k+1)).map f) s+1+(k:Int):=by omega
     rw [this]
 have:=this 0 (Nat.zero_le _)
 rw [List.drop_zero] at this
 refine Ev.to this ?_
 split
 ·rename_i h;rw [h]
 ·simp
theorem yx2 {p:zz0} {s:List UInt8} (hs:p.size<=4000000):Ev (λn=>zia n p s) (atI (zz4 p) s):=by
 have:=@ze1 p
 have h:Ev (λn=>zzj n p.rules s) (atI (zz4 p) s,s):=by
  rw [zg9]
  refine yui (L:=λn k=>zzc n k p.rules (p.rules.length:Int) s) (xs:=p.rules) (f:=(·.name)) (by rw [z1b,Ev.kz1 (by simp),Ev.kz0]) λk hk v => ?_
  have hf:Ev (λn=>zg3 n p.rules[k] s) (p.rules[k].name==s,s):=by rw [yko,Ev.kz0]
  constructor
  ·intro q
   rw [z1b,Ev.yz1 (by simpa using hk),Ev.kz2 (yz6 hk),Ev.yz0 hf,Ev.yz1 (by simpa using q),Ev.kz0]
  ·intro q hv
   rw [z1b,Ev.yz1 (by simpa using hk),Ev.kz2 (yz6 hk),Ev.yz0 hf,Ev.kz1 (by simpa using q),wrk (by omega)]
   exact hv
 rw [yw2,Ev.yz0 h,Ev.kz0]
end Go.Proofs.YtahcjggdcmgpkaaGreat
namespace Go.Proofs.YtahcjggdcmgpkaaGreat
open Go Go.Ab
set_option linter.unusedVariables false
set_option linter.unusedSimpArgs false
def z9c (r:kz4):List (List UInt8):=(zz9 r).map (·.1)
def nx (p:zz0) (s:List UInt8):List (List UInt8):=match p.rules[(atI (zz4 p) s).toNat]? with
 |some r=>z9c r
 |none=>[]
theorem zy8 {p:zz0} (h:z5k p=0):zfm p=true∧(zz4 p).Nodup∧(∀r∈p.rules,∀c∈z9c r,c∈zz4 p):=by
 unfold z5k at h
 by_cases h1:y4y p=true
 ·rw [if_pos h1] at h;cases h
 rw [if_neg h1] at h
 by_cases h2:zfm p=true
 case neg=>rw [if_neg h2] at h;cases h
 rw [if_pos h2] at h
 by_cases h3:ysk p=true
 ·rw [if_pos h3] at h;cases h
 rw [if_neg h3] at h
 by_cases h4:y5y p=true
 case neg=>rw [if_neg h4] at h;cases h
 refine ⟨h2,?_,λr hr c hc => ?_⟩
 ·unfold ysk at h3
  simp only [Bool.or_eq_true,not_or] at h3
  exact z00q.1 (by simpa using h3.2.1)
 ·have h5:=List.all_eq_true.1 (Bool.and_eq_true_iff.1 h4).2 r hr
  obtain ⟨q,hq,rfl⟩:=List.mem_map.1 hc
  exact of_decide_eq_true (List.all_eq_true.1 (Bool.and_eq_true_iff.1 h5).2 q hq)
theorem z06p {p:zz0} (hn:(zz4 p).Nodup) {r:kz4} (hr:r∈p.rules):nx p r.name=z9c r:=by
 obtain ⟨j,hj,e⟩:=List.mem_iff_getElem.1 hr
 have hj':j<(zz4 p).length:=by simpa [zz4] using hj
 have hx:(zz4 p)[j]=r.name:=by simp [zz4,e]
 obtain ⟨i,hi,h1,h2,_⟩:=zyb (l:=zz4 p) (s:=r.name) (by rw [<-hx];exact List.getElem_mem hj')
 have hij:i=j:=(List.getElem_inj hn).1 (by rw [h2,hx])
 unfold nx
 rw [h1,Int.toNat_natCast,hij,List.getElem?_eq_getElem hj,e]
inductive Rch (p:zz0) (root:List UInt8):List UInt8->Prop
 |refl:Rch p root root
 |step {x y:List UInt8}:Rch p root x->y∈nx p x->Rch p root y
theorem ztr {p:zz0} {root:List UInt8} (hc:∀r∈p.rules,∀c∈z9c r,c∈zz4 p) (hr:root∈zz4 p) {x:List UInt8} (h:Rch p root x):x∈zz4 p:=by
 induction h with
 |refl=>exact hr
 |step _ hy _ =>
  unfold nx at hy
  split at hy
  · rename_i r hr;exact hc r (List.mem_of_getElem? hr) _ hy
  · cases hy
theorem ynx {p:zz0} {root:List UInt8} {l:List (List UInt8)} (h0:root∈l) (hc:∀x∈l,∀y∈nx p x,y∈l) {x:List UInt8} (h:Rch p root x):x∈l:=by
 induction h with
 |refl=>exact h0
 |step _ hy ih=>exact hc _ ih _ hy
theorem zf5 {l m:List (List UInt8)} (hn:l.Nodup) (h:∀x∈l,x∈m):l.length<=m.length:=hn.length_le_of_subset h
theorem z07h {p:zz0} {s:List UInt8} {i:Nat} (hi:i<p.rules.length) (h:atI (zz4 p) s=(i:Int)):nx p s=z9c p.rules[i]:=by
 unfold nx;rw [h,Int.toNat_natCast,List.getElem?_eq_getElem hi]
theorem z013 {l:List (List UInt8)} (h:l.length<=8000000):Ev (λn=>z0j n l) (z02 l):=Ev.pure (by show (if l.length<4611686018427387904 then _ else _)=_;rw [if_pos (by omega)])
def Set (p:zz0) (root:List UInt8) (r:List (List UInt8)×Int):Prop:=r.2=0∧zdk r.1∧∀x,x∈r.1↔Rch p root x
theorem z011 {p:zz0} {root:List UInt8} {a b:List (List UInt8)×Int} (ha:Set p root a) (hb:Set p root b):a=b:=by
 obtain ⟨a1,a2⟩:=a
 obtain ⟨b1,b2⟩:=b
 have h1:a1=b1:=zji ha.2.1 hb.2.1 λx=>by rw [ha.2.2,hb.2.2]
 have h2:a2=b2:=by have:=ha.1;have:=hb.1;simp only at *;omega
 rw [h1,h2]
theorem y83 {p:zz0} {root:List UInt8} (hw:p.wf) (hs:p.size<=4000000):∃r,Ev (λn=>zbq n p root) r∧(if z5k p≠0 then r=([],z5k p) else if root∈zz4 p then Set p root r else r=([],6)):=by
 have hpl:=@ze1 p
 have hrl:(zz4 p).length=p.rules.length:=by simp [zz4]
 simp only [ygh,Ev.yz0 (zxt hw hs)]
 by_cases hc:z5k p=0
 case neg=>exact ⟨([],z5k p),by rw [Ev.yz1 (by simpa using hc),Ev.kz0],by rw [if_pos hc]⟩
 obtain ⟨hf,hnd,hcn⟩:=zy8 hc
 simp only [if_neg (show ¬z5k p≠0 by simp [hc]),Ev.kz1 (show (z5k p != 0)=false by simpa using hc),Ev.yz0 (yx2 hs)]
 by_cases hin:root∈zz4 p
 case neg=>exact ⟨([],6),by rw [Ev.yz1 (decide_eq_true (z4g.2 hin)),Ev.kz0],by rw [if_neg hin]⟩
 simp only [if_pos hin,Ev.kz1 (show decide (atI (zz4 p) root<0)=false from decide_eq_false λq=>z4g.1 q hin)]
 have main:∀d i (out:List (List UInt8)) m,(zz4 p).length-i=d->i<=out.length->out.Nodup->TM m out->root∈out->(∀x∈out,Rch p root x)->(∀j x,j<i->out[j]? = some x->∀y∈nx p x,y∈out)->∃r,Ev (λn=>z5q n (i:Int) out (mks m) (mvs m) p) r∧Set p root r:=λd=>by
  induction d with
  |zero =>
   intro i out m hd hi hn hm h0 hr hcl
   have hsub:=zf5 hn λx hx=>ztr hcn hin (hr x hx)
   have hil:i=out.length:=by omega
   refine ⟨(z02 out,0),?_,rfl,zif hn,λx => ?_⟩
   · rw [zmk,Ev.kz1 (by simp;omega),Ev.yz0 (z013 (by omega)),Ev.kz0]
   · rw [(zdj out).mem_iff]
     refine ⟨hr x,ynx h0 λx hx y hy => ?_⟩
     obtain ⟨j,hj,e⟩:=List.mem_iff_getElem.1 hx
     exact hcl j x (by omega) (by rw [List.getElem?_eq_getElem hj,e]) y hy
  |succ d ih =>
   intro i out m hd hi hn hm h0 hr hcl
   have hsub:=zf5 hn λx hx=>ztr hcn hin (hr x hx)
   by_cases hil:i=out.length
   · refine ⟨(z02 out,0),?_,rfl,zif hn,λx => ?_⟩
     · rw [zmk,Ev.kz1 (by simp;omega),Ev.yz0 (z013 (by omega)),Ev.kz0]
     · rw [(zdj out).mem_iff]
       refine ⟨hr x,ynx h0 λx hx y hy => ?_⟩
       obtain ⟨j,hj,e⟩:=List.mem_iff_getElem.1 hx
       exact hcl j x (by omega) (by rw [List.getElem?_eq_getElem hj,e]) y hy
   have hlt:i<out.length:=by omega
   have hrx:=hr _ (List.getElem_mem hlt)
   obtain ⟨a,ha,h1,h2,h3⟩:=y4s (ztr hcn hin hrx)
   have:=znd (List.getElem_mem ha)
   have hca:=zkx p.rules[a]
   have hnx:=z07h ha h1
   have hml:((zz9 p.rules[a]).map toT).length=(zz9 p.rules[a]).length:=by simp
   have inner:∀j,j<=(zz9 p.rules[a]).length->∀(o:List (List UInt8)) m,o.Nodup->TM m o->out <+: o->(∀x∈o,Rch p root x)->(∀y∈(z9c p.rules[a]).take j,y∈o)->∃r,Ev (λn=>z5r n (j:Int) ((zz9 p.rules[a]).map toT) (i:Int) (((zz9 p.rules[a]).map toT).length:Int) o (mks m) (mvs m) p) r∧Set p root r :=
    down (λo m hn hm hpre hr hall=>by
     have hsub':=zf5 hn λx hx=>ztr hcn hin (hr x hx)
     have hol:=hpre.length_le
     have e:(z9c p.rules[a]).length=(zz9 p.rules[a]).length:=by simp [z9c]
     rw [<-e,List.take_length] at hall
     obtain ⟨r,hr1,hr2⟩:=ih (i+1) o m (by omega) (by omega) hn hm (hpre.subset h0) hr λj x hj hx y hy=>by
      obtain ⟨t,rfl⟩:=hpre
      rw [List.getElem?_append_left (by omega)] at hx
      by_cases q:j<i
      · exact List.mem_append_left _ (hcl j x q hx y hy)
      · have:j=i:=by omega
        subst this
        rw [List.getElem?_eq_getElem hlt] at hx
        injection hx with hx
        rw [<-hx,hnx] at hy
        exact hall y hy
     exact ⟨r,by rw [zlz,Ev.kz1 (by simp),wrk (by omega),kz3];exact hr1,hr2⟩) λj hj ihj o m hn hm hpre hr hall=>by
     have hsub':=zf5 hn λx hx=>ztr hcn hin (hr x hx)
     have hj':j<((zz9 p.rules[a]).map toT).length:=by simpa using hj
     have hjc:j<(z9c p.rules[a]).length:=by simpa [z9c] using hj
     have hcj:(z9c p.rules[a])[j]=(zz9 p.rules[a])[j].1:=by simp [z9c]
     have htk:(z9c p.rules[a]).take (j+1)=(z9c p.rules[a]).take j++[(zz9 p.rules[a])[j].1]:=by rw [<-hcj,zbb hjc]
     have hmj:=hm.mk (zz9 p.rules[a])[j].1
     by_cases q:(zz9 p.rules[a])[j].1∈o
     · obtain ⟨r,hr1,hr2⟩:=ihj o m hn hm hpre hr λy hy=>by
        rw [htk,List.mem_append,List.mem_singleton] at hy
        rcases hy with hy|hy
        · exact hall y hy
        · rw [hy];exact q
       refine ⟨r,?_,hr2⟩
       rw [zlz,Ev.yz1 (by simpa using hj),Ev.kz2 (yz6 hj'),List.getElem_map,kz3]
       show Ev (λn=>pIf (!Option.getD (z3k m (zz9 p.rules[a])[j].1) false) _ _) _
       rw [hmj,decide_eq_true q,Ev.kz1 (by rfl),zsr,wrk (by omega),kz3];exact hr1
     · have hrc:Rch p root (zz9 p.rules[a])[j].1:=.step hrx (by rw [hnx,<-hcj];exact List.getElem_mem hjc)
       obtain ⟨r,hr1,hr2⟩:=ihj (o++[(zz9 p.rules[a])[j].1]) _ (by
        rw [List.nodup_append]
        exact ⟨hn,by simp,λx hx y hy e=>q (by rw [<-List.mem_singleton.1 hy,<-e];exact hx)⟩) (hm.put _) (hpre.trans (List.prefix_append _ _)) (λx hx=>by
        rcases List.mem_append.1 hx with hx|hx
        · exact hr x hx
        · rw [List.mem_singleton.1 hx];exact hrc) λy hy=>by
        rw [htk,List.mem_append] at hy
        rcases hy with hy|hy
        · exact List.mem_append_left _ (hall y hy)
        · exact List.mem_append_right _ hy
       refine ⟨r,?_,hr2⟩
       rw [zlz,Ev.yz1 (by simpa using hj),Ev.kz2 (yz6 hj'),List.getElem_map,kz3]
       show Ev (λn=>pIf (!Option.getD (z3k m (zz9 p.rules[a])[j].1) false) ((ext o [(zz9 p.rules[a])[j].1]).bind _) _) _
       rw [hmj,decide_eq_false q,Ev.yz1 (by rfl),Ev.kz2 (z1j (by simp only [List.length_cons,List.length_nil];omega)),zsr,wrk (by omega),kz3];exact hr1
   obtain ⟨r,hr1,hr2⟩:=inner 0 (Nat.zero_le _) out m hn hm (List.prefix_refl _) hr (by simp)
   refine ⟨r,?_,hr2⟩
   rw [zmk,Ev.yz1 (by simpa using hlt),Ev.kz2 (yz6 hlt),Ev.yz0 (yx2 hs),h1,Ev.kz2 (yz6 ha),Ev.yz0 (y8r (by omega)),kz3]
   exact hr1
 exact main _ 0 [root] _ rfl (Nat.zero_le _) (by simp) (TM.nil.put root) (by simp) (λx hx=>by rw [List.mem_singleton.1 hx];exact .refl) λj x hj=>by omega
theorem yx4 {p:zz0} {root:List UInt8} (hw:p.wf) (hs:p.size<=4000000):∃r,Ev (λn=>zbw n p root) r∧(if z5k p≠0 then r=([],z5k p) else if root∈zz4 p then Set p root r else r=([],6)):=by
 have hpl:=@ze1 p
 have hrl:(zz4 p).length=p.rules.length:=by simp [zz4]
 simp only [yfk,Ev.yz0 (zoc hw hs)]
 by_cases hc:z5k p=0
 case neg=>exact ⟨([],z5k p),by rw [Ev.yz1 (by simpa using hc),Ev.yz0 (zoc hw hs),Ev.kz0],by rw [if_pos hc]⟩
 obtain ⟨hf,hnd,hcn⟩:=zy8 hc
 simp only [if_neg (show ¬z5k p≠0 by simp [hc]),Ev.kz1 (show (z5k p != 0)=false by simpa using hc),Ev.yz0 (zf0 (show p.size<=8000000 by omega)),Ev.yz0 (zmr (l:=zz4 p) (s:=root) (by omega))]
 by_cases hin:root∈zz4 p
 case neg=>exact ⟨([],6),by rw [Ev.yz1 (decide_eq_true (z4g.2 hin)),Ev.kz0],by rw [if_neg hin]⟩
 simp only [if_pos hin,Ev.kz1 (show decide (atI (zz4 p) root<0)=false from decide_eq_false λq=>z4g.1 q hin)]
 have main:∀d,∀out:List (List UInt8),(zz4 p).length-out.length=d->zdk out->root∈out->(∀x∈out,Rch p root x)->∃r,Ev (λn=>z5y n true out p) r∧Set p root r:=λd=>by
  induction d using Nat.strongRecOn with
  |ind d ih =>
   intro out hd hst h0 hr
   have pass:∀k,k<=p.rules.length->∀(more:Bool) (o:List (List UInt8)),zdk o->root∈o->(∀x∈o,Rch p root x)->(more=true->out.length<o.length)->(more=false->∀j (h:j<p.rules.length),j<k->p.rules[j].name∈o->∀y∈z9c p.rules[j],y∈o)->out.length<=o.length->∃r,Ev (λn=>z62 n (k:Int) more o p) r∧Set p root r :=
    down (λmore o hst h0 hr hmore hcl hle=>by
     have hsub:=zf5 (zb5 hst) λx hx=>ztr hcn hin (hr x hx)
     simp only [zlw,Ev.kz1 (show decide ((p.rules.length:Int)<(p.rules.length:Int))=false by simp)]
     cases more with
     |true =>
      have hm:=hmore rfl
      exact ih ((zz4 p).length-o.length) (by omega) o rfl hst h0 hr
     |false =>
      refine ⟨(o,0),by rw [zrv,Ev.kz1 (by rfl),Ev.kz0],rfl,hst,λx=>⟨hr x,ynx h0 λx hx y hy => ?_⟩⟩
      obtain ⟨a,ha,h1,h2,h3⟩:=y4s (ztr hcn hin (hr x hx))
      rw [z07h ha h1] at hy
      exact hcl rfl a ha ha (by rw [h2];exact hx) y hy) λk hk ihk more o hst h0 hr hmore hcl hle=>by
     have hsub:=zf5 (zb5 hst) λx hx=>ztr hcn hin (hr x hx)
     have hmem:=List.getElem_mem hk
     have:=znd hmem
     have hca:=zkx p.rules[k]
     have l4:∀(more:Bool) (o:List (List UInt8)),zdk o->root∈o->(∀x∈o,Rch p root x)->(more=true->out.length<o.length)->(more=false->∀j (h:j<p.rules.length),j<k+1->p.rules[j].name∈o->∀y∈z9c p.rules[j],y∈o)->out.length<=o.length->∃r,Ev (λn=>z5t n more (k:Int) o p) r∧Set p root r:=λmore o h1 h2 h3 h4 h5 h6=>by
      obtain ⟨r,hr1,hr2⟩:=ihk more o h1 h2 h3 h4 h5 h6
      exact ⟨r,by rw [y4u,wrk (by omega)];exact hr1,hr2⟩
     by_cases hino:p.rules[k].name∈o
     case neg =>
      obtain ⟨r,hr1,hr2⟩:=l4 more o hst h0 hr hmore (λhm j hj hjk hjo y hy=>by
       by_cases q:j<k
       · exact hcl hm j hj q hjo y hy
       · have:j=k:=by omega
         subst this;exact (hino hjo).elim) hle
      exact ⟨r,by rw [zlw,Ev.yz1 (by simpa using hk),Ev.kz2 (yz6 hk),Ev.yz0 (zuj (by omega)),Ev.yz1 (decide_eq_true (z4g.2 hino))];exact hr1,hr2⟩
     have hrk:=hr _ hino
     have hnx:=z06p hnd hmem
     have hml:((zz9 p.rules[k]).map toG).length=(zz9 p.rules[k]).length:=by simp
     have inner:∀j,j<=(zz9 p.rules[k]).length->∀(more:Bool) (o:List (List UInt8)),zdk o->root∈o->(∀x∈o,Rch p root x)->(more=true->out.length<o.length)->(more=false->(∀j (h:j<p.rules.length),j<k->p.rules[j].name∈o->∀y∈z9c p.rules[j],y∈o)∧∀y∈(z9c p.rules[k]).take j,y∈o)->out.length<=o.length->∃r,Ev (λn=>z66 n (j:Int) ((zz9 p.rules[k]).map toG) more (k:Int) o p) r∧Set p root r :=
      down (λmore o hst h0 hr hmore hcl hle=>by
       have e:(z9c p.rules[k]).length=(zz9 p.rules[k]).length:=by simp [z9c]
       rw [<-e,List.take_length] at hcl
       obtain ⟨r,hr1,hr2⟩:=l4 more o hst h0 hr hmore (λhm j hj hjk hjo y hy=>by
        by_cases q:j<k
        · exact (hcl hm).1 j hj q hjo y hy
        · have:j=k:=by omega
          subst this;exact (hcl hm).2 y hy) hle
       exact ⟨r,by rw [zmi,Ev.kz1 (by simp)];exact hr1,hr2⟩) λj hj ihj more o hst h0 hr hmore hcl hle=>by
       have hsub:=zf5 (zb5 hst) λx hx=>ztr hcn hin (hr x hx)
       have hj':j<((zz9 p.rules[k]).map toG).length:=by simpa using hj
       have hjc:j<(z9c p.rules[k]).length:=by simpa [z9c] using hj
       have hcj:(z9c p.rules[k])[j]=(zz9 p.rules[k])[j].1:=by simp [z9c]
       have htk:(z9c p.rules[k]).take (j+1)=(z9c p.rules[k]).take j++[(zz9 p.rules[k])[j].1]:=by rw [<-hcj,zbb hjc]
       by_cases q:(zz9 p.rules[k])[j].1∈o
       · obtain ⟨r,hr1,hr2⟩:=ihj more o hst h0 hr hmore (λhm=>⟨(hcl hm).1,λy hy=>by
          rw [htk,List.mem_append,List.mem_singleton] at hy
          rcases hy with hy|hy
          · exact (hcl hm).2 y hy
          · rw [hy];exact q⟩) hle
         refine ⟨r,?_,hr2⟩
         rw [zmi,Ev.yz1 (by simpa using hj),Ev.kz2 (yz6 hj'),List.getElem_map]
         show Ev (λn=>(z47 n (zz9 p.rules[k])[j].1 o).bind _) _
         rw [Ev.yz0 (zuj (by omega)),Ev.kz1 (decide_eq_false λz=>z4g.1 z q),zsg,wrk (by omega)];exact hr1
       · have hrc:Rch p root (zz9 p.rules[k])[j].1:=.step hrk (by rw [hnx,<-hcj];exact List.getElem_mem hjc)
         have hins:o.length<(ins o (zz9 p.rules[k])[j].1).length:=by
          rcases Nat.lt_or_ge o.length (ins o (zz9 p.rules[k])[j].1).length with z|z
          · exact z
          · exfalso
            have hn2:=zb5 (znl (s:=(zz9 p.rules[k])[j].1) hst)
            have hc:=zf5 (l:=(zz9 p.rules[k])[j].1::o) (m:=ins o (zz9 p.rules[k])[j].1) (List.nodup_cons.2 ⟨q,zb5 hst⟩) λx hx=>by
             rw [znz];rcases List.mem_cons.1 hx with h|h
             · exact .inr h
             · exact .inl h
            rw [List.length_cons] at hc;omega
         obtain ⟨r,hr1,hr2⟩:=ihj true (ins o (zz9 p.rules[k])[j].1) (znl hst) ((znz _ _ _).2 (.inl h0)) (λx hx=>by
          rcases (znz _ _ _).1 hx with hx|hx
          · exact hr x hx
          · rw [hx];exact hrc) (λ_=>by omega) (λh=>by cases h) (by omega)
         refine ⟨r,?_,hr2⟩
         rw [zmi,Ev.yz1 (by simpa using hj),Ev.kz2 (yz6 hj'),List.getElem_map]
         show Ev (λn=>(z47 n (zz9 p.rules[k])[j].1 o).bind _) _
         rw [Ev.yz0 (zuj (by omega)),Ev.yz1 (decide_eq_true (z4g.2 q)),Ev.kz2 (yz6 hj'),List.getElem_map]
         show Ev (λn=>(zak n (zz9 p.rules[k])[j].1 o).bind _) _
         rw [Ev.yz0 (yta (by omega)),zsg,wrk (by omega)];exact hr1
     obtain ⟨r,hr1,hr2⟩:=inner 0 (Nat.zero_le _) more o hst h0 hr hmore (λhm=>⟨hcl hm,by simp⟩) hle
     refine ⟨r,?_,hr2⟩
     rw [zlw,Ev.yz1 (by simpa using hk),Ev.kz2 (yz6 hk),Ev.yz0 (zuj (by omega)),Ev.kz1 (decide_eq_false λz=>z4g.1 z hino),Ev.kz2 (yz6 hk),Ev.yz0 (y2h (by omega) λc hc a ha=>yfn (y3i hf _ hmem c hc a ha))]
     exact hr1
   obtain ⟨r,hr1,hr2⟩:=pass 0 (Nat.zero_le _) false out hst h0 hr (λh=>by cases h) (λ_ j hj hj0=>by omega) (Nat.le_refl _)
   exact ⟨r,by rw [zrv,Ev.yz1 (by rfl)];exact hr1,hr2⟩
 exact main _ [root] rfl (by simp [zdk]) (by simp) λx hx=>by rw [List.mem_singleton.1 hx];exact .refl
theorem z028 {p:zz0} {s:List UInt8} {r:List (List UInt8)×Int} (hs:p.size<=4000000) (h:if z5k p≠0 then r=([],z5k p) else if s∈zz4 p then Set p s r else r=([],6)):r.1.length<=8000000:=by
 have hpl:=@ze1 p
 have hrl:(zz4 p).length=p.rules.length:=by simp [zz4]
 by_cases hc:z5k p=0
 case neg=>rw [if_pos hc] at h;rw [h];simp
 rw [if_neg (by simp [hc])] at h
 by_cases hin:s∈zz4 p
 case neg=>rw [if_neg hin] at h;rw [h];simp
 rw [if_pos hin] at h
 have:=zf5 (zb5 h.2.1) λx hx=>ztr (zy8 hc).2.2 hin ((h.2.2 x).1 hx)
 omega
end Go.Proofs.YtahcjggdcmgpkaaGreat
