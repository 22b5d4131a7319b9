/-
  PROGRAMS: COMPARISONS.
-/
import Derived.Test.YtahcjggdcmgpkaaGreatOwn3
namespace Go.Proofs.YtahcjggdcmgpkaaGreat
open Go Go.Ab
set_option linter.unusedVariables false
set_option linter.unusedSimpArgs false
theorem y0l {c d:Bool} {A:Nat->Option Bool} (h:c=true->Ev A d):Ev (λn=>pIf c (A n) (some false)) (c&&d):=by
 cases c
 ·exact Ev.pure rfl
 ·exact h rfl
theorem andN {c d:Bool} {A Z:Nat->Option Bool} (hz:Ev Z false) (h:c=true->Ev A d):Ev (λn=>pIf (!c) (Z n) (A n)) (c&&d):=by
 cases c
 ·exact hz
 ·exact h rfl
theorem y4p {α:Type} [BEq α] [LawfulBEq α] (a b:α):(a==b)=eqB a b:=by
 by_cases h:a=b
 ·subst h;simp
 ·rw [zzp.2 h];simpa using h
theorem yty {α:Type} [BEq α] [LawfulBEq α] (a b:α):(a != b) = !eqB a b:=by rw [bne,y4p]
theorem y04 {α:Type} {a b:α} {c:Bool} (h:a=b↔c=true):eqB a b=c:=by
 cases c
 ·exact zzp.2 λe=>by simpa using h.1 e
 ·exact z9e.2 (h.2 rfl)
theorem z06n (a b:zz7):eqB a b=(eqB a.name b.name&&eqB a.value b.value):=y04 (by
 obtain ⟨a1,a2⟩:=a;obtain ⟨b1,b2⟩:=b;simp only [zz7.mk.injEq,Bool.and_eq_true,z9e])
theorem z01a (a b:yza):eqB a b=(eqB a.kind b.kind&&(eqB a.name b.name&&eqB a.args b.args)):=y04 (by
 obtain ⟨a1,a2,a3⟩:=a;obtain ⟨b1,b2,b3⟩:=b;simp only [yza.mk.injEq,Bool.and_eq_true,z9e])
theorem ynk (a b:zz3):eqB a b=(eqB a.kind b.kind&&(eqB a.axis b.axis&&(eqB a.name b.name&&(eqB a.args b.args&&eqB a.items b.items)))):=y04 (by
 obtain ⟨a1,a2,a3,a4,a5⟩:=a;obtain ⟨b1,b2,b3,b4,b5⟩:=b;simp only [zz3.mk.injEq,Bool.and_eq_true,z9e])
theorem z016 (a b:kz5):eqB a b=(eqB a.weight b.weight&&(eqB a.when_ b.when_&&eqB a.do_ b.do_)):=y04 (by
 obtain ⟨a1,a2,a3⟩:=a;obtain ⟨b1,b2,b3⟩:=b;simp only [kz5.mk.injEq,Bool.and_eq_true,z9e])
theorem z015 (a b:kz4):eqB a b=(eqB a.name b.name&&(eqB a.params b.params&&eqB a.cases b.cases)):=y04 (by
 obtain ⟨a1,a2,a3⟩:=a;obtain ⟨b1,b2,b3⟩:=b;simp only [kz4.mk.injEq,Bool.and_eq_true,z9e])
theorem z06m (a b:zz0):eqB a b=(eqB a.attrs b.attrs&&eqB a.rules b.rules):=y04 (by
 obtain ⟨a1,a2⟩:=a;obtain ⟨b1,b2⟩:=b;simp only [zz0.mk.injEq,Bool.and_eq_true,z9e])
theorem lenF {α:Type} {a b:List α} (h:¬a.length=b.length):eqB (a.length:Int) (b.length:Int)=false:=zzp.2 (by omega)
theorem lenT {α:Type} {a b:List α} (h:a.length=b.length):eqB (a.length:Int) (b.length:Int)=true:=z9e.2 (by omega)
theorem neqB {α:Type} {a b:List α} (h:¬a.length=b.length):eqB a b=false:=zzp.2 λe=>h (by rw [e])
theorem ifB (c:Bool):(if c=true then true else false)=c:=by cases c <;> rfl
theorem yd8 {a b:List zz1} (hs:(a.map zz1.size).sum<=8000000):Ev (λn=>z79 n a b) (eqB a b):=by
 have:=zcd a
 rw [y4k,Ev.yz0 (zl7 (S:=λn x y=>z4f n x.re y.re) (λn=>yz9.eq_2 _ _ n) (λn k=>zz8.eq_2 _ _ _ _ n) (by omega) λx hx y=>by rw [zz1.yz5,zz1.yz5];exact y07 x y (by have:=y08 hx;omega)),Ev.kz0]
theorem yv5 {a b:yza} (hs:a.size<=8000000):Ev (λn=>z4s n a b) (eqB a b):=by
 have:=@y8s a
 rw [y1r,z01a,y4p,y4p]
 refine y0l λ_=>y0l λ_ => ?_
 rw [Ev.yz0 (yd8 (by omega)),Ev.kz0]
theorem yi7 {a b:zz3} (hs:a.size<=8000000):Ev (λn=>z2y n a b) (eqB a b):=by
 have:=@y7y a
 have:=@zyv a
 rw [zyl,ynk,y4p,y4p,y4p]
 refine y0l λ_=>y0l λ_=>y0l λ_ => ?_
 rw [Ev.yz0 (yd8 (by omega))]
 refine y0l λ_ => ?_
 rw [Ev.yz0 (zl7 (S:=λn x y=>z4s n x y) (λn=>yzk.eq_2 _ _ n) (λn k=>kzb.eq_2 _ _ _ _ n) (by omega) λx hx y=>yv5 (by have:=y42 hx;omega)),Ev.kz0]
theorem ytj {a b:kz5} (hs:a.size<=8000000):Ev (λn=>z4r n a b) (eqB a b):=by
 have:=@y7x a
 have:=@zuf a
 rw [y31,z016,y4p,zz1.yz5,zz1.yz5]
 refine y0l λ_ => ?_
 rw [Ev.yz0 (y07 _ _ (by omega))]
 refine y0l λ_ => ?_
 rw [Ev.yz0 (zl7 (S:=λn x y=>z2y n x y) (λn=>yze.eq_2 _ _ n) (λn k=>yz8.eq_2 _ _ _ _ n) (by omega) λx hx y=>yi7 (by have:=zwz hx;omega)),Ev.kz0]
theorem z01i {a b:List (List UInt8)} (hl:a.length<=8000000):Ev (λn=>z1c n a b) (eqB a b):=by
 refine zl7 (S:=λn x y=>some (eqB x y)) (λn=>z1c.eq_2 _ _ n) (λn k => ?_) (by omega) (λx hx y=>Ev.pure rfl)
 rw [z0p.eq_2]
 simp only [y4p,Option.bind_some]
theorem ytm {a b:kz4} (hs:a.size<=8000000):Ev (λn=>zai n a b) (eqB a b):=by
 have:=@zxy a
 have:=@zv7 a
 rw [y9d,z015,y4p]
 refine y0l λ_ => ?_
 rw [Ev.yz0 (z01i (by omega))]
 refine y0l λ_ => ?_
 rw [Ev.yz0 (zl7 (S:=λn x y=>z4r n x.re y.re) (λn=>kzk.eq_2 _ _ n) (λn k=>zzb.eq_2 _ _ _ _ n) (by omega) λx hx y=>by rw [kz5.yz5,kz5.yz5];exact ytj (by have:=zsk hx;omega)),Ev.kz0]
theorem yu2 {a b:zz7} (hs:a.size<=8000000):Ev (λn=>z9u n a b) (eqB a b):=by
 have:=@zx6 a
 rw [yan,z06n,y4p,zz1.yz5,zz1.yz5]
 refine y0l λ_ => ?_
 rw [Ev.yz0 (y07 _ _ (by omega)),Ev.kz0]
theorem yyh {a b:zz0} (hs:a.size<=8000000):Ev (λn=>zdg n a b) (eqB a b):=by
 have:=@zju a
 have:=@zek a
 rw [ykn,z06m,Ev.yz0 (zl7 (S:=λn x y=>z9u n x.re y.re) (λn=>zzl.eq_2 _ _ n) (λn k=>kza.eq_2 _ _ _ _ n) (by omega) λx hx y=>by rw [zz7.yz5,zz7.yz5];exact yu2 (by have:=zx0 hx;omega))]
 refine y0l λ_ => ?_
 rw [Ev.yz0 (zl7 (S:=λn x y=>zai n x y) (λn=>zzk.eq_2 _ _ n) (λn k=>yzb.eq_2 _ _ _ _ n) (by omega) λx hx y=>ytm (by have:=zne hx;omega)),Ev.kz0]
theorem ydv {a b:List zz1} (hs:(a.map zz1.size).sum<=8000000):Ev (λn=>z52 n a b) (eqB a b):=by
 have e1:Ev (λn=>z05 n a) (z34 a):=by rw [zk2,Ev.kz0];rfl
 have e2:Ev (λn=>z05 n b) (z34 b):=by rw [zk2,Ev.kz0];rfl
 rw [y2i,Ev.yz0 e1,Ev.yz0 e2,zz1.yz5,zz1.yz5,Ev.yz0 (zwk _ _ (by rw [zhe];omega)),Ev.kz0,z034]
theorem ykd {a b:zz3} (hs:a.size<=8000000):Ev (λn=>z56 n a b) (eqB a b):=by
 have:=@y7y a
 have:=@zyv a
 have hz:Ev (λn=>zzr n true b a) false:=by rw [zl9,Ev.yz1 rfl,Ev.kz0]
 rw [zxp,ynk,yty,yty,y4p,yty]
 refine andN hz λ_=>andN hz λ_=>andN hz λ_ => ?_
 rw [Ev.yz0 (ydv (by omega))]
 refine andN hz λ_ => ?_
 by_cases hl:a.items.length=b.items.length
 case neg=>simp only [lenF hl,neqB hl,Bool.false_and];exact hz
 rw [lenT hl,zl9,Ev.kz1 (by rfl)]
 rw [<-ifB (eqB a.items b.items)]
 refine y20 (L:=λn k=>z14 n k b a) hl (by rw [zl6,Ev.kz1 (by simp),Ev.kz0]) λk hk hk' v hv => ?_
 have hx:=List.getElem_mem hk
 have:=y42 hx
 have:=@y8s a.items[k]
 have l2:∀c,Ev (λn=>z0b n (k:Int) (!c) b a) (if c=true then v else false):=λc=>by
  cases c
  ·rw [zl8,Ev.yz1 (by rfl),Ev.kz0];rfl
  ·rw [zl8,Ev.kz1 (by rfl),wrk (by omega)];exact hv
 rw [zl6,Ev.yz1 (by simpa using hk),Ev.kz2 (yz6 hk),Ev.kz2 (yz6 hk'),z01a,yty]
 cases h1:eqB a.items[k].kind b.items[k].kind
 ·exact l2 false
 rw [Ev.kz1 (by rfl),Ev.kz2 (yz6 hk),Ev.kz2 (yz6 hk'),y4p]
 cases h2:eqB a.items[k].name b.items[k].name
 ·exact l2 false
 rw [Ev.kz1 (by rfl),Ev.kz2 (yz6 hk),Ev.kz2 (yz6 hk'),Ev.yz0 (ydv (by omega))]
 exact l2 _
theorem yw9 {a b:kz5} (hs:a.size<=8000000):Ev (λn=>z8l n a b) (eqB a b):=by
 have:=@y7x a
 have:=@zuf a
 have hz:Ev (λn=>z0w n true b a) false:=by rw [zng,Ev.yz1 rfl,Ev.kz0]
 rw [y21,z016,yty,zz1.yz5,zz1.yz5,kz5.yz5,kz5.yz5,yty]
 refine andN hz λ_ => ?_
 rw [Ev.yz0 (zwk _ _ (by omega))]
 refine andN hz λ_ => ?_
 by_cases hl:a.do_.length=b.do_.length
 case neg=>simp only [lenF hl,neqB hl,Bool.false_and];exact hz
 rw [lenT hl,zng,Ev.kz1 (by rfl),kz5.yz5,kz5.yz5]
 rw [<-ifB (eqB a.do_ b.do_)]
 refine y20 (L:=λn k=>z2c n k b a) hl (by rw [znf,Ev.kz1 (by simp),Ev.kz0]) λk hk hk' v hv => ?_
 have hx:=List.getElem_mem hk
 have:=zwz hx
 rw [znf,Ev.yz1 (by simpa using hk),Ev.kz2 (yz6 hk),Ev.kz2 (yz6 hk'),Ev.yz0 (ykd (by omega))]
 cases h1:eqB a.do_[k] b.do_[k]
 ·rw [Ev.yz1 (by rfl),Ev.kz0];rfl
 ·rw [Ev.kz1 (by rfl),wrk (by omega),kz5.yz5,kz5.yz5];exact hv
theorem y80 {a b:kz4} (hs:a.size<=8000000):Ev (λn=>z8z n a b) (eqB a b):=by
 have:=@zxy a
 have:=@zv7 a
 have hz:Ev (λn=>z0z n true b a) false:=by rw [znk,Ev.yz1 rfl,Ev.kz0]
 rw [y27,z015,y4p,yty,yty]
 refine andN hz λ_ => ?_
 by_cases hl:a.params.length=b.params.length
 case neg=>simp only [lenF hl,neqB hl,Bool.false_and];exact hz
 rw [lenT hl,Ev.kz1 (by rfl)]
 by_cases hm:a.cases.length=b.cases.length
 case neg=>rw [lenF hm,neqB hm,Bool.and_false];exact hz
 rw [lenT hm,znk,Ev.kz1 (by rfl)]
 have e:(eqB a.params b.params&&eqB a.cases b.cases)=if eqB a.params b.params=true then eqB a.cases b.cases else false:=by cases eqB a.params b.params <;> rfl
 rw [e]
 refine y20 (L:=λn k=>z2b n k b a) hl ?_ λk hk hk' v hv => ?_
 ·rw [znb,Ev.kz1 (by simp),<-ifB (eqB a.cases b.cases)]
  refine y20 (L:=λn k=>z29 n k b a) hm (by rw [znd,Ev.kz1 (by simp),Ev.kz0]) λk hk hk' v hv => ?_
  have:=zsk (List.getElem_mem hk)
  rw [znd,Ev.yz1 (by simpa using hk),Ev.kz2 (yz6 hk),Ev.kz2 (yz6 hk'),kz5.yz5,kz5.yz5,Ev.yz0 (yw9 (by omega))]
  cases h1:eqB a.cases[k] b.cases[k]
  ·rw [Ev.yz1 (by rfl),Ev.kz0];rfl
  ·rw [Ev.kz1 (by rfl),wrk (by omega)];exact hv
 ·rw [znb,Ev.yz1 (by simpa using hk),Ev.kz2 (yz6 hk),Ev.kz2 (yz6 hk'),y4p]
  cases h1:eqB a.params[k] b.params[k]
  ·rw [Ev.yz1 (by rfl),Ev.kz0];rfl
  ·rw [Ev.kz1 (by rfl),wrk (by omega)];exact hv
end Go.Proofs.YtahcjggdcmgpkaaGreat
namespace Go.Proofs.YtahcjggdcmgpkaaGreat
open Go Go.Ab
set_option linter.unusedVariables false
set_option linter.unusedSimpArgs false
theorem yx9 {c:kz5} (hs:c.size<=8000000):∃b,Ev (λn=>z7q n c) b:=by
 have:=@y7x c
 have:=@zuf c
 have list:∀l:List zz1,Ev (λn=>z05 n l) (z34 l):=λl=>by rw [zk2,Ev.kz0];rfl
 have l1:∃b,Ev (λn=>z0x n 0 c) b:=by
  refine zua (L:=λn k=>z0x n k c) (len:=c.do_.length) ⟨false,by rw [zn9,Ev.kz1 (by simp),Ev.kz0]⟩ λk hk v hv => ?_
  have ha:=List.getElem_mem hk
  have hsa:=zwz ha
  have:=@y7y c.do_[k]
  have:=@zyv c.do_[k]
  have l3:∃b,Ev (λn=>z0y n 0 (k:Int) c) b:=by
   refine zua (L:=λn j=>z0y n j (k:Int) c) (len:=c.do_[k].items.length) ⟨v,by rw [zn8,Ev.kz2 (yz6 hk),Ev.kz1 (by simp),wrk (by omega),kz5.yz5];exact hv⟩ λj hj w hw => ?_
   have:=y42 (List.getElem_mem hj)
   have:=@y8s c.do_[k].items[j]
   have l4:∀b,∃d,Ev (λn=>z1y n (k:Int) (j:Int) b c) d:=λb=>by
    cases b
    ·exact ⟨w,by rw [znc,Ev.kz1 (by rfl),wrk (by omega),kz5.yz5];exact hw⟩
    ·exact ⟨true,by rw [znc,Ev.yz1 (by rfl),Ev.kz0]⟩
   obtain ⟨g,hg⟩:=zro (e:=z34 c.do_[k].items[j].args) (by rw [zhe];omega)
   simp only [zn8,Ev.kz2 (yz6 hk)]
   simp only [Ev.yz1 (show decide ((j:Int)<(c.do_[k].items.length:Int))=true by simpa using hj),Ev.kz2 (yz6 hk),Ev.kz2 (yz6 hj),Ev.yz0 (list _),zz1.yz5,kz5.yz5,Ev.yz0 hg,Ev.pif]
   split <;> exact l4 _
  have l2:∀b,∃d,Ev (λn=>z0v n (k:Int) b c) d:=λb=>by
   cases b
   ·obtain ⟨d,hd⟩:=l3;exact ⟨d,by rw [znj,Ev.kz1 (by rfl),kz5.yz5];exact hd⟩
   ·exact ⟨true,by rw [znj,Ev.yz1 (by rfl),Ev.kz0]⟩
  obtain ⟨g,hg⟩:=zro (e:=z34 c.do_[k].args) (by rw [zhe];omega)
  simp only [zn9,Ev.yz1 (show decide ((k:Int)<(c.do_.length:Int))=true by simpa using hk),Ev.kz2 (yz6 hk),Ev.yz0 (list _),zz1.yz5,kz5.yz5,Ev.yz0 hg,Ev.pif]
  split
  ·exact l2 _
  ·split <;> exact l2 _
 have l0:∀b,∃d,Ev (λn=>z1z n b c) d:=λb=>by
  cases b
  ·obtain ⟨d,hd⟩:=l1;exact ⟨d,by rw [zna,Ev.kz1 (by rfl),kz5.yz5];exact hd⟩
  ·exact ⟨true,by rw [zna,Ev.yz1 (by rfl),Ev.kz0]⟩
 obtain ⟨g,hg⟩:=zro (e:=c.when_) (by omega)
 simp only [y2s,Ev.pif,kz5.yz5,zz1.yz5,Ev.yz0 hg]
 split <;> exact l0 _
theorem z07e {p:zz0} (hs:p.size<=8000000):∃b,Ev (λn=>zc1 n p) b:=by
 have:=@zju p
 have:=@zek p
 have l3:∃b,Ev (λn=>z3u n 0 p) b:=by
  refine zua (L:=λn k=>z3u n k p) (len:=p.rules.length) ⟨false,by rw [zsc,Ev.kz1 (by simp),Ev.kz0]⟩ λk hk v hv => ?_
  have hsa:=zne (List.getElem_mem hk)
  have:=@zxy p.rules[k]
  have:=@zv7 p.rules[k]
  have l6:∃b,Ev (λn=>z41 n 0 (k:Int) p.rules[k] p) b:=by
   refine zua (L:=λn j=>z41 n j (k:Int) p.rules[k] p) (len:=p.rules[k].cases.length) ⟨v,by rw [zsn,Ev.kz1 (by simp),wrk (by omega)];exact hv⟩ λj hj w hw => ?_
   obtain ⟨g,hg⟩:=yx9 (c:=p.rules[k].cases[j]) (by have:=zsk (List.getElem_mem hj);omega)
   simp only [zsn (a0:=(j:Int)),Ev.yz1 (show decide ((j:Int)<(p.rules[k].cases.length:Int))=true by simpa using hj),Ev.kz2 (yz6 hj),kz5.yz5,Ev.yz0 hg]
   simp only [Ev.pif]
   split
   ·exact ⟨true,Ev.pure rfl⟩
   ·exact ⟨w,by rw [wrk (by omega)];exact hw⟩
  have l5:∃b,Ev (λn=>z3z n 0 (k:Int) p.rules[k] p) b:=by
   obtain ⟨d,hd⟩:=l6
   refine zua (L:=λn j=>z3z n j (k:Int) p.rules[k] p) (len:=p.rules[k].params.length) ⟨d,by rw [zs4,Ev.kz1 (by simp)];exact hd⟩ λj hj w hw => ?_
   simp only [zs4 (a0:=(j:Int)),Ev.yz1 (show decide ((j:Int)<(p.rules[k].params.length:Int))=true by simpa using hj),Ev.kz2 (yz6 hj),Ev.pif]
   split
   ·exact ⟨true,Ev.pure rfl⟩
   ·exact ⟨w,by rw [wrk (by omega)];exact hw⟩
  have l4:∀b,∃d,Ev (λn=>z3r n (k:Int) b p.rules[k] p) d:=λb=>by
   cases b
   ·obtain ⟨d,hd⟩:=l5;exact ⟨d,by rw [zs8,Ev.kz1 (by rfl)];exact hd⟩
   ·exact ⟨true,by rw [zs8,Ev.yz1 (by rfl),Ev.kz0]⟩
  simp only [zsc,Ev.yz1 (show decide ((k:Int)<(p.rules.length:Int))=true by simpa using hk),Ev.kz2 (yz6 hk),Ev.pif]
  split
  ·exact l4 _
  ·split <;> exact l4 _
 have l1:∃b,Ev (λn=>z3y n 0 p) b:=by
  obtain ⟨d,hd⟩:=l3
  refine zua (L:=λn k=>z3y n k p) (len:=p.attrs.length) ⟨d,by rw [zrn,Ev.kz1 (by simp)];exact hd⟩ λk hk v hv => ?_
  have:=zx0 (List.getElem_mem hk)
  have:=@zx6 p.attrs[k]
  have l2:∀b,∃d,Ev (λn=>z6y n (k:Int) b p) d:=λb=>by
   cases b
   ·exact ⟨v,by rw [zta,Ev.kz1 (by rfl),wrk (by omega)];exact hv⟩
   ·exact ⟨true,by rw [zta,Ev.yz1 (by rfl),Ev.kz0]⟩
  obtain ⟨g,hg⟩:=zro (e:=p.attrs[k].value) (by omega)
  simp only [zrn,Ev.yz1 (show decide ((k:Int)<(p.attrs.length:Int))=true by simpa using hk),Ev.kz2 (yz6 hk),zz1.yz5,Ev.yz0 hg,Ev.pif]
  split <;> exact l2 _
 have l0:∀b,∃d,Ev (λn=>z6l n b p) d:=λb=>by
  cases b
  ·obtain ⟨d,hd⟩:=l1;exact ⟨d,by rw [zsp,Ev.kz1 (by rfl)];exact hd⟩
  ·exact ⟨true,by rw [zsp,Ev.yz1 (by rfl),Ev.kz0]⟩
 simp only [ygo,Ev.pif]
 split <;> exact l0 _
def y2h (c:kz5):Bool:=decide (10<c.do_.length)||c.do_.any λa=>decide (10<a.items.length)
def y1w (r:kz4):Bool:=decide (4<r.params.length)||(decide (6<r.cases.length)||r.cases.any y2h)
def y4e (p:zz0):Bool:=decide (20<p.attrs.length)||(decide (40<p.rules.length)||p.rules.any y1w)
theorem gt4 {k:Nat}:decide ((k:Int)>4)=decide (4<k):=decide_eq_decide.2 (by omega)
theorem gt6 {k:Nat}:decide ((k:Int)>6)=decide (6<k):=decide_eq_decide.2 (by omega)
theorem gt10 {k:Nat}:decide ((k:Int)>10)=decide (10<k):=decide_eq_decide.2 (by omega)
theorem gt20 {k:Nat}:decide ((k:Int)>20)=decide (20<k):=decide_eq_decide.2 (by omega)
theorem gt40 {k:Nat}:decide ((k:Int)>40)=decide (40<k):=decide_eq_decide.2 (by omega)
theorem orB {c d:Bool} {γ:Type} {x y:γ}:(if (c||d)=true then x else y)=if c=true then x else if d=true then x else y:=by cases c <;> rfl
theorem yyc {p:zz0} (hs:p.size<=8000000):Ev (λn=>zg1 n p) (y4e p):=by
 have:=@zju p
 have:=@zek p
 have l1:Ev (λn=>z5f n 0 p.rules (p.rules.length:Int)) (if p.rules.any y1w=true then true else false):=by
  refine zgm (L:=λn k=>z5f n k p.rules (p.rules.length:Int)) (by rw [zu7,Ev.kz1 (by simp),Ev.kz0]) λk hk v hv => ?_
  have:=zne (List.getElem_mem hk)
  have:=@zxy p.rules[k]
  have:=@zv7 p.rules[k]
  have l3:Ev (λn=>z5e n 0 p.rules[k].cases p.rules (p.rules.length:Int) (k:Int) (p.rules[k].cases.length:Int)) (if p.rules[k].cases.any y2h=true then true else v):=by
   refine zgm (L:=λn j=>z5e n j p.rules[k].cases p.rules (p.rules.length:Int) (k:Int) (p.rules[k].cases.length:Int)) (by rw [zul,Ev.kz1 (by simp),wrk (by omega)];exact hv) λj hj w hw => ?_
   have:=zsk (List.getElem_mem hj)
   have:=@zuf p.rules[k].cases[j]
   have l4:∀b,Ev (λn=>z7m n p.rules[k].cases p.rules (p.rules.length:Int) (k:Int) (p.rules[k].cases.length:Int) (j:Int) b) (if b=true then true else w):=λb=>by
    cases b
    ·rw [zvj,Ev.kz1 (by rfl),wrk (by omega)];exact hw
    ·rw [zvj,Ev.yz1 (by rfl),Ev.kz0];rfl
   obtain ⟨i,h1,h2⟩:=y5o (S:=λn x=>zc8 n x) (l:=p.rules[k].cases[j].do_) (p:=λa=>decide (10<a.items.length)) (L:=λn k l m=>yzg n k l m) (λn k=>yzg.eq_2 _ _ _ n) (by omega) λx hx=>by
    rw [yb2,Ev.kz0];exact gt10
   have hc:Ev (λn=>zzg n p.rules[k].cases[j].do_) (p.rules[k].cases[j].do_.any λa=>decide (10<a.items.length)):=by
    rw [ze4,Ev.yz0 (by rw [zfq];exact h1),Ev.kz0,h2]
   rw [zul,Ev.yz1 (by simpa using hj),Ev.kz2 (yz6 hj),y2h,orB,Ev.pif,gt10]
   split
   ·exact l4 true
   ·rw [Ev.yz0 hc];exact l4 _
  have l2:∀b,Ev (λn=>z86 n p.rules (p.rules.length:Int) (k:Int) b p.rules[k]) (if b=true then true else if p.rules[k].cases.any y2h=true then true else v):=λb=>by
   cases b
   ·rw [zvs,Ev.kz1 (by rfl)];exact l3
   ·rw [zvs,Ev.yz1 (by rfl),Ev.kz0];rfl
  rw [zu7,Ev.yz1 (by simpa using hk),Ev.kz2 (yz6 hk),y1w,orB,orB,Ev.pif,gt4,gt6]
  split
  ·exact l2 true
  ·exact l2 _
 have l0:∀b,Ev (λn=>z7x n b p) (b||p.rules.any y1w):=λb=>by
  cases b
  ·rw [zvn,Ev.kz1 (by rfl),ifB] at *;exact l1
  ·rw [zvn,Ev.yz1 (by rfl),Ev.kz0];rfl
 rw [ykt,Ev.pif,gt20,gt40,y4e]
 split
 ·rename_i h;rw [h];exact l0 true
 ·rename_i h;simp only [h,Bool.false_or];exact l0 _
theorem yys {p:zz0} (hs:p.size<=8000000):Ev (λn=>zfz n p) (y4e p):=by
 have:=@zju p
 have:=@zek p
 have l1:Ev (λn=>z5b n 0 p) (if p.rules.any y1w=true then true else false):=by
  refine zgm (L:=λn k=>z5b n k p) (by rw [zut,Ev.kz1 (by simp),Ev.kz0]) λk hk v hv => ?_
  have:=zne (List.getElem_mem hk)
  have:=@zxy p.rules[k]
  have:=@zv7 p.rules[k]
  have l3:Ev (λn=>z5d n 0 (k:Int) p.rules[k] p) (if p.rules[k].cases.any y2h=true then true else v):=by
   refine zgm (L:=λn j=>z5d n j (k:Int) p.rules[k] p) (by rw [zu2,Ev.kz1 (by simp),wrk (by omega)];exact hv) λj hj w hw => ?_
   have:=zsk (List.getElem_mem hj)
   have:=@zuf p.rules[k].cases[j]
   have l4:Ev (λn=>z55 n 0 (j:Int) (k:Int) p.rules[k] p) (if (p.rules[k].cases[j].do_.any λa=>decide (10<a.items.length))=true then true else w):=by
    refine zgm (L:=λn i=>z55 n i (j:Int) (k:Int) p.rules[k] p) (by rw [zv1,Ev.kz2 (yz6 hj),Ev.kz1 (by simp),wrk (by omega)];exact hw) λi hi u hu => ?_
    rw [zv1,Ev.kz2 (yz6 hj),Ev.yz1 (by simpa using hi),Ev.kz2 (yz6 hj),Ev.kz2 (yz6 hi),Ev.pif,gt10,wrk (by omega),Ev.kz0]
    split
    ·rfl
    ·exact hu
   rw [zu2,Ev.yz1 (by simpa using hj),Ev.kz2 (yz6 hj),y2h,orB,Ev.pif,gt10]
   split
   ·exact Ev.pure rfl
   ·exact l4
  have l2:∀b,Ev (λn=>z8p n (k:Int) b p.rules[k] p) (if b=true then true else if p.rules[k].cases.any y2h=true then true else v):=λb=>by
   cases b
   ·rw [zvv,Ev.kz1 (by rfl)];exact l3
   ·rw [zvv,Ev.yz1 (by rfl),Ev.kz0];rfl
  rw [zut,Ev.yz1 (by simpa using hk),Ev.kz2 (yz6 hk),y1w,orB,orB,Ev.pif,gt4,gt6]
  split
  ·exact l2 true
  ·exact l2 _
 have l0:∀b,Ev (λn=>z7n n b p) (b||p.rules.any y1w):=λb=>by
  cases b
  ·rw [zun,Ev.kz1 (by rfl),ifB] at *;exact l1
  ·rw [zun,Ev.yz1 (by rfl),Ev.kz0];rfl
 rw [yj3,Ev.pif,gt20,gt40,y4e]
 split
 ·rename_i h;rw [h];exact l0 true
 ·rename_i h;simp only [h,Bool.false_or];exact l0 _
end Go.Proofs.YtahcjggdcmgpkaaGreat
namespace Go.Proofs.YtahcjggdcmgpkaaGreat
open Go Go.Ab
set_option linter.unusedVariables false
set_option linter.unusedSimpArgs false
def kept:List (List UInt8):=[[116,114,117,101],[102,97,108,115,101],[115,120],[115,121],[115,122]]
def zen (s:List UInt8):Bool:=zos s && !(kept.any λx=>s==x)
theorem zof {s:List UInt8} (hs:s.length<=8388608):Ev (λn=>z4e n s) (zen s):=by
 obtain ⟨i,h1,h2⟩:=y5o (S:=λn x=>some (s==x)) (l:=kept) (p:=λx=>s==x) (L:=λn k l m=>yzi n k l s m) (λn k=>yzi.eq_2 _ _ _ _ n) (by decide) λx hx=>Ev.pure rfl
 have hc:Ev (λn=>yzw n kept s) (kept.any λx=>s==x):=by
  rw [zlw,Ev.yz0 (by rw [zf0];exact h1),Ev.kz0,h2]
 rw [yfs,Ev.yz0 (ycz hs),zen]
 refine y0l λ_ => ?_
 exact (Ev.yz0 hc).2 (Ev.pure rfl)
theorem zqt {s:List UInt8} (hs:s.length<=8388608):Ev (λn=>z5n n s) (zen s):=by
 have h1:Ev (λn=>zci n s) ((s==[115,120])||((s==[115,121])||(s==[115,122]))):=by
  rw [y9n,Ev.pif]
  split
  ·rename_i h;rw [h];exact Ev.pure rfl
  ·rename_i h;rw [Ev.pif];simp only [h,Bool.false_or];split
   ·rename_i h;rw [h];exact Ev.pure rfl
   ·rename_i h;simp only [h,Bool.false_or];exact Ev.pure rfl
 have e:zen s=(zos s&&(!(s==[116,114,117,101])&&(!(s==[102,97,108,115,101]) && !((s==[115,120])||((s==[115,121])||(s==[115,122])))))):=by
  simp only [zen,kept,List.any_cons,List.any_nil,Bool.or_false,Bool.not_or]
 rw [yld,Ev.yz0 (ygc hs),e]
 refine y0l λ_=>y0l λ_=>y0l λ_ => ?_
 rw [Ev.yz0 h1,Ev.kz0]
theorem ymz:zen []=false:=rfl
theorem yxl {α:Type} {l:List α}:decide ((l.length:Int)>0) = !l.isEmpty:=by cases l <;> simp
theorem sc_t {α:Type} {k:Int} {l:List α} (h:¬(k=5↔l≠[])):(!((k==5)==decide ((l.length:Int)>0)))=true:=by
 rw [yxl];cases l <;> by_cases q:k=5 <;> simp_all
theorem sc_f {α:Type} {k:Int} {l:List α} (h:k=5↔l≠[]):(!((k==5)==decide ((l.length:Int)>0)))=false:=by
 rw [yxl];cases l <;> by_cases q:k=5 <;> simp_all
def own (k:Int):Int:=if k=2∨k=3 then 3 else if k=4∨k=6 then 1 else 0
theorem y6y {k:Int}:Ev (λn=>zcp n k) (own k):=by
 have l1:∀b,Ev (λn=>zaa n b) (if b=true then 1 else 0):=λb=>by cases b <;> rw [y9u] <;> exact Ev.pure rfl
 have l0:∀b,Ev (λn=>zaq n k b) (if b=true then 3 else if k=4∨k=6 then 1 else 0):=λb=>by
  rw [yay,Ev.pif]
  split
  ·exact Ev.pure rfl
  ·rw [Ev.pif]
   split
   ·rename_i h;rw [if_pos (.inl (by simpa using h))];exact l1 true
   ·rename_i h
    have h:k≠4:=by simpa using h
    refine (l1 _).to ?_
    by_cases q:k=6 <;> simp [q,h]
 rw [yo6,Ev.pif,own]
 split
 ·rename_i h;rw [if_pos (.inl (by simpa using h))];exact l0 true
 ·rename_i h
  have h:k≠2:=by simpa using h
  refine (l0 _).to ?_
  by_cases q:k=3 <;> simp [q,h]
theorem yn2 {k:Int}:Ev (λn=>zfn n k) (own k):=by
 have l1:∀b,Ev (λn=>zam n b) (if b=true then 1 else 0):=λb=>by cases b <;> rw [yac] <;> exact Ev.pure rfl
 have l0:∀b,Ev (λn=>za5 n k b) (if b=true then 3 else if k=4∨k=6 then 1 else 0):=λb=>by
  rw [yaj,Ev.pif]
  split
  ·exact Ev.pure rfl
  ·rw [Ev.pif]
   split
   ·rename_i h;rw [if_pos (.inl (by simpa using h))];exact l1 true
   ·rename_i h
    have h:k≠4:=by simpa using h
    refine (l1 _).to ?_
    by_cases q:k=6 <;> simp [q,h]
 rw [yoh,Ev.pif,own]
 split
 ·rename_i h;rw [if_pos (.inl (by simpa using h))];exact l0 true
 ·rename_i h
  have h:k≠2:=by simpa using h
  refine (l0 _).to ?_
  by_cases q:k=3 <;> simp [q,h]
noncomputable def y8o (x:yza):Bool:=decide (1<=x.kind)&&(decide (x.kind<=3)&&(zen x.name&&(!x.args.isEmpty&&(z3n (z34 x.args)==0))))
def RAct (a:zz3):Prop:=(1<=a.kind∧a.kind<=6)∧(a.axis<=if a.kind=4∨a.kind=5 then 2 else 0)∧(if a.kind<=4 then zen a.name=true else a.name=[])∧z3n (z34 a.args)=0∧(own a.kind<=a.args.length)∧(4<a.kind->(a.args.length:Int)=own a.kind)∧(a.kind=5↔a.items≠[])∧a.items.all y8o=true
noncomputable def z5i (a:zz3):Bool:=@decide (RAct a) (Classical.propDecidable _)
theorem zti {a:zz3}:z5i a=true↔RAct a:=@decide_eq_true_iff _ (Classical.propDecidable _)
theorem zch {a:zz3} (h:¬RAct a):z5i a=false:=@decide_eq_false _ (Classical.propDecidable _) h
theorem ynn {l:List zz1} (hw:(z34 l).wf) (hs:(l.map zz1.size).sum<=8000000):Ev (λn=>z48 n (z34 l)) (z3n (z34 l)):=zwm hw (by rw [zhe];omega)
theorem neI {k:Int}:(k != 0) = !(k==0):=rfl
theorem yyo {a:zz3} (hw:a.wf) (hs:a.size<=8000000):Ev (λn=>z7b n a) (z5i a):=by
 have:=@y7y a
 have:=@zyv a
 have:=@z07j a
 have list:∀l:List zz1,Ev (λn=>zdr n l) (z34 l):=λl=>by rw [yh4,Ev.kz0];rfl
 obtain ⟨⟨hk0,hk1⟩,hx0,hx1⟩:=z077 hw
 have l6:Ev (λn=>z0o n 0 a.items (a.items.length:Int)) (if a.items.all y8o=true then true else false):=by
  refine zdx (L:=λn k=>z0o n k a.items (a.items.length:Int)) (by rw [zm0,Ev.kz1 (by simp),Ev.kz0]) λk hk v hv => ?_
  have hx:=List.getElem_mem hk
  have:=y42 hx
  have:=@y8s a.items[k]
  have:=@z07i a.items[k]
  have l7:∀b,Ev (λn=>yzu n a.items (a.items.length:Int) (k:Int) (!b)) (if b=true then v else false):=λb=>by
   cases b
   ·rw [zmy,Ev.yz1 (by rfl),Ev.kz0];rfl
   ·rw [zmy,Ev.kz1 (by rfl),wrk (by omega)];exact hv
  rw [zm0,Ev.yz1 (by simpa using hk),Ev.kz2 (yz6 hk),y8o]
  generalize a.items[k]=x at *
  by_cases h1:1<=x.kind
  case neg=>rw [Ev.yz1 (by simp;omega),decide_eq_false h1];exact l7 false
  rw [Ev.kz1 (by simp;omega),decide_eq_true h1]
  by_cases h2:x.kind<=3
  case neg=>rw [Ev.yz1 (by simp;omega),decide_eq_false h2];exact l7 false
  rw [Ev.kz1 (by simp;omega),decide_eq_true h2,Ev.yz0 (zof (by omega))]
  cases h3:zen x.name
  ·exact l7 false
  rw [Ev.kz1 (by rfl)]
  cases h4:x.args.isEmpty
  case true=>rw [Ev.yz1 (by rw [List.isEmpty_iff.1 h4];rfl)];exact l7 false
  have h4':x.args≠[]:=by intro h;rw [h] at h4;cases h4
  have h4':x.args.length≠0:=by intro h;exact h4' (List.length_eq_zero_iff.1 h)
  rw [Ev.kz1 (by simpa using h4'),Ev.yz0 (list _),zz1.yz5,Ev.yz0 (ynn (wf_xa (z07g hw hx)) (by omega)),neI]
  exact l7 _
 have l5:∀b,(b=false->((1<=a.kind∧a.kind<=6)∧(a.axis<=if a.kind=4∨a.kind=5 then 2 else 0)∧(if a.kind<=4 then zen a.name=true else a.name=[])∧z3n (z34 a.args)=0∧(own a.kind<=a.args.length)∧(4<a.kind->(a.args.length:Int)=own a.kind)))->(b=true->¬RAct a)->Ev (λn=>kzz n b a) (z5i a):=λb hf ht=>by
  cases b
  case true=>rw [zmn,Ev.yz1 (by rfl),Ev.kz0,zch (ht rfl)]
  obtain ⟨g1,g2,g3,g4,g5,g6⟩:=hf rfl
  rw [zmn,Ev.kz1 (by rfl)]
  by_cases h:a.kind=5↔a.items≠[]
  case neg =>
   rw [Ev.yz1 (sc_t h),Ev.kz0,zch (λq=>h q.2.2.2.2.2.2.1)]
  rw [Ev.kz1 (sc_f h)]
  refine l6.to ?_
  by_cases q:a.items.all y8o=true
  ·rw [if_pos q,zti.2 ⟨g1,g2,g3,g4,g5,g6,h,q⟩]
  ·rw [if_neg q,zch (λz=>q z.2.2.2.2.2.2.2)]
 have l4:∀c:Bool,(c=decide (1<=a.kind∧a.kind<=4))->((1<=a.kind∧a.kind<=6)∧(a.axis<=if a.kind=4∨a.kind=5 then 2 else 0))->∀b,(b=false->(if a.kind<=4 then zen a.name=true else a.name=[]))->(b=true->¬RAct a)->Ev (λn=>z0m n c b a) (z5i a):=λc hc hg b hf ht=>by
  cases b
  case true=>rw [zm8,Ev.yz1 (by rfl),Ev.kz0,zch (ht rfl)]
  have g3:=hf rfl
  rw [zm8,Ev.kz1 (by rfl),Ev.yz0 (list _),zz1.yz5,Ev.yz0 (ynn (wf_aa hw) (by omega))]
  by_cases h1:z3n (z34 a.args)=0
  case neg=>rw [Ev.yz1 (by simpa using h1)];exact l5 true (λh=>by cases h) λ_ q=>h1 q.2.2.2.1
  rw [Ev.kz1 (by simpa using h1),Ev.yz0 y6y]
  by_cases h2:own a.kind<=a.args.length
  case neg=>rw [Ev.yz1 (by simp;omega)];exact l5 true (λh=>by cases h) λ_ q=>h2 q.2.2.2.2.1
  rw [Ev.kz1 (by simp;omega)]
  cases hcc:c
  ·rw [Ev.yz1 (by rfl),Ev.yz0 y6y]
   have hk4:4<a.kind:=by rw [hcc] at hc;have:=of_decide_eq_false hc.symm;omega
   refine l5 _ (λh=>⟨hg.1,hg.2,g3,h1,h2,λ_=>by simpa using h⟩) λh q => ?_
   have:=q.2.2.2.2.2.1 hk4
   simp [this] at h
  ·rw [Ev.kz1 (by rfl)]
   have hk4:a.kind<=4:=by rw [hcc] at hc;have:=of_decide_eq_true hc.symm;omega
   exact l5 _ (λh=>⟨hg.1,hg.2,g3,h1,h2,λh=>by omega⟩) λh=>by cases h
 have l3:∀c:Bool,(c=decide (1<=a.kind∧a.kind<=4))->∀b,(b=false->((1<=a.kind∧a.kind<=6)∧(a.axis<=if a.kind=4∨a.kind=5 then 2 else 0)))->(b=true->¬RAct a)->Ev (λn=>z0n n c b a) (z5i a):=λc hc b hf ht=>by
  cases b
  case true=>rw [zmt,Ev.yz1 (by rfl),Ev.kz0,zch (ht rfl)]
  have hg:=hf rfl
  rw [zmt,Ev.kz1 (by rfl),Ev.yz0 (zof (by omega))]
  by_cases hk4:a.kind<=4
  ·rw [decide_eq_true (by omega)] at hc
   subst hc
   cases hn:zen a.name
   ·exact l4 true (by rw [decide_eq_true (by omega)]) hg true (λh=>by cases h) λ_ q=>by have:=q.2.2.1;rw [if_pos hk4,hn] at this;cases this
   ·exact l4 true (by rw [decide_eq_true (by omega)]) hg false (λ_=>by rw [if_pos hk4,hn]) λh=>by cases h
  ·rw [decide_eq_false (by omega)] at hc
   subst hc
   cases hn:zen a.name
   ·rw [Ev.kz1 (by rfl),Ev.yz1 (by rfl)]
    refine l4 false (by rw [decide_eq_false (by omega)]) hg _ (λh=>by rw [if_neg hk4];simpa using h) λh q => ?_
    have:=q.2.2.1
    rw [if_neg hk4] at this
    rw [this] at h;cases h
   ·exact l4 false (by rw [decide_eq_false (by omega)]) hg true (λh=>by cases h) λ_ q=>by
     have:=q.2.2.1
     rw [if_neg hk4] at this
     rw [this,ymz] at hn;cases hn
 have l2:∀c:Bool,(c=decide (1<=a.kind∧a.kind<=4))->∀x:Int,x=(if a.kind=4∨a.kind=5 then 2 else 0)->Ev (λn=>z1h n c x a) (z5i a):=λc hc x hx=>by
  rw [zwh]
  by_cases h1:1<=a.kind
  case neg=>rw [Ev.yz1 (by simp;omega)];exact l3 c hc true (λh=>by cases h) λ_ q=>h1 q.1.1
  rw [Ev.kz1 (by simp;omega)]
  by_cases h2:a.kind<=6
  case neg=>rw [Ev.yz1 (by simp;omega)];exact l3 c hc true (λh=>by cases h) λ_ q=>h2 q.1.2
  rw [Ev.kz1 (by simp;omega),hx]
  refine l3 c hc _ (λh=>⟨⟨h1,h2⟩,by have:=of_decide_eq_false h;omega⟩) λh q => ?_
  have:=of_decide_eq_true h
  have:=q.2.1
  omega
 have l1:∀c:Bool,(c=decide (1<=a.kind∧a.kind<=4))->∀b:Bool,b=decide (a.kind=4∨a.kind=5)->Ev (λn=>z1i n c 0 b a) (z5i a):=λc hc b hb=>by
  rw [zw7]
  by_cases h:a.kind=4∨a.kind=5
  ·rw [hb,decide_eq_true h,Ev.yz1 rfl];exact l2 c hc _ (by rw [if_pos h])
  ·rw [hb,decide_eq_false h,Ev.kz1 rfl];exact l2 c hc _ (by rw [if_neg h])
 have l0:∀c:Bool,(c=decide (1<=a.kind∧a.kind<=4))->Ev (λn=>z1j n c a) (z5i a):=λc hc=>by
  rw [zwd]
  by_cases h:a.kind=4
  ·rw [Ev.yz1 (by simpa using h)];exact l1 c hc true (by rw [decide_eq_true (.inl h)])
  ·rw [Ev.kz1 (by simpa using h)];exact l1 c hc _ (by by_cases q:a.kind=5 <;> simp [q,h])
 rw [y0k]
 by_cases h:1<=a.kind
 ·rw [Ev.yz1 (by simpa using h)];exact l0 _ (by simp [h])
 ·rw [Ev.kz1 (by simpa using h)];exact l0 _ (by simp [h])
theorem yyb {a:zz3} (hw:a.wf) (hs:a.size<=8000000):Ev (λn=>zc7 n a) (z5i a):=by
 have:=@y7y a
 have:=@zyv a
 have:=@z07j a
 have list:∀l:List zz1,Ev (λn=>z05 n l) (z34 l):=λl=>by rw [zk2,Ev.kz0];rfl
 obtain ⟨⟨hk0,hk1⟩,hx0,hx1⟩:=z077 hw
 have l6:Ev (λn=>z2u n 0 a) (if a.items.all y8o=true then true else false):=by
  refine zdx (L:=λn k=>z2u n k a) (by rw [zpy,Ev.kz1 (by simp),Ev.kz0]) λk hk v hv => ?_
  have hx:=List.getElem_mem hk
  have:=y42 hx
  have:=@y8s a.items[k]
  have:=@z07i a.items[k]
  have l7:∀b,Ev (λn=>z0s n (k:Int) (!b) a) (if b=true then v else false):=λb=>by
   cases b
   ·rw [zqw,Ev.yz1 (by rfl),Ev.kz0];rfl
   ·rw [zqw,Ev.kz1 (by rfl),wrk (by omega)];exact hv
  rw [zpy,Ev.yz1 (by simpa using hk),Ev.kz2 (yz6 hk),y8o]
  generalize a.items[k]=x at *
  by_cases h1:1<=x.kind
  case neg=>rw [Ev.yz1 (by simp;omega),decide_eq_false h1];exact l7 false
  rw [Ev.kz1 (by simp;omega),decide_eq_true h1]
  by_cases h2:x.kind<=3
  case neg=>rw [Ev.yz1 (by simp;omega),decide_eq_false h2];exact l7 false
  rw [Ev.kz1 (by simp;omega),decide_eq_true h2,Ev.yz0 (zqt (by omega))]
  cases h3:zen x.name
  ·exact l7 false
  rw [Ev.kz1 (by rfl)]
  cases h4:x.args.isEmpty
  case true=>rw [Ev.yz1 (by rw [List.isEmpty_iff.1 h4];rfl)];exact l7 false
  have h4':x.args≠[]:=by intro h;rw [h] at h4;cases h4
  have h4':x.args.length≠0:=by intro h;exact h4' (List.length_eq_zero_iff.1 h)
  rw [Ev.kz1 (by simpa using h4'),Ev.yz0 (list _),zz1.yz5,Ev.yz0 (zl4 (by rw [zhe];omega)),neI]
  exact l7 _
 have l5:((1<=a.kind∧a.kind<=6)∧(a.axis<=if a.kind=4∨a.kind=5 then 2 else 0)∧(if a.kind<=4 then zen a.name=true else a.name=[])∧z3n (z34 a.args)=0∧(own a.kind<=a.args.length)∧(4<a.kind->(a.args.length:Int)=own a.kind))->Ev (λn=>z4y n a) (z5i a):=λ⟨g1,g2,g3,g4,g5,g6⟩=>by
  rw [y28]
  by_cases h:a.kind=5↔a.items≠[]
  case neg =>
   rw [Ev.yz1 (sc_t h),Ev.kz0,zch (λq=>h q.2.2.2.2.2.2.1)]
  rw [Ev.kz1 (sc_f h)]
  refine l6.to ?_
  by_cases q:a.items.all y8o=true
  ·rw [if_pos q,zti.2 ⟨g1,g2,g3,g4,g5,g6,h,q⟩]
  ·rw [if_neg q,zch (λz=>q z.2.2.2.2.2.2.2)]
 have l4:(1<=a.kind∧a.kind<=6)∧(a.axis<=if a.kind=4∨a.kind=5 then 2 else 0)∧z3n (z34 a.args)=0∧own a.kind<=a.args.length->4<a.kind->∀b:Bool,(b=true↔¬(a.name=[]∧(a.args.length:Int)=own a.kind))->Ev (λn=>z09 n b a) (z5i a):=λ⟨g1,g2,g4,g5⟩ hk b hb=>by
  cases b
  case true=>rw [zqv,Ev.yz1 (by rfl),Ev.kz0,zch];exact λq=>hb.1 rfl ⟨by have:=q.2.2.1;rwa [if_neg (by omega)] at this,q.2.2.2.2.2.1 hk⟩
  obtain ⟨q1,q2⟩:=Classical.byContradiction λq=>Bool.noConfusion (hb.2 q)
  rw [zqv,Ev.kz1 (by rfl)]
  exact l5 ⟨g1,g2,by rw [if_neg (by omega)];exact q1,g4,g5,λ_=>q2⟩
 have l2:(1<=a.kind∧a.kind<=6)∧(a.axis<=if a.kind=4∨a.kind=5 then 2 else 0)∧z3n (z34 a.args)=0∧own a.kind<=a.args.length->Ev (λn=>z4w n a) (z5i a):=λhg=>by
  have nm:decide ((a.name.length:Int)>0) = !(a.name==[]):=by rw [yxl];cases a.name <;> rfl
  rw [y2n]
  by_cases h5:a.kind=5
  ·rw [Ev.yz1 (by simpa using h5),zky,Ev.yz1 (by rfl),nm]
   have ho:own a.kind=0:=by rw [h5];rfl
   by_cases hn:a.name=[]
   case neg=>rw [Ev.yz1 (by simpa using hn)];exact l4 hg (by omega) true (by simp [hn])
   rw [Ev.kz1 (by simpa using hn),Ev.yz1 (by simpa using h5)]
   by_cases ha:(a.args.length:Int)=0
   ·rw [Ev.kz1 (decide_eq_false (by omega)),Ev.kz1 (by rw [h5];rfl)];exact l4 hg (by omega) false ⟨λh=>(Bool.noConfusion h),λh=>(h ⟨hn,by rw [ho];exact ha⟩).elim⟩
   ·rw [Ev.yz1 (decide_eq_true (by omega))];exact l4 hg (by omega) true ⟨λ_ h=>ha (by rw [<-ho];exact h.2),λ_=>rfl⟩
  rw [Ev.kz1 (by simpa using h5)]
  by_cases h6:a.kind=6
  ·rw [show (a.kind==6)=true by simpa using h6,zky,Ev.yz1 (by rfl),nm]
   have ho:own a.kind=1:=by rw [h6];rfl
   by_cases hn:a.name=[]
   case neg=>rw [Ev.yz1 (by simpa using hn)];exact l4 hg (by omega) true (by simp [hn])
   rw [Ev.kz1 (by simpa using hn),Ev.kz1 (by simpa using h5),Ev.yz1 (by simpa using h6)]
   have:=hg.2.2.2
   refine l4 hg (by omega) _ ?_
   rw [ho] at this ⊢
   simp only [decide_eq_true_eq,hn,true_and];omega
  ·rw [show (a.kind==6)=false by simpa using h6,zky,Ev.kz1 (by rfl),Ev.yz0 (zqt (by omega))]
   have hk:a.kind<=4:=by have:=hg.1;omega
   cases hn:zen a.name
   ·rw [Ev.yz1 (by rfl),Ev.kz0,zch];exact λq=>by have:=q.2.2.1;rw [if_pos hk,hn] at this;cases this
   ·rw [Ev.kz1 (by rfl)];exact l5 ⟨hg.1,hg.2.1,by rw [if_pos hk,hn],hg.2.2.1,hg.2.2.2,λh=>by omega⟩
 have l1:(1<=a.kind∧a.kind<=6)∧z3n (z34 a.args)=0∧own a.kind<=a.args.length->∀b:Bool,b=decide (a.kind=4∨a.kind=5)->Ev (λn=>z4n n b a) (z5i a):=λhg b hb=>by
  rw [y26]
  by_cases h:a.kind=4∨a.kind=5
  ·rw [hb,decide_eq_true h,Ev.yz1 rfl]
   by_cases q:a.axis<=2
   ·rw [Ev.kz1 (by simp;omega)];exact l2 ⟨hg.1,by rw [if_pos h];exact q,hg.2⟩
   ·rw [Ev.yz1 (by simp;omega),Ev.kz0,zch];exact λz=>q (by have:=z.2.1;rwa [if_pos h] at this)
  ·rw [hb,decide_eq_false h,Ev.kz1 rfl]
   by_cases q:a.axis<=0
   ·rw [Ev.kz1 (by simp;omega)];exact l2 ⟨hg.1,by rw [if_neg h];exact q,hg.2⟩
   ·rw [Ev.yz1 (by simp;omega),Ev.kz0,zch];exact λz=>q (by have:=z.2.1;rwa [if_neg h] at this)
 have l0:∀b:Bool,(b=false->(1<=a.kind∧a.kind<=6)∧z3n (z34 a.args)=0∧own a.kind<=a.args.length)->(b=true->¬RAct a)->Ev (λn=>z1g n b a) (z5i a):=λb hf ht=>by
  cases b
  case true=>rw [zr9,Ev.yz1 (by rfl),Ev.kz0,zch (ht rfl)]
  rw [zr9,Ev.kz1 (by rfl)]
  by_cases h:a.kind=4
  ·rw [Ev.yz1 (by simpa using h)];exact l1 (hf rfl) true (by rw [decide_eq_true (.inl h)])
  ·rw [Ev.kz1 (by simpa using h)];exact l1 (hf rfl) _ (by by_cases q:a.kind=5 <;> simp [q,h])
 rw [y97]
 by_cases h1:1<=a.kind
 case neg=>rw [Ev.yz1 (by simp;omega)];exact l0 true (λh=>by cases h) λ_ q=>h1 q.1.1
 rw [Ev.kz1 (by simp;omega)]
 by_cases h2:a.kind<=6
 case neg=>rw [Ev.yz1 (by simp;omega)];exact l0 true (λh=>by cases h) λ_ q=>h2 q.1.2
 rw [Ev.kz1 (by simp;omega),Ev.yz0 (list _),zz1.yz5,Ev.yz0 (zl4 (by rw [zhe];omega))]
 by_cases h3:z3n (z34 a.args)=0
 case neg=>rw [Ev.yz1 (by simpa using h3)];exact l0 true (λh=>by cases h) λ_ q=>h3 q.2.2.2.1
 rw [Ev.kz1 (by simpa using h3),Ev.yz0 yn2]
 exact l0 _ (λh=>⟨⟨h1,h2⟩,h3,by have:=of_decide_eq_false h;omega⟩) λh q=>by have:=of_decide_eq_true h;have:=q.2.2.2.2.1;omega
end Go.Proofs.YtahcjggdcmgpkaaGreat
namespace Go.Proofs.YtahcjggdcmgpkaaGreat
open Go Go.Ab
set_option linter.unusedVariables false
set_option linter.unusedSimpArgs false
noncomputable def y8b (c:kz5):Bool:=decide (1<=c.weight)&&(decide (c.weight<=1000000)&&((z3n c.when_==0)&&c.do_.all z5i))
noncomputable def y0u (r:kz4):Bool:=zen r.name&&(r.params.all zen&&r.cases.all y8b)
noncomputable def ygb (t:zz7):Bool:=zen t.name&&(z3n t.value==0)
noncomputable def zf8 (p:zz0):Bool:=p.attrs.all ygb&&p.rules.all y0u
theorem ifA {c d:Bool} {γ:Type} {x y:γ}:(if (c&&d)=true then x else y)=if c=true then (if d=true then x else y) else y:=by cases c <;> rfl
theorem yt5 {p:zz0} (hw:p.wf) (hs:p.size<=8000000):Ev (λn=>zcj n p) (zf8 p):=by
 have:=@zju p
 have:=@zek p
 have l2:Ev (λn=>z2s n 0 p.rules (p.rules.length:Int)) (if p.rules.all y0u=true then true else false):=by
  refine zdx (L:=λn k=>z2s n k p.rules (p.rules.length:Int)) (by rw [zq4,Ev.kz1 (by simp),Ev.kz0]) λk hk v hv => ?_
  have hr:=List.getElem_mem hk
  have:=zne hr
  have:=@zxy p.rules[k]
  have:=@zv7 p.rules[k]
  have:=@z04n p.rules[k]
  have hwr:=yth hw hr
  have l4:Ev (λn=>z2l n 0 p.rules[k].cases p.rules (p.rules.length:Int) (k:Int) (p.rules[k].cases.length:Int)) (if p.rules[k].cases.all y8b=true then v else false):=by
   refine zdx (L:=λn j=>z2l n j p.rules[k].cases p.rules (p.rules.length:Int) (k:Int) (p.rules[k].cases.length:Int)) (by rw [zq8,Ev.kz1 (by simp),wrk (by omega)];exact hv) λj hj w hv => ?_
   have hc:=List.getElem_mem hj
   have:=zsk hc
   have:=@y7x p.rules[k].cases[j]
   have:=@zuf p.rules[k].cases[j]
   have hwc:=z01f hwr hc
   have l6:Ev (λn=>z2t n 0 p.rules[k].cases[j].do_ p.rules[k].cases p.rules (p.rules.length:Int) (k:Int) (p.rules[k].cases.length:Int) (j:Int) (p.rules[k].cases[j].do_.length:Int)) (if p.rules[k].cases[j].do_.all z5i=true then w else false):=by
    refine zdx (L:=λn i=>z2t n i p.rules[k].cases[j].do_ p.rules[k].cases p.rules (p.rules.length:Int) (k:Int) (p.rules[k].cases.length:Int) (j:Int) (p.rules[k].cases[j].do_.length:Int)) (by rw [zq3,Ev.kz1 (by simp),wrk (by omega)];exact hv) λi hi u hu => ?_
    have ha:=List.getElem_mem hi
    have:=zwz ha
    rw [zq3,Ev.yz1 (by simpa using hi),Ev.kz2 (yz6 hi),Ev.yz0 (yyo (z00m hwc ha) (by omega))]
    cases z5i p.rules[k].cases[j].do_[i]
    ·rw [Ev.yz1 (by rfl),Ev.kz0];rfl
    ·rw [Ev.kz1 (by rfl),wrk (by omega)];exact hu
   have l5:∀b,Ev (λn=>z32 n p.rules[k].cases p.rules (p.rules.length:Int) (k:Int) (p.rules[k].cases.length:Int) (j:Int) (!b) p.rules[k].cases[j]) (if b=true then (if p.rules[k].cases[j].do_.all z5i=true then w else false) else false):=λb=>by
    cases b
    ·rw [zr2,Ev.yz1 (by rfl),Ev.kz0];rfl
    ·rw [zr2,Ev.kz1 (by rfl)];exact l6
   rw [zq8,Ev.yz1 (by simpa using hj),Ev.kz2 (yz6 hj),kz5.yz5,y8b,ifA,ifA,ifA]
   by_cases h1:1<=p.rules[k].cases[j].weight
   case neg=>rw [Ev.yz1 (by simp;omega),decide_eq_false h1];exact l5 false
   rw [Ev.kz1 (by simp;omega),decide_eq_true h1]
   by_cases h2:p.rules[k].cases[j].weight<=1000000
   case neg=>rw [Ev.yz1 (by simp;omega),decide_eq_false h2];exact l5 false
   rw [Ev.kz1 (by simp;omega),decide_eq_true h2,zz1.yz5,Ev.yz0 (zwm (z05r hwc) (by omega)),neI]
   exact l5 _
  have l3:∀b,Ev (λn=>z54 n p.rules (p.rules.length:Int) (k:Int) (!b) p.rules[k]) (if b=true then (if p.rules[k].cases.all y8b=true then v else false) else false):=λb=>by
   cases b
   ·rw [zqk,Ev.yz1 (by rfl),Ev.kz0];rfl
   ·rw [zqk,Ev.kz1 (by rfl)];exact l4
  obtain ⟨i,h1,h2⟩:=y5o (S:=λn x=>z9r n x) (l:=p.rules[k].params) (p:=λs => !zen s) (L:=λn k l m=>yzn n k l m) (λn k=>yzn.eq_2 _ _ _ n) (by omega) λx hx=>by
   have:=z07a hx
   rw [y4z,Ev.yz0 (zof (by omega)),Ev.kz0]
  have hc:Ev (λn=>yzm n p.rules[k].params) (!p.rules[k].params.all zen):=by
   rw [zgu,Ev.yz0 (by rw [zj8];exact h1),Ev.kz0,h2,<-List.not_all_eq_any_not]
  rw [zq4,Ev.yz1 (by simpa using hk),Ev.kz2 (yz6 hk),y0u,ifA,ifA,Ev.yz0 (zof (by omega))]
  cases zen p.rules[k].name
  ·rw [Ev.yz1 (by rfl)];exact l3 false
  ·rw [Ev.kz1 (by rfl),Ev.yz0 hc];exact l3 _
 have l0:Ev (λn=>z30 n 0 p.attrs (p.attrs.length:Int) p) (if p.attrs.all ygb=true then p.rules.all y0u else false):=by
  refine zdx (L:=λn k=>z30 n k p.attrs (p.attrs.length:Int) p) (by rw [zqe,Ev.kz1 (by simp),<-ifB (p.rules.all y0u)];exact l2) λk hk v hv => ?_
  have ht:=List.getElem_mem hk
  have:=zx0 ht
  have:=@zx6 p.attrs[k]
  have l1:∀b,Ev (λn=>z4x n p.attrs (p.attrs.length:Int) (k:Int) (!b) p) (if b=true then v else false):=λb=>by
   cases b
   ·rw [zr4,Ev.yz1 (by rfl),Ev.kz0];rfl
   ·rw [zr4,Ev.kz1 (by rfl),wrk (by omega)];exact hv
  rw [zqe,Ev.yz1 (by simpa using hk),Ev.kz2 (yz6 hk),ygb,ifA,Ev.yz0 (zof (by omega))]
  cases zen p.attrs[k].name
  ·rw [Ev.yz1 (by rfl)];exact l1 false
  ·rw [Ev.kz1 (by rfl),zz1.yz5,Ev.yz0 (zwm (z010 hw ht) (by omega)),neI];exact l1 _
 rw [y9q]
 refine l0.to ?_
 rw [zf8];cases p.attrs.all ygb <;> rfl
theorem ys0 {p:zz0} (hw:p.wf) (hs:p.size<=8000000):Ev (λn=>zca n p) (zf8 p):=by
 have:=@zju p
 have:=@zek p
 have l2:Ev (λn=>z2z n 0 p) (if p.rules.all y0u=true then true else false):=by
  refine zdx (L:=λn k=>z2z n k p) (by rw [zq2,Ev.kz1 (by simp),Ev.kz0]) λk hk v hv => ?_
  have hr:=List.getElem_mem hk
  have:=zne hr
  have:=@zxy p.rules[k]
  have:=@zv7 p.rules[k]
  have:=@z04n p.rules[k]
  have hwr:=yth hw hr
  have l4:Ev (λn=>z2n n 0 (k:Int) p.rules[k] p) (if p.rules[k].cases.all y8b=true then v else false):=by
   refine zdx (L:=λn j=>z2n n j (k:Int) p.rules[k] p) (by rw [zqp,Ev.kz1 (by simp),wrk (by omega)];exact hv) λj hj w hv => ?_
   have hc:=List.getElem_mem hj
   have:=zsk hc
   have:=@y7x p.rules[k].cases[j]
   have:=@zuf p.rules[k].cases[j]
   have hwc:=z01f hwr hc
   have l6:Ev (λn=>z2x n 0 (k:Int) (j:Int) p.rules[k].cases[j] p.rules[k] p) (if p.rules[k].cases[j].do_.all z5i=true then w else false):=by
    refine zdx (L:=λn i=>z2x n i (k:Int) (j:Int) p.rules[k].cases[j] p.rules[k] p) (by rw [zqj,Ev.kz1 (by simp),wrk (by omega)];exact hv) λi hi u hu => ?_
    have ha:=List.getElem_mem hi
    have:=zwz ha
    rw [zqj,Ev.yz1 (by simpa using hi),Ev.kz2 (yz6 hi),Ev.yz0 (yyb (z00m hwc ha) (by omega)),kz5.yz5]
    cases z5i p.rules[k].cases[j].do_[i]
    ·rw [Ev.yz1 (by rfl),Ev.kz0];rfl
    ·rw [Ev.kz1 (by rfl),wrk (by omega)];exact hu
   have l5:∀b,Ev (λn=>z2p n (k:Int) (j:Int) (!b) p.rules[k].cases[j] p.rules[k] p) (if b=true then (if p.rules[k].cases[j].do_.all z5i=true then w else false) else false):=λb=>by
    cases b
    ·rw [zqr,Ev.yz1 (by rfl),Ev.kz0];rfl
    ·rw [zqr,Ev.kz1 (by rfl),kz5.yz5];exact l6
   rw [zqp,Ev.yz1 (by simpa using hj),Ev.kz2 (yz6 hj),kz5.yz5,y8b,ifA,ifA,ifA]
   by_cases h1:1<=p.rules[k].cases[j].weight
   case neg=>rw [Ev.yz1 (by simp;omega),decide_eq_false h1];exact l5 false
   rw [Ev.kz1 (by simp;omega),decide_eq_true h1]
   by_cases h2:p.rules[k].cases[j].weight<=1000000
   case neg=>rw [Ev.yz1 (by simp;omega),decide_eq_false h2];exact l5 false
   rw [Ev.kz1 (by simp;omega),decide_eq_true h2,zz1.yz5,Ev.yz0 (zl4 (by omega)),neI]
   exact l5 _
  have l3:Ev (λn=>z2k n 0 (k:Int) p.rules[k] p) (if p.rules[k].params.all zen=true then (if p.rules[k].cases.all y8b=true then v else false) else false):=by
   refine zdx (L:=λn j=>z2k n j (k:Int) p.rules[k] p) (by rw [zqi,Ev.kz1 (by simp)];exact l4) λj hj w hv => ?_
   have:=z07a (List.getElem_mem hj)
   rw [zqi,Ev.yz1 (by simpa using hj),Ev.kz2 (yz6 hj),Ev.yz0 (zqt (by omega))]
   cases zen p.rules[k].params[j]
   ·rw [Ev.yz1 (by rfl),Ev.kz0];rfl
   ·rw [Ev.kz1 (by rfl),wrk (by omega)];exact hv
  rw [zq2,Ev.yz1 (by simpa using hk),Ev.kz2 (yz6 hk),y0u,ifA,ifA,Ev.yz0 (zqt (by omega))]
  cases zen p.rules[k].name
  ·rw [Ev.yz1 (by rfl),Ev.kz0];rfl
  ·rw [Ev.kz1 (by rfl)];exact l3
 have l0:Ev (λn=>z2m n 0 p) (if p.attrs.all ygb=true then p.rules.all y0u else false):=by
  refine zdx (L:=λn k=>z2m n k p) (by rw [zr7,Ev.kz1 (by simp),<-ifB (p.rules.all y0u)];exact l2) λk hk v hv => ?_
  have ht:=List.getElem_mem hk
  have:=zx0 ht
  have:=@zx6 p.attrs[k]
  have l1:∀b,Ev (λn=>z4v n (k:Int) (!b) p) (if b=true then v else false):=λb=>by
   cases b
   ·rw [zq6,Ev.yz1 (by rfl),Ev.kz0];rfl
   ·rw [zq6,Ev.kz1 (by rfl),wrk (by omega)];exact hv
  rw [zr7,Ev.yz1 (by simpa using hk),Ev.kz2 (yz6 hk),ygb,ifA,Ev.yz0 (zqt (by omega))]
  cases zen p.attrs[k].name
  ·rw [Ev.yz1 (by rfl)];exact l1 false
  ·rw [Ev.kz1 (by rfl),Ev.kz2 (yz6 hk),zz1.yz5,Ev.yz0 (zl4 (by omega)),neI];exact l1 _
 rw [y92]
 refine l0.to ?_
 rw [zf8];cases p.attrs.all ygb <;> rfl
def kz8 (p:zz0):List (List UInt8):=p.attrs.map (·.name)
def zz4 (p:zz0):List (List UInt8):=p.rules.map (·.name)
theorem yc8 {α β:Type} {g:α->β} (l:List α) (s:List β):l.foldl (λs x=>s++[g x]) s=s++l.map g:=by
 induction l generalizing s with
 |nil=>simp
 |cons x l ih=>simp [ih]
theorem zrm {p:zz0} (hs:p.size<=8000000):Ev (λn=>z6p n p) (kz8 p):=by
 have:=@zju p
 rw [ybt]
 refine ytu (L:=λn k s=>z6e n k p s) (xs:=p.attrs) (f:=λs x=>s++[x.name]) (I:=λk s=>s.length=k) rfl (λ_=>by
  rw [zt3,Ev.kz1 (by simp),Ev.kz0,yc8];rfl) λk hk s hi=>⟨by simp [hi],λh=>by
  rw [zt3,Ev.yz1 (by simpa using hk),Ev.kz2 (yz6 hk),Ev.kz2 (z1k (by simp;omega)),wrk (by omega)];exact h⟩
theorem zf2 {p:zz0} (hs:p.size<=8000000):Ev (λn=>z16 n p) (zz4 p):=by
 have:=@zek p
 rw [yca]
 refine ytu (L:=λn k s=>z5s n k p s) (xs:=p.rules) (f:=λs x=>s++[x.name]) (I:=λk s=>s.length=k) rfl (λ_=>by
  rw [zrl,Ev.kz1 (by simp),Ev.kz0,yc8];rfl) λk hk s hi=>⟨by simp [hi],λh=>by
  rw [zrl,Ev.yz1 (by simpa using hk),Ev.kz2 (yz6 hk),Ev.kz2 (z1k (by simp;omega)),wrk (by omega)];exact h⟩
def atI (l:List (List UInt8)) (s:List UInt8):Int:=match l.idxOf? s with
 |some i=>(i:Int)
 |none => -1
theorem z04v {l:List (List UInt8)} {s:List UInt8} : -1<=atI l s:=by unfold atI;split <;> omega
theorem zqu (x:List UInt8) (l:List (List UInt8)) (s:List UInt8):atI (x::l) s=if x=s then 0 else if atI l s = -1 then -1 else atI l s+1:=by
 unfold atI
 rw [List.idxOf?_cons]
 by_cases h:x=s
 ·subst h;simp
 ·have:(x==s)=false:=by simpa using h
  rw [this,if_neg h]
  simp only [Bool.false_eq_true,if_false]
  cases l.idxOf? s <;> simp
theorem ye5 {L:Nat->Int->Option Int} {l:List (List UInt8)} {s:List UInt8} {p:List UInt8->Bool} (hp:∀x,p x=true↔x=s) (hb:l.length<=8388608)
  (hL:∀n (k:Int),L (n+1) k=pIf (decide (k<(l.length:Int))) ((ix l k).bind λx0=>pIf (p x0) (some k) (L n (IntKind.i64.wrap (k+1)))) (some (-1))):Ev (λn=>L n 0) (atI l s):=by
 have:∀k,k<=l.length->Ev (λn=>L n (k:Int)) (if atI (l.drop k) s = -1 then -1 else atI (l.drop k) s+k) :=
  down (by rw [Ev.zlv (λn=>hL n _),Ev.kz1 (by simp),Ev.kz0,List.drop_length];rfl) λk hk ih=>by
   rw [Ev.zlv (λn=>hL n _),Ev.yz1 (by simpa using hk),Ev.kz2 (yz6 hk),<-List.getElem_cons_drop (h:=hk),zqu]
   by_cases h:l[k]=s
   ·rw [Ev.yz1 ((hp _).2 h),Ev.kz0,if_pos h];simp
   ·rw [Ev.kz1 (by rw [Bool.eq_false_iff];exact λq=>h ((hp _).1 q)),wrk (by omega),if_neg h]
    refine ih.to ?_
    by_cases q:atI (l.drop (k+1)) s = -1
    ·simp [q]
    ·have h0:=@z04v (l.drop (k+1)) s
     rw [if_neg q,if_neg q,if_neg (by omega)];omega
 have:=this 0 (Nat.zero_le _)
 simp only [List.drop_zero] at this
 refine Ev.to this ?_
 split
 ·rename_i h;exact h.symm
 ·simp
theorem zmx {l:List (List UInt8)} {s:List UInt8} (hb:l.length<=8388608):Ev (λn=>z44 n l s) (atI l s):=by
 rw [yvl]
 exact ye5 (L:=λn k=>zeb n k s l) (p:=λx=>x==s) (λx=>by simp) hb λn k=>zeb.eq_2 _ _ _ n
theorem z01o {l:List (List UInt8)} {s:List UInt8} (hb:l.length<=8388608):Ev (λn=>zzv n l s) (atI l s):=by
 rw [zf0]
 exact ye5 (L:=λn k=>yzi n k l s (l.length:Int)) (p:=λx=>s==x) (λx=>by simp;exact eq_comm) hb λn k=>yzi.eq_2 _ _ _ _ n
theorem z4g {l:List (List UInt8)} {s:List UInt8}:atI l s<0↔s∉l:=by
 induction l with
 |nil=>simp [atI]
 |cons x l ih =>
  rw [zqu]
  by_cases h:x=s
  · subst h;simp
  · have:s∉x::l↔s∉l:=by simp [Ne.symm h]
    rw [if_neg h,this,<-ih]
    split
    · rename_i q;simp [q]
    · have : -1<=atI l s:=by unfold atI;split <;> omega
      omega
theorem zyb {l:List (List UInt8)} {s:List UInt8} (h:s∈l):∃i:Nat,∃(hi:i<l.length),atI l s=(i:Int)∧l[i]=s∧∀j (hj:j<i),l[j]'(by omega)≠s:=by
 induction l with
 |nil=>cases h
 |cons x l ih =>
  rw [zqu]
  by_cases q:x=s
  · exact ⟨0,by simp,by simp [q],by simpa using q,λj hj=>by omega⟩
  · have hm:s∈l:=by rcases List.mem_cons.1 h with h|h;· exact (q h.symm).elim
                    · exact h
    obtain ⟨i,hi,h1,h2,h3⟩:=ih hm
    refine ⟨i+1,by simp;omega,?_,by simpa using h2,λj hj => ?_⟩
    · rw [if_neg q,h1,if_neg (by omega)];omega
    · cases j with
      |zero=>simpa using q
      |succ j=>simpa using h3 j (by omega)
end Go.Proofs.YtahcjggdcmgpkaaGreat
namespace Go.Proofs.YtahcjggdcmgpkaaGreat
open Go Go.Ab
set_option linter.unusedVariables false
set_option linter.unusedSimpArgs false
theorem zkq {α β γ:Type} {L:Nat->Int->List β->Option γ} {xs:List α} {g:α->List β} {v:γ} {s0:List β} {B:Nat} (hB:s0.length+(xs.flatMap g).length<=B)
  (he:Ev (λn=>L n (xs.length:Int) (s0++xs.flatMap g)) v)
  (hs:∀k (h:k<xs.length) s,s.length+(g xs[k]).length<=B->Ev (λn=>L n ((k+1:Nat):Int) (s++g xs[k])) v->Ev (λn=>L n (k:Int) s) v):Ev (λn=>L n 0 s0) v:=by
 have:∀m k,k+m=xs.length->∀s,s.length+((xs.drop k).flatMap g).length<=B->s++(xs.drop k).flatMap g=s0++xs.flatMap g->Ev (λn=>L n (k:Int) s) v:=λm=>by
  induction m with
  |zero =>
   intro k hk s hi hf
   have hkl:k=xs.length:=by omega
   subst hkl
   rw [List.drop_length] at hf
   simp only [List.flatMap_nil,List.append_nil] at hf
   rw [hf];exact he
  |succ m ih =>
   intro k hk s hi hf
   have hlt:k<xs.length:=by omega
   rw [<-List.getElem_cons_drop (h:=hlt),List.flatMap_cons,List.length_append] at hi
   rw [<-List.getElem_cons_drop (h:=hlt),List.flatMap_cons,<-List.append_assoc] at hf
   exact hs k hlt s (by omega) (ih (k+1) (by omega) _ (by rw [List.length_append];omega) hf)
 simpa using this xs.length 0 (by omega) s0 (by simpa using hB) (by simp)
theorem zre {α β:Type} {f:α->Nat} {g:α->List β}:∀{l:List α},(∀x∈l,(g x).length<=f x)->(l.flatMap g).length<=(l.map f).sum
 |[],_=>by simp
 |x::l,h=>by
  have h1:=h x List.mem_cons_self
  have h2:=zre (f:=f) (g:=g) (l:=l) λy hy=>h y (List.mem_cons_of_mem _ hy)
  simp only [List.flatMap_cons,List.length_append,List.map_cons,List.sum_cons];omega
def zyq (x:yza):List (List UInt8×Int):=[(x.name,(x.args.length:Int)-1)]
def zly (a:zz3):List (List UInt8×Int):=(if a.name=[] then [] else [(a.name,(a.args.length:Int)-own a.kind)])++a.items.flatMap zyq
def y6w (c:kz5):List (List UInt8×Int):=c.do_.flatMap zly
def zz9 (r:kz4):List (List UInt8×Int):=r.cases.flatMap y6w
theorem yxg (a:zz3):(zly a).length<=a.size:=by
 have h:=zre (f:=yza.size) (g:=zyq) (l:=a.items) λx _=>by rw [yza.size_eq];show 1<=_;omega
 rw [zz3.size_eq,zly,List.length_append]
 split <;> simp only [List.length_cons,List.length_nil] <;> omega
theorem yxh (c:kz5):(y6w c).length<=c.size:=by
 have h:=zre (f:=zz3.size) (g:=zly) (l:=c.do_) λx _=>yxg x
 rw [kz5.size_eq];unfold y6w;omega
theorem zl3 (r:kz4):(zz9 r).length<=r.size:=by
 have h:=zre (f:=kz5.size) (g:=y6w) (l:=r.cases) λx _=>yxh x
 rw [kz4.size_eq];unfold zz9;omega
def toT (x:List UInt8×Int):zzq:=⟨x.1,x.2⟩
def toG (x:List UInt8×Int):z0q:=⟨x.1,x.2⟩
theorem z079 (k:Int):0<=own k∧own k<=3:=by unfold own;split <;> (try split) <;> omega
theorem yp4 {a k:Int} (h0:0<=a) (h1:a<=8000000) (h2:0<=k) (h3:k<=3):IntKind.i64.wrap (a-k)=a-k:=wI (by omega)
theorem y8q {r:kz4} (hs:r.size<=8000000):Ev (λn=>zc0 n r) ((zz9 r).map toT):=by
 have hlen:=zl3 r
 have hmap:(zz9 r).map toT=r.cases.flatMap λc=>c.do_.flatMap λa=>(zly a).map toT:=by simp only [zz9,y6w,List.map_flatMap]
 have:=@zv7 r
 rw [yeq]
 refine zkq (L:=λn k s=>z6j n k r.cases (r.cases.length:Int) s) (xs:=r.cases) (g:=λc=>c.do_.flatMap λa=>(zly a).map toT) (B:=8000000) (by rw [<-hmap];simp;omega) (by
  rw [zs5,Ev.kz1 (by simp),Ev.kz0,hmap];rfl) λk hk s hi hv => ?_
 have:=zsk (List.getElem_mem hk)
 have:=@zuf r.cases[k]
 rw [zs5,Ev.yz1 (by simpa using hk),Ev.kz2 (yz6 hk)]
 refine zkq (L:=λn j s=>z3q n j r.cases[k].do_ r.cases (r.cases.length:Int) (k:Int) (r.cases[k].do_.length:Int) s) (xs:=r.cases[k].do_) (g:=λa=>(zly a).map toT) (B:=8000000) hi (by
  rw [ztd,Ev.kz1 (by simp),wrk (by omega)];exact hv) λj hj s hi hv => ?_
 have:=zwz (List.getElem_mem hj)
 generalize hx:r.cases[k].do_[j]=a at *
 have:=@zyv a
 have:=@z05q a
 have ho:=z079 a.kind
 rw [zly,List.map_append,List.length_append] at hi
 rw [zly,List.map_append,<-List.append_assoc] at hv
 have l2:∀t:List zzq,t.length+((a.items.flatMap zyq).map toT).length<=8000000->Ev (λn=>z3q n ((j+1:Nat):Int) r.cases[k].do_ r.cases (r.cases.length:Int) (k:Int) (r.cases[k].do_.length:Int) (t++(a.items.flatMap zyq).map toT)) ((zz9 r).map toT)->Ev (λn=>z6b n r.cases[k].do_ r.cases (r.cases.length:Int) (k:Int) (r.cases[k].do_.length:Int) (j:Int) t a) ((zz9 r).map toT):=λt ht hv=>by
  have hm:(a.items.flatMap zyq).map toT=a.items.flatMap λx=>[(⟨x.name,(x.args.length:Int)-1⟩:zzq)]:=by rw [List.map_flatMap];rfl
  rw [hm] at ht hv
  rw [y4a]
  refine zkq (L:=λn i s=>z5y n i a.items r.cases[k].do_ r.cases (r.cases.length:Int) (k:Int) (r.cases[k].do_.length:Int) (j:Int) (a.items.length:Int) s) (xs:=a.items) (g:=λx=>[(⟨x.name,(x.args.length:Int)-1⟩:zzq)]) (B:=8000000) ht (by
   rw [zst,Ev.kz1 (by simp),wrk (by omega)];exact hv) λi hi s hl hv => ?_
  have:=y42 (List.getElem_mem hi)
  have:=@z03l a.items[i]
  rw [zst,Ev.yz1 (by simpa using hi),Ev.kz2 (yz6 hi),yp4 (by omega) (by omega) (by omega) (by omega),Ev.kz2 (z1k (by simp at hl ⊢;omega)),wrk (by omega)]
  exact hv
 rw [ztd,Ev.yz1 (by simpa using hj),Ev.kz2 (yz6 hj),hx]
 by_cases hn:a.name=[]
 ·rw [Ev.kz1 (by simp [hn])]
  rw [if_pos hn] at hv hi
  exact l2 s (by simpa using hi) (by simpa using hv)
 ·rw [Ev.yz1 (by simpa using hn),Ev.yz0 y6y,yp4 (by omega) (by omega) ho.1 ho.2]
  rw [if_neg hn] at hv hi
  rw [Ev.kz2 (z1k (by simp at hi ⊢;omega))]
  exact l2 _ (by simp at hi ⊢;omega) hv
theorem y1p {r:kz4} (hs:r.size<=8000000) (hf:∀c∈r.cases,∀a∈c.do_,(a.name=[]↔a.kind=5∨a.kind=6)):Ev (λn=>zb9 n r) ((zz9 r).map toG):=by
 have hlen:=zl3 r
 have hmap:(zz9 r).map toG=r.cases.flatMap λc=>c.do_.flatMap λa=>(zly a).map toG:=by simp only [zz9,y6w,List.map_flatMap]
 have:=@zv7 r
 rw [yjl]
 refine zkq (L:=λn k s=>z83 n k s r) (xs:=r.cases) (g:=λc=>c.do_.flatMap λa=>(zly a).map toG) (B:=8000000) (by rw [<-hmap];simp;omega) (by
  rw [zty,Ev.kz1 (by simp),Ev.kz0,hmap];rfl) λk hk s hi hv => ?_
 have hc:=List.getElem_mem hk
 have:=zsk hc
 have:=@zuf r.cases[k]
 rw [zty,Ev.yz1 (by simpa using hk)]
 refine zkq (L:=λn j s=>z58 n j (k:Int) s r) (xs:=r.cases[k].do_) (g:=λa=>(zly a).map toG) (B:=8000000) hi (by
  rw [zuq,Ev.kz2 (yz6 hk),Ev.kz1 (by simp),wrk (by omega)];exact hv) λj hj s hi hv => ?_
 have ha:=List.getElem_mem hj
 have:=zwz ha
 have hfa:=hf _ hc _ ha
 generalize hx:r.cases[k].do_[j]=a at *
 have:=@zyv a
 have:=@z05q a
 have ho:=z079 a.kind
 rw [zly,List.map_append,List.length_append] at hi
 rw [zly,List.map_append,<-List.append_assoc] at hv
 have l2:∀t:List z0q,t.length+((a.items.flatMap zyq).map toG).length<=8000000->Ev (λn=>z58 n ((j+1:Nat):Int) (k:Int) (t++(a.items.flatMap zyq).map toG) r) ((zz9 r).map toG)->Ev (λn=>z8j n (k:Int) (j:Int) a t r) ((zz9 r).map toG):=λt ht hv=>by
  have hm:(a.items.flatMap zyq).map toG=a.items.flatMap λx=>[(⟨x.name,(x.args.length:Int)-1⟩:z0q)]:=by rw [List.map_flatMap];rfl
  rw [hm] at ht hv
  rw [y7b]
  refine zkq (L:=λn i s=>z8t n i (k:Int) (j:Int) a s r) (xs:=a.items) (g:=λx=>[(⟨x.name,(x.args.length:Int)-1⟩:z0q)]) (B:=8000000) ht (by
   rw [zv6,Ev.kz1 (by simp),wrk (by omega)];exact hv) λi hi s hl hv => ?_
  have:=y42 (List.getElem_mem hi)
  have:=@z03l a.items[i]
  rw [zv6,Ev.yz1 (by simpa using hi),Ev.kz2 (yz6 hi),Ev.kz2 (yz6 hi),yp4 (by omega) (by omega) (by omega) (by omega),Ev.kz2 (z1k (by simp at hl ⊢;omega)),wrk (by omega)]
  exact hv
 rw [zuq,Ev.kz2 (yz6 hk),Ev.yz1 (by simpa using hj),Ev.kz2 (yz6 hk),Ev.kz2 (yz6 hj),hx]
 by_cases hn:a.name=[]
 ·rw [if_pos hn] at hv hi
  have l3:=l2 s (by simpa using hi) (by simpa using hv)
  have l2f:Ev (λn=>z8w n (k:Int) (j:Int) false a r s) ((zz9 r).map toG):=by rw [zv5,Ev.kz1 (by rfl)];exact l3
  rcases hfa.1 hn with h|h
  ·rw [Ev.kz1 (by simp [h])];exact l2f
  ·rw [Ev.yz1 (by simp [h]),show (a.kind != 6)=false by simp [h]];exact l2f
 ·have hk5:a.kind≠5∧a.kind≠6:=⟨λh=>hn (hfa.2 (.inl h)),λh=>hn (hfa.2 (.inr h))⟩
  rw [Ev.yz1 (by simp [hk5.1]),show (a.kind != 6)=true by simp [hk5.2],zv5,Ev.yz1 (by rfl),Ev.yz0 yn2,yp4 (by omega) (by omega) ho.1 ho.2]
  rw [if_neg hn] at hv hi
  rw [Ev.kz2 (z1k (by simp at hi ⊢;omega))]
  exact l2 _ (by simp at hi ⊢;omega) hv
theorem ydu {a:zz3} (h:z5i a=true):a.name=[]↔a.kind=5∨a.kind=6:=by
 obtain ⟨h1,h2,h3,_⟩:=zti.1 h
 by_cases hk:a.kind<=4
 ·rw [if_pos hk] at h3
  refine ⟨λh => ?_,λh=>by omega⟩
  rw [h,ymz] at h3;cases h3
 ·rw [if_neg hk] at h3
  exact ⟨λ_=>by omega,λ_=>h3⟩
theorem y3b {p:zz0} (h:zf8 p=true):∀r∈p.rules,∀c∈r.cases,∀a∈c.do_,z5i a=true:=λr hr c hc a ha=>by
 unfold zf8 at h
 have h:=List.all_eq_true.1 (Bool.and_eq_true_iff.1 h).2 r hr
 unfold y0u at h
 have h:=List.all_eq_true.1 (Bool.and_eq_true_iff.1 (Bool.and_eq_true_iff.1 h).2).2 c hc
 unfold y8b at h
 exact List.all_eq_true.1 (Bool.and_eq_true_iff.1 (Bool.and_eq_true_iff.1 (Bool.and_eq_true_iff.1 h).2).2).2 a ha
def zhm (a:zz3):List zz1:=a.args++a.items.flatMap (·.args)
def zj9 (c:kz5):List zz1:=c.when_::c.do_.flatMap zhm
def zyk (r:kz4):List zz1:=r.cases.flatMap zj9
theorem ybn (a:zz3):(zhm a).length<=a.size:=by
 have h:=zre (f:=yza.size) (g:=λx:yza=>x.args) (l:=a.items) λx _=>z03l
 have:=zcd a.args
 rw [zz3.size_eq,zhm,List.length_append];omega
theorem y1z (c:kz5):(zj9 c).length<=c.size:=by
 have h:=zre (f:=zz3.size) (g:=zhm) (l:=c.do_) λx _=>ybn x
 rw [kz5.size_eq,zj9,List.length_cons];omega
theorem ybr (r:kz4):(zyk r).length<=r.size:=by
 have h:=zre (f:=kz5.size) (g:=zj9) (l:=r.cases) λx _=>y1z x
 rw [kz4.size_eq];unfold zyk;omega
theorem zw8 {a:zz3} {e:zz1} (h:e∈zhm a):e.size<=a.size∧(a.wf->e.wf):=by
 rcases List.mem_append.1 h with h|h
 ·have:=y08 h;have:=@y7y a;exact ⟨by omega,λw=>wf_ae w h⟩
 ·obtain ⟨x,hx,he⟩:=List.mem_flatMap.1 h
  have:=y08 he;have:=@y8s x;have:=y42 hx;exact ⟨by omega,λw=>wf_xe (z07g w hx) he⟩
theorem y2j {c:kz5} {e:zz1} (h:e∈zj9 c):e.size<=c.size∧(c.wf->e.wf):=by
 rcases List.mem_cons.1 h with h|h
 ·subst h;have:=@y7x c;exact ⟨by omega,z05r⟩
 ·obtain ⟨a,ha,he⟩:=List.mem_flatMap.1 h
  have:=zw8 he;have:=zwz ha;exact ⟨by omega,λw=>(zw8 he).2 (z00m w ha)⟩
theorem ye7 {r:kz4} {e:zz1} (h:e∈zyk r):e.size<=r.size∧(r.wf->e.wf):=by
 obtain ⟨c,hc,he⟩:=List.mem_flatMap.1 h
 have:=y2j he;have:=zsk hc;exact ⟨by omega,λw=>(y2j he).2 (z01f w hc)⟩
theorem yw8 {r:kz4} (hs:r.size<=8000000):Ev (λn=>zer n r) (zyk r):=by
 have hlen:=ybr r
 have:=@zv7 r
 rw [yek]
 refine zkq (L:=λn k s=>z5z n k r.cases (r.cases.length:Int) s) (xs:=r.cases) (g:=zj9) (B:=8000000) (by show 0+(zyk r).length<=_;omega) (by
  rw [zrx,Ev.kz1 (by simp),Ev.kz0];rfl) λk hk s hi hv => ?_
 have:=zsk (List.getElem_mem hk)
 have:=@zuf r.cases[k]
 have e1:s++zj9 r.cases[k]=(s++[r.cases[k].when_])++r.cases[k].do_.flatMap zhm:=by simp [zj9]
 rw [e1] at hv
 rw [zj9,List.length_cons] at hi
 rw [zrx,Ev.yz1 (by simpa using hk),Ev.kz2 (yz6 hk),zz1.yz5,Ev.kz2 (z1k (by simp only [List.length_append,List.length_cons,List.length_nil];omega))]
 refine zkq (L:=λn j s=>z5w n j r.cases[k].do_ r.cases (r.cases.length:Int) (k:Int) (r.cases[k].do_.length:Int) s) (xs:=r.cases[k].do_) (g:=zhm) (B:=8000000) (by simp only [List.length_append,List.length_cons,List.length_nil];omega) (by
  rw [zsb,Ev.kz1 (by simp),wrk (by omega)];exact hv) λj hj s hi hv => ?_
 have:=zwz (List.getElem_mem hj)
 generalize hx:r.cases[k].do_[j]=a at *
 have:=@zyv a
 rw [zhm,List.length_append] at hi
 rw [zhm,<-List.append_assoc] at hv
 rw [zsb,Ev.yz1 (by simpa using hj),Ev.kz2 (yz6 hj),hx,Ev.kz2 (z1k (by omega))]
 refine zkq (L:=λn i s=>z60 n i a.items r.cases[k].do_ r.cases (r.cases.length:Int) (k:Int) (r.cases[k].do_.length:Int) (j:Int) (a.items.length:Int) s) (xs:=a.items) (g:=λx=>x.args) (B:=8000000) (by simp only [List.length_append,List.length_cons,List.length_nil];omega) (by
  rw [zsz,Ev.kz1 (by simp),wrk (by omega)];exact hv) λi hi s hl hv => ?_
 rw [zsz,Ev.yz1 (by simpa using hi),Ev.kz2 (yz6 hi),Ev.kz2 (z1k (by omega)),wrk (by omega)]
 exact hv
theorem yuk {c:kz5} (hs:c.size<=8000000):Ev (λn=>zei n c) (zj9 c):=by
 have hlen:=y1z c
 have:=@zuf c
 have e1:zj9 c=[c.when_]++c.do_.flatMap zhm:=by simp [zj9]
 rw [zj9,List.length_cons] at hlen
 rw [ydn,kz5.yz5,zz1.yz5]
 refine zkq (L:=λn j s=>z67 n j c s) (xs:=c.do_) (g:=zhm) (B:=8000000) (by simp only [List.length_append,List.length_cons,List.length_nil];omega) (by
  rw [zrz,Ev.kz1 (by simp),Ev.kz0,e1]) λj hj s hi hv => ?_
 have:=zwz (List.getElem_mem hj)
 have hxx:=yz6 hj
 generalize hx:c.do_[j]=a at *
 have:=@zyv a
 rw [zhm,List.length_append] at hi
 rw [zhm,<-List.append_assoc] at hv
 rw [zrz,Ev.yz1 (by simpa using hj),Ev.kz2 hxx,Ev.kz2 (z1k (by omega)),kz5.yz5]
 refine zkq (L:=λn i s=>z66 n i (j:Int) c s) (xs:=a.items) (g:=λx=>x.args) (B:=8000000) (by simp only [List.length_append,List.length_cons,List.length_nil];omega) (by
  rw [zte,Ev.kz2 hxx,Ev.kz1 (by simp),wrk (by omega),kz5.yz5];exact hv) λi hi s hl hv => ?_
 rw [zte,Ev.kz2 hxx,Ev.yz1 (by simpa using hi),Ev.kz2 hxx,Ev.kz2 (yz6 hi),Ev.kz2 (z1k (by omega)),wrk (by omega),kz5.yz5]
 exact hv
noncomputable def within (K:List (List UInt8)) (e:zz1):Bool:=(z5l e).1.all λs=>decide (s∈K)
theorem zwa (e:zz1) (hs:e.size<=8388608):(z5l e).1.length<=8388608:=by
 unfold z5l
 split
 ·simp
 ·have h1:=ymq e [];have h2:=zva e;simp only [List.length_nil] at h1;show (znh e []).length<=_;omega
theorem y47 {e:zz1} {K:List (List UInt8)} (hs:e.size<=8388608) (hK:K.length<=8388608):Ev (λn=>zar n e K) (within K e):=by
 have hl:=zwa e hs
 rw [ya5,zz1.yz5,Ev.yz0 (y87 hs),<-ifB (within K e)]
 refine zdx (L:=λn k=>z4u n k (z5l e).1 K) (by rw [zrh,Ev.kz1 (by simp),Ev.kz0]) λk hk v hv => ?_
 rw [zrh,Ev.yz1 (by simpa using hk),Ev.kz2 (yz6 hk),Ev.yz0 (zmx hK)]
 by_cases h:(z5l e).1[k]∈K
 ·rw [Ev.kz1 (decide_eq_false λq=>z4g.1 q h),decide_eq_true h,wrk (by omega)];exact hv
 ·rw [Ev.yz1 (decide_eq_true (z4g.2 h)),decide_eq_false h,Ev.kz0];rfl
def MK (m:List (List UInt8×Bool)) (K:List (List UInt8)):Prop:=∀k,(z3p m k).getD false=decide (k∈K)
theorem zqx {α σ:Type} {L:Nat->Int->Option (Int×σ)} {l:List α} {p:α->Bool} {st:σ}
  (he:Ev (λn=>L n (l.length:Int)) (-1,st))
  (hs:∀k (h:k<l.length) v,(p l[k]=true->Ev (λn=>L n (k:Int)) ((k:Int),st))∧(p l[k]=false->Ev (λn=>L n ((k+1:Nat):Int)) v->Ev (λn=>L n (k:Int)) v)) :
  ∃i:Int,Ev (λn=>L n 0) (i,st)∧decide (i>=0)=l.any p:=by
 have:∀k,k<=l.length->∃i:Int,Ev (λn=>L n (k:Int)) (i,st)∧decide (i>=0)=(l.drop k).any p :=
  down ⟨-1,he,by simp⟩ λk hk ⟨i,h1,h2⟩=>by
   obtain ⟨a1,a2⟩:=hs k hk (i,st)
   cases hp:p l[k] with
   |true=>exact ⟨k,a1 hp,by rw [<-List.getElem_cons_drop (h:=hk),List.any_cons,hp];simp⟩
   |false=>exact ⟨i,a2 hp h1,by rw [<-List.getElem_cons_drop (h:=hk),List.any_cons,hp,h2];simp⟩
 simpa using this 0 (Nat.zero_le _)
theorem yet {e:zz1} {m:List (List UInt8×Bool)} {K:List (List UInt8)} (hm:MK m K) (hw:e.wf) (hs:e.size<=8388608):Ev (λn=>zdo n e (mks m) (mvs m)) (!within K e,mks m,mvs m):=by
 have hl:=zwa e hs
 obtain ⟨i,h1,h2⟩:=zqx (L:=λn k=>yzf n k (z5l e).1 ((z5l e).1.length:Int) (mks m) (mvs m)) (l:=(z5l e).1) (p:=λs => !decide (s∈K)) (st:=(mks m,mvs m))
  (by rw [z2j,Ev.kz1 (by simp),Ev.kz0,kz3]) λk hk v=>by
   have hf:Ev (λn=>zcf n (z5l e).1[k] (mks m) (mvs m)) (!decide ((z5l e).1[k]∈K),mks m,mvs m):=by
    rw [y8y,Ev.kz0,kz3,hm]
   constructor
   ·intro hp
    rw [z2j,Ev.yz1 (by simpa using hk),Ev.kz2 (yz6 hk),kz3,Ev.yz0 hf,Ev.yz1 hp,Ev.kz0,kz3]
   ·intro hp hv
    rw [z2j,Ev.yz1 (by simpa using hk),Ev.kz2 (yz6 hk),kz3,Ev.yz0 hf,Ev.kz1 hp,kz3,wrk (by omega)];exact hv
 have hc:Ev (λn=>kzm n (z5l e).1 (mks m) (mvs m)) (!within K e,mks m,mvs m):=by
  rw [zgt,kz3,Ev.yz0 (by rw [zjd,kz3];exact h1),Ev.kz0,h2,kz3,within,<-List.not_all_eq_any_not]
 rw [yja,zz1.yz5,Ev.yz0 (yfq hw hs),kz3,Ev.yz0 hc,Ev.kz0,kz3]
theorem ybq {l:List zz1} {m:List (List UInt8×Bool)} {K:List (List UInt8)} (hm:MK m K) (hw:∀e∈l,e.wf) (hs:∀e∈l,e.size<=8388608) (hl:l.length<=8388608):Ev (λn=>zzj n l (mks m) (mvs m)) (!l.all (within K),mks m,mvs m):=by
 obtain ⟨i,h1,h2⟩:=zqx (L:=λn k=>zzf n k l (l.length:Int) (mks m) (mvs m)) (l:=l) (p:=λe => !within K e) (st:=(mks m,mvs m))
  (by rw [z25,Ev.kz1 (by simp),Ev.kz0,kz3]) λk hk v=>by
   have hx:=List.getElem_mem hk
   have hf:Ev (λn=>zbe n l[k] (mks m) (mvs m)) (!within K l[k],mks m,mvs m):=by
    rw [y61,kz3,zz1.yz5,Ev.yz0 (yet hm (hw _ hx) (hs _ hx)),Ev.kz0,kz3]
   constructor
   ·intro hp
    rw [z25,Ev.yz1 (by simpa using hk),Ev.kz2 (yz6 hk),kz3,zz1.yz5,Ev.yz0 hf,Ev.yz1 hp,Ev.kz0,kz3]
   ·intro hp hv
    rw [z25,Ev.yz1 (by simpa using hk),Ev.kz2 (yz6 hk),kz3,zz1.yz5,Ev.yz0 hf,Ev.kz1 hp,kz3,wrk (by omega)];exact hv
 rw [zgj,kz3,Ev.yz0 (by rw [zie,kz3];exact h1),Ev.kz0,h2,kz3,<-List.not_all_eq_any_not]
theorem yyj {l:List (List UInt8)}:(∃k,∃h:k<l.length,atI l l[k]<(k:Int))↔¬l.Nodup:=by
 constructor
 ·rintro ⟨k,hk,h⟩ hn
  obtain ⟨i,hi,h1,h2,_⟩:=zyb (List.getElem_mem hk)
  have:=(List.getElem_inj hn).1 h2
  omega
 ·intro h
  rw [List.nodup_iff_pairwise_ne,List.pairwise_iff_getElem] at h
  simp only [Classical.not_forall] at h
  obtain ⟨i,j,hi,hj,hij,h⟩:=h
  have h:=Classical.not_not.1 h
  refine ⟨j,hj,?_⟩
  obtain ⟨a,ha,h1,h2,h3⟩:=zyb (List.getElem_mem hj)
  rw [h1]
  have:a<=i:=Nat.le_of_not_lt λq=>h3 i q (by rw [h])
  omega
noncomputable def dup (l:List (List UInt8)):Bool:=@decide (¬l.Nodup) (Classical.propDecidable _)
theorem ywx {l:List (List UInt8)}:dup l=true↔¬l.Nodup:=@decide_eq_true_iff _ (Classical.propDecidable _)
theorem z01b {l:List (List UInt8)}:dup l=false↔l.Nodup:=by rw [<-Bool.not_eq_true,ywx,Classical.not_not]
theorem yd6 {γ:Type} {L:Nat->Int->Option γ} {l:List (List UInt8)} {t f:γ} (he:Ev (λn=>L n (l.length:Int)) f)
  (hs:∀k (h:k<l.length) v,Ev (λn=>L n ((k+1:Nat):Int)) v->Ev (λn=>L n (k:Int)) (if decide (atI l l[k]<(k:Int))=true then t else v)):Ev (λn=>L n 0) (if dup l=true then t else f):=by
 have:∀k,k<=l.length->∀b:Bool,(b=true↔∃j,k<=j∧∃h:j<l.length,atI l l[j]<(j:Int))->Ev (λn=>L n (k:Int)) (if b=true then t else f) :=
  down (λb hb=>by
   rw [if_neg λh=>by obtain ⟨j,h1,h2,_⟩:=hb.1 h;omega];exact he) λk hk ih b hb=>by
   by_cases h:atI l l[k]<(k:Int)
   ·rw [if_pos (hb.2 ⟨k,Nat.le_refl _,hk,h⟩)]
    have:=hs k hk _ (ih (@decide _ (Classical.propDecidable _)) (@decide_eq_true_iff _ (Classical.propDecidable _)))
    rwa [if_pos (decide_eq_true h)] at this
   ·have hb':b=true↔∃j,k+1<=j∧∃h:j<l.length,atI l l[j]<(j:Int):=by
     rw [hb]
     constructor
     ·rintro ⟨j,h1,h2,h3⟩
      refine ⟨j,?_,h2,h3⟩
      rcases Nat.lt_or_ge k j with q|q
      ·exact q
      ·have e:j=k:=by omega
       subst e;exact (h h3).elim
     ·rintro ⟨j,h1,h2⟩
      exact ⟨j,by omega,h2⟩
    have:=hs k hk _ (ih b hb')
    rwa [if_neg (by simpa using h)] at this
 have:=this 0 (Nat.zero_le _) (dup l) (by rw [ywx,<-yyj];exact ⟨λ⟨k,h⟩=>⟨k,Nat.zero_le _,h⟩,λ⟨k,_,h⟩=>⟨k,h⟩⟩)
 simpa using this
theorem y8j {l:List (List UInt8)} (hb:l.length<=8388608):Ev (λn=>zc4 n l) (dup l):=by
 rw [ycw,<-ifB (dup l)]
 refine yd6 (L:=λn k=>z68 n k l) (by rw [zs0,Ev.kz1 (by simp),Ev.kz0]) λk hk v hv => ?_
 rw [zs0,Ev.yz1 (by simpa using hk),Ev.kz2 (yz6 hk),Ev.yz0 (zmx hb),wrk (by omega),Ev.pif,Ev.kz0]
 split
 ·rfl
 ·exact hv
theorem zu4 {l:List (List UInt8)} {s:List UInt8} (hb:l.length<=8388608):Ev (λn=>z4c n s l) (atI l s,l):=by
 have h:=ye5 (L:=λn k=>(z08 n k s l).map Prod.fst) (l:=l) (s:=s) (p:=λx=>x==s) (λx=>by simp) hb λn k=>by
  show (z08 (n+1) k s l).map Prod.fst=_
  rw [z08.eq_2]
  cases decide (k<(l.length:Int))
  ·rfl
  ·cases hx:ix l k with
   |none=>rfl
   |some x=>show (pIf (x==s) _ _).map Prod.fst=pIf (x==s) _ _;cases (x==s) <;> rfl
 have h2:∀n k r,z08 n k s l=some r->r.2=l:=λn=>by
  induction n with
  |zero=>intro k r hr;cases hr
  |succ n ih =>
   intro k r hr
   rw [z08.eq_2] at hr
   cases hc:decide (k<(l.length:Int)) <;> rw [hc] at hr
   · injection hr with hr;rw [<-hr]
   · cases hx:ix l k with
     |none=>rw [hx] at hr;cases hr
     |some x =>
      rw [hx] at hr
      change pIf (x==s) _ _=_ at hr
      cases hq:(x==s) <;> rw [hq] at hr
      · exact ih _ _ hr
      · injection hr with hr;rw [<-hr]
 rw [ybx]
 obtain ⟨n,hn⟩:=h
 refine ⟨n,λm hm => ?_⟩
 have:=hn m hm
 change (z08 m 0 s l).map Prod.fst=_ at this
 show z08 m 0 s l=_
 cases hr:z08 m 0 s l with
 |none=>rw [hr] at this;cases this
 |some r =>
  rw [hr] at this
  injection this with this
  have e:=h2 _ _ _ hr
  obtain ⟨r1,r2⟩:=r
  simp only at this e;rw [this,e]
theorem yp7 {l:List (List UInt8)} (hb:l.length<=8388608):Ev (λn=>z9n n l) (dup l,l):=by
 have e:(dup l,l)=if dup l=true then (true,l) else (false,l):=by cases dup l <;> rfl
 rw [y5a,e]
 refine yd6 (L:=λn k=>z2q n k l) (by rw [zoa,Ev.kz1 (by simp),Ev.kz0]) λk hk v hv => ?_
 rw [zoa,Ev.yz1 (by simpa using hk),Ev.kz2 (yz6 hk),Ev.yz0 (zu4 hb),wrk (by omega),Ev.pif,Ev.kz0]
 split
 ·rfl
 ·exact hv
noncomputable def ynu (p:zz0):Bool:=dup (kz8 p)||(dup (zz4 p)||p.rules.any λr=>dup (r.params++kz8 p))
theorem ylt {p:zz0} (hs:p.size<=4000000):Ev (λn=>zbh n p) (ynu p):=by
 have:=@zju p
 have:=@zek p
 have ha:(kz8 p).length=p.attrs.length:=by simp [kz8]
 have hr:(zz4 p).length=p.rules.length:=by simp [zz4]
 have l1:Ev (λn=>z1x n 0 p) (if (p.rules.any λr=>dup (r.params++kz8 p))=true then true else false):=by
  refine zgm (L:=λn k=>z1x n k p) (by rw [zp1,Ev.kz1 (by simp),Ev.kz0]) λk hk v hv => ?_
  have:=zne (List.getElem_mem hk)
  have:=@zxy p.rules[k]
  rw [zp1,Ev.yz1 (by simpa using hk),Ev.kz2 (yz6 hk),Ev.kz2 (z1k (by simp only [List.length_append,List.length_cons,List.length_nil];omega)),List.nil_append,Ev.yz0 (zrm (by omega)),Ev.kz2 (z1k (by omega)),Ev.yz0 (yp7 (by rw [List.length_append];omega)),wrk (by omega),Ev.pif,Ev.kz0]
  split
  ·rfl
  ·exact hv
 have l0:∀b,Ev (λn=>z3k n b p) (b||p.rules.any λr=>dup (r.params++kz8 p)):=λb=>by
  cases b
  ·rw [zpc,Ev.kz1 (by rfl),ifB] at *;exact l1
  ·rw [zpc,Ev.yz1 (by rfl),Ev.kz0];rfl
 rw [y6i,Ev.yz0 (zrm (by omega)),Ev.yz0 (y8j (by omega)),ynu]
 cases dup (kz8 p)
 ·rw [Ev.kz1 (by rfl),Ev.yz0 (zf2 (by omega)),Ev.yz0 (y8j (by omega))];exact l0 _
 ·rw [Ev.yz1 (by rfl)];exact l0 true
end Go.Proofs.YtahcjggdcmgpkaaGreat
namespace Go.Proofs.YtahcjggdcmgpkaaGreat
open Go Go.Ab
set_option linter.unusedVariables false
set_option linter.unusedSimpArgs false
noncomputable def kA:List (List UInt8)->List zz7->Bool
 |_,[]=>true
 |pre,t::l=>within pre t.value&&kA (pre++[t.name]) l
def scope (p:zz0) (r:kz4):List (List UInt8):=([[115,120],[115,121],[115,122]]++kz8 p)++r.params
noncomputable def kR (p:zz0) (r:kz4):Bool:=(zyk r).all (within (scope p r))&&(zz9 r).all λc=>decide (c.1∈zz4 p)
noncomputable def y6k (p:zz0):Bool:=kA [] p.attrs&&p.rules.all (kR p)
def plen (p:zz0) (s:List UInt8):Int:=match p.rules[(atI (zz4 p) s).toNat]? with
 |some r=>r.params.length
 |none => -1
def zop (p:zz0) (r:kz4):Bool:=(zz9 r).any λc=>decide (c.1∈zz4 p)&&(c.2 != plen p c.1)
def yg4 (p:zz0):Bool:=p.rules.any (zop p)
noncomputable def z5j (p:zz0):Int:=if y4e p=true then 4 else if zf8 p=true then (if ynu p=true then 14 else if y6k p=true then (if yg4 p=true then 2 else 0) else 6) else 8
theorem zla {p:zz0} {k:Nat} (h:k<p.attrs.length):(kz8 p).take (k+1)=(kz8 p).take k++[p.attrs[k].name]:=by
 rw [List.take_add_one]
 simp only [kz8,List.getElem?_map,List.getElem?_eq_getElem h,Option.map_some,Option.toList_some]
theorem zxw {p:zz0} {k:Nat} (h:k<p.rules.length):(zz4 p).take (k+1)=(zz4 p).take k++[p.rules[k].name]:=by
 rw [List.take_add_one]
 simp only [zz4,List.getElem?_map,List.getElem?_eq_getElem h,Option.map_some,Option.toList_some]
theorem ywu {α:Type} {l:List α} {k:Nat} (h:k<=l.length):sub l 0 (k:Int)=some (l.take k):=by
 unfold sub
 rw [if_pos (by omega)];simp
theorem z032 (p:zz0) (r:kz4):(scope p r).length=3+p.attrs.length+r.params.length:=by simp [scope,kz8];omega
theorem y3t {p:zz0} {s:List UInt8} (h:s∈zz4 p):∃i:Nat,∃hi:i<p.rules.length,atI (zz4 p) s=(i:Int)∧p.rules[i].name=s∧plen p s=(p.rules[i].params.length:Int):=by
 obtain ⟨i,hi,h1,h2,_⟩:=zyb h
 have hi':i<p.rules.length:=by simpa [zz4] using hi
 refine ⟨i,hi',h1,by simpa [zz4] using h2,?_⟩
 unfold plen
 rw [h1,Int.toNat_natCast,List.getElem?_eq_getElem hi']
theorem ywr {p:zz0} (hs:p.size<=4000000) (hf:zf8 p=true):Ev (λn=>zec n p) (y6k p):=by
 have:=@zju p
 have:=@zek p
 have ha:(kz8 p).length=p.attrs.length:=by simp [kz8]
 have hr:(zz4 p).length=p.rules.length:=by simp [zz4]
 have l1:Ev (λn=>z42 n 0 (kz8 p) p) (if p.rules.all (kR p)=true then true else false):=by
  refine zdx (L:=λn k=>z42 n k (kz8 p) p) (by rw [ztc,Ev.kz1 (by simp),Ev.kz0]) λk hk v hv => ?_
  have hm:=List.getElem_mem hk
  have:=zne hm
  have:=@zxy p.rules[k]
  have:=@zv7 p.rules[k]
  have hsc:=z032 p p.rules[k]
  have hcl:=zl3 p.rules[k]
  have l4:Ev (λn=>z43 n 0 ((zz9 p.rules[k]).map toG) (kz8 p) (k:Int) p) (if ((zz9 p.rules[k]).all λc=>decide (c.1∈zz4 p))=true then v else false):=by
   refine zdx (L:=λn j=>z43 n j ((zz9 p.rules[k]).map toG) (kz8 p) (k:Int) p) (by rw [zs7,Ev.kz1 (by simp),wrk (by omega)];exact hv) λj hj w hw => ?_
   have hj':j<((zz9 p.rules[k]).map toG).length:=by simpa using hj
   rw [zs7,Ev.yz1 (by simpa using hj),Ev.yz0 (zf2 (by omega)),Ev.kz2 (yz6 hj'),List.getElem_map,Ev.yz0 (zmx (by omega))]
   show Ev (λn=>pIf (decide (atI (zz4 p) (zz9 p.rules[k])[j].1<0)) _ _) _
   by_cases h:(zz9 p.rules[k])[j].1∈zz4 p
   ·rw [Ev.kz1 (decide_eq_false λq=>z4g.1 q h),decide_eq_true h,wrk (by omega)];exact hw
   ·rw [Ev.yz1 (decide_eq_true (z4g.2 h)),decide_eq_false h,Ev.kz0];rfl
  have l2:Ev (λn=>z3s n (scope p p.rules[k]) 0 (kz8 p) (k:Int) p.rules[k] p) (if (p.rules[k].cases.all λc=>(zj9 c).all (within (scope p p.rules[k])))=true then (if ((zz9 p.rules[k]).all λc=>decide (c.1∈zz4 p))=true then v else false) else false):=by
   refine zdx (L:=λn j=>z3s n (scope p p.rules[k]) j (kz8 p) (k:Int) p.rules[k] p) (by rw [zrr,Ev.kz1 (by simp),Ev.yz0 (y1p (by omega) λc hc a ha=>ydu (y3b hf _ hm c hc a ha))];exact l4) λj hj w hw => ?_
   have:=zsk (List.getElem_mem hj)
   have hel:=y1z p.rules[k].cases[j]
   rw [zrr,Ev.yz1 (by simpa using hj),Ev.kz2 (yz6 hj),kz5.yz5,Ev.yz0 (yuk (by omega))]
   refine zdx (L:=λn i=>z62 n i (scope p p.rules[k]) (zj9 p.rules[k].cases[j]) (kz8 p) (k:Int) (j:Int) p.rules[k] p) (by rw [zt1,Ev.kz1 (by simp),wrk (by omega)];exact hw) λi hi u hu => ?_
   have:=(y2j (List.getElem_mem hi)).1
   rw [zt1,Ev.yz1 (by simpa using hi),Ev.kz2 (yz6 hi),zz1.yz5,Ev.yz0 (y47 (by omega) (by omega))]
   cases within (scope p p.rules[k]) (zj9 p.rules[k].cases[j])[i]
   ·rw [Ev.yz1 (by rfl),Ev.kz0];rfl
   ·rw [Ev.kz1 (by rfl),wrk (by omega)];exact hu
  rw [ztc,Ev.yz1 (by simpa using hk),Ev.kz2 (yz6 hk),Ev.kz2 (z1k (by simp only [List.length_cons,List.length_nil];omega)),Ev.kz2 (z1k (by simp only [List.length_append,List.length_cons,List.length_nil];omega)),kR,ifA,zyk,List.all_flatMap]
  exact l2
 have l0:∀k,k<=p.attrs.length->Ev (λn=>z74 n (k:Int) (kz8 p) p) (if kA ((kz8 p).take k) (p.attrs.drop k)=true then p.rules.all (kR p) else false) :=
  down (by
   rw [zrt,Ev.kz1 (by simp),List.drop_length,kA,if_pos rfl,<-ifB (p.rules.all (kR p))];exact l1) λk hk ih=>by
   have hm:=List.getElem_mem hk
   have:=zx0 hm
   have:=@zx6 p.attrs[k]
   rw [zrt,Ev.yz1 (by simpa using hk),Ev.kz2 (yz6 hk),Ev.kz2 (ywu (by omega)),zz1.yz5,Ev.yz0 (y47 (by omega) (by simp;omega)),<-List.getElem_cons_drop (h:=hk),kA,ifA]
   cases within ((kz8 p).take k) p.attrs[k].value
   ·rw [Ev.yz1 (by rfl),Ev.kz0];rfl
   ·rw [Ev.kz1 (by rfl),wrk (by omega),if_pos rfl,<-zla hk];exact ih
 have:=l0 0 (Nat.zero_le _)
 rw [ye3,Ev.yz0 (zrm (by omega)),y6k]
 refine Ev.to this ?_
 rw [List.drop_zero,List.take_zero]
 cases kA [] p.attrs <;> rfl
theorem zo8 {p:zz0} (hw:p.wf) (hs:p.size<=4000000):Ev (λn=>z45 n p) (z5j p):=by
 have:=@zek p
 have hr:(zz4 p).length=p.rules.length:=by simp [zz4]
 rw [ybl,Ev.yz0 (yys (by omega)),z5j]
 cases y4e p
 case true=>rw [Ev.yz1 (by rfl),Ev.kz0];rfl
 rw [Ev.kz1 (by rfl),Ev.yz0 (ys0 hw (by omega)),if_neg (by simp)]
 cases hf:zf8 p
 case false=>rw [Ev.yz1 (by rfl),Ev.kz0];rfl
 rw [Ev.kz1 (by rfl),Ev.yz0 (ylt hs),if_pos rfl]
 cases ynu p
 case true=>rw [Ev.yz1 (by rfl),Ev.kz0];rfl
 rw [Ev.kz1 (by rfl),Ev.yz0 (ywr hs hf),if_neg (by simp)]
 cases hk:y6k p
 case false=>rw [Ev.yz1 (by rfl),Ev.kz0];rfl
 rw [Ev.kz1 (by rfl),if_pos rfl]
 have hkr:=List.all_eq_true.1 (Bool.and_eq_true_iff.1 hk).2
 refine zgm (L:=λn k=>z61 n k p) (by rw [zrv,Ev.kz1 (by simp),Ev.kz0]) λk hk v hv => ?_
 have hm:=List.getElem_mem hk
 have:=zne hm
 have hcl:=zl3 p.rules[k]
 have hkc:=List.all_eq_true.1 (Bool.and_eq_true_iff.1 (hkr _ hm)).2
 rw [zrv,Ev.yz1 (by simpa using hk),Ev.kz2 (yz6 hk),Ev.yz0 (y1p (by omega) λc hc a ha=>ydu (y3b hf _ hm c hc a ha))]
 refine zgm (L:=λn j=>z5p n j ((zz9 p.rules[k]).map toG) (k:Int) p) (by rw [zrw,Ev.kz1 (by simp),wrk (by omega)];exact hv) λj hj w hw => ?_
 have hj':j<((zz9 p.rules[k]).map toG).length:=by simpa using hj
 have hc:=hkc _ (List.getElem_mem hj)
 obtain ⟨i,hi,h1,h2,h3⟩:=y3t (of_decide_eq_true hc)
 rw [zrw,Ev.yz1 (by simpa using hj),Ev.kz2 (yz6 hj'),Ev.yz0 (zf2 (by omega)),Ev.kz2 (yz6 hj'),List.getElem_map,Ev.yz0 (zmx (by omega))]
 show Ev (λn=>(ix p.rules (atI (zz4 p) (zz9 p.rules[k])[j].1)).bind _) _
 rw [h1,Ev.kz2 (yz6 hi),hc,h3,Bool.true_and,wrk (by omega)]
 show Ev (λn=>pIf ((zz9 p.rules[k])[j].2 != (p.rules[i].params.length:Int)) _ _) _
 cases (zz9 p.rules[k])[j].2 != (p.rules[i].params.length:Int)
 ·rw [Ev.kz1 rfl];exact hw
 ·rw [Ev.yz1 rfl,Ev.kz0];rfl
end Go.Proofs.YtahcjggdcmgpkaaGreat
namespace Go.Proofs.YtahcjggdcmgpkaaGreat
open Go Go.Ab
set_option linter.unusedVariables false
set_option linter.unusedSimpArgs false
section
variable {T : Type}
theorem zpt (q:List UInt8×T) (m:List (List UInt8×T)) (k:List UInt8):z3p (q::m) k=if k=q.1 then some q.2 else z3p m k:=by
 unfold z3p
 rw [List.find?_cons]
 by_cases h:k=q.1
 ·simp [h]
 ·have:(k==q.1)=false:=by simpa using h
  rw [this,if_neg h]
theorem ync (q:List UInt8×T) (m:List (List UInt8×T)) (k:List UInt8) (x:T):z95 (q::m) k x=if k=q.1 then (k,x)::m else q::z95 m k x:=by
 unfold z95
 rw [List.findIdx?_cons]
 by_cases h:k=q.1
 ·simp [h]
 ·have:(k==q.1)=false:=by simpa using h
  rw [this,if_neg h]
  simp only [Bool.false_eq_true,if_false]
  cases List.findIdx? (λp=>k==p.1) m <;> simp
theorem y4r (m:List (List UInt8×T)) (k k':List UInt8) (x:T):z3p (z95 m k x) k'=if k'=k then some x else z3p m k':=by
 induction m with
 |nil=>show z3p [(k,x)] k'=_;rw [zpt]
 |cons q m ih =>
  rw [ync]
  by_cases h:k=q.1
  · rw [if_pos h,zpt,zpt]
    by_cases h2:k'=k
    · simp [h2]
    · rw [if_neg h2,if_neg h2,if_neg (λz=>h2 (z.trans h.symm))]
  · rw [if_neg h,zpt,ih,zpt]
    by_cases h2:k'=q.1
    · rw [if_pos h2,if_pos h2,if_neg (λz=>h (z.symm.trans h2))]
    · rw [if_neg h2,if_neg h2]
theorem y0b {m:List (List UInt8×T)} {k:List UInt8}:z3p m k=none↔k∉mks m:=by
 induction m with
 |nil=>simp [z3p,mks]
 |cons q m ih =>
  rw [zpt]
  show _↔k∉q.1::mks m
  by_cases h:k=q.1
  · simp [h]
  · rw [if_neg h,ih];simp [h]
end
theorem z01c {T:Type}:∀{es:List (List UInt8×T)} {i:Nat} (h:i<es.length) (s:List UInt8),s∈mks es↔s=es[i].1∨s∈mks (es.eraseIdx i)
 |[],_,h,_=>by cases h
 |q::es,0,_,s=>by show s∈q.1::mks es↔_;rw [List.mem_cons];exact Iff.rfl
 |q::es,i+1,h,s=>by
  show s∈q.1::mks es↔s=(es[i]'(by simpa using h)).1∨s∈q.1::mks (es.eraseIdx i)
  rw [List.mem_cons,List.mem_cons,z01c (es:=es) (i:=i) (by simpa using h) s]
  exact or_left_comm
def TM (m:List (List UInt8×Bool)) (K:List (List UInt8)):Prop:=∀k,z3p m k=if k∈K then some true else none
theorem TM.mk {m:List (List UInt8×Bool)} {K:List (List UInt8)} (h:TM m K):MK m K:=λk=>by
 rw [h k];by_cases q:k∈K <;> simp [q]
theorem TM.nil:TM [] []:=λk=>by simp [z3p]
theorem TM.put {m:List (List UInt8×Bool)} {K:List (List UInt8)} (h:TM m K) (s:List UInt8):TM (z95 m s true) (K++[s]):=λk=>by
 rw [y4r,h k]
 by_cases q:k=s <;> simp [q]
theorem TM.keys {m:List (List UInt8×Bool)} {K:List (List UInt8)} (h:TM m K) (s:List UInt8):s∈mks m↔s∈K:=by
 have:=h s
 by_cases q:s∈K
 ·rw [if_pos q] at this
  exact ⟨λ_=>q,λ_=>Classical.byContradiction λz=>by rw [y0b.2 z] at this;cases this⟩
 ·rw [if_neg q] at this
  exact ⟨λz=>(y0b.1 this z).elim,λz=>(q z).elim⟩
theorem MK.put {m:List (List UInt8×Bool)} {K:List (List UInt8)} (h:MK m K) (s:List UInt8):MK (z95 m s true) (K++[s]):=λk=>by
 rw [y4r]
 by_cases q:k=s
 ·simp [q]
 ·rw [if_neg q,h k];simp [q]
theorem MK.ext {m:List (List UInt8×Bool)} {K J:List (List UInt8)} (h:MK m K) (e:∀s,s∈K↔s∈J):MK m J:=λk=>by rw [h k];exact decide_eq_decide.2 (e k)
def RM (m:List (List UInt8×Int)) (K:List (List UInt8)):Prop:=∀k,z3p m k=if k∈K then some (atI K k) else none
theorem RM.nil:RM [] []:=λk=>by simp [z3p]
theorem z04q {K:List (List UInt8)} {s:List UInt8} (h:s∉K) (k:List UInt8):atI (K++[s]) k=if k=s then (K.length:Int) else atI K k:=by
 induction K with
 |nil=>show atI [s] k=_;rw [zqu];by_cases q:s=k
       · simp [q]
       · rw [if_neg q,if_neg (Ne.symm q)];simp [atI]
 |cons x K ih =>
  have hx:x≠s:=λe=>h (by rw [e];exact List.mem_cons_self)
  have:=ih λz=>h (List.mem_cons_of_mem _ z)
  rw [List.cons_append,zqu,zqu,this]
  by_cases q:k=s
  · subst q;rw [if_neg hx,if_pos rfl,if_pos rfl,if_neg (by omega)];simp
  · simp only [if_neg q]
theorem RM.put {m:List (List UInt8×Int)} {K:List (List UInt8)} (h:RM m K) {s:List UInt8} (hs:s∉K):RM (z95 m s (K.length:Int)) (K++[s]):=λk=>by
 rw [y4r,h k,z04q hs]
 by_cases q:k=s
 ·simp [q]
 ·simp [q]
theorem Ev.pick {α R:Type} {es:List (List UInt8×α)} {f:Nat->List UInt8->α->List (List UInt8×α)->Option R} {g:Nat->Option R} {r:R}
  (h0:es=[]->Ev g r) (h1:∀i (h:i<es.length),Ev (λn=>f n es[i].1 es[i].2 (es.eraseIdx i)) r):Ev (λn=>y82 es (f n) (g n)) r:=by
 have hz:∃N,∀m,N<=m->(es=[]->g m=some r):=by
  by_cases he:es=[]
  ·obtain ⟨N,hN⟩:=h0 he;exact ⟨N,λm hm _=>hN m hm⟩
  ·exact ⟨0,λ_ _ h=>(he h).elim⟩
 have hb:∀k,k<=es.length->∃N,∀m,N<=m->∀i (h:i<es.length),i<k->f m es[i].1 es[i].2 (es.eraseIdx i)=some r:=λk=>by
  induction k with
  |zero=>intro _;exact ⟨0,λ_ _ _ _ h=>by omega⟩
  |succ k ih =>
   intro hk
   obtain ⟨N,hN⟩:=ih (by omega)
   obtain ⟨M,hM⟩:=h1 k (by omega)
   refine ⟨max N M,λm hm i hi hik => ?_⟩
   by_cases h:i=k
   · subst h;exact hM m (by omega)
   · exact hN m (by omega) i hi (by omega)
 obtain ⟨N,hN⟩:=hz
 obtain ⟨M,hM⟩:=hb es.length (Nat.le_refl _)
 refine ⟨max N M,λm hm=>z04f (hN m (by omega)) λi p hp => ?_⟩
 obtain ⟨hi,rfl⟩:=List.getElem?_eq_some_iff.1 hp
 exact hM m (by omega) i hi hi
theorem z04b {γ:Type} {L:Nat->Int->Option γ} {len:Nat} {p:Nat->Bool} {got r:γ} {b:Bool} (hb:b=true↔∃j,j<len∧p j=true)
  (he:Ev (λn=>L n (len:Int)) r)
  (hs:∀k (h:k<len) v,Ev (λn=>L n ((k+1:Nat):Int)) v->Ev (λn=>L n (k:Int)) (if p k=true then got else v)):Ev (λn=>L n 0) (if b=true then got else r):=by
 have:∀k,k<=len->∀b:Bool,(b=true↔∃j,k<=j∧j<len∧p j=true)->Ev (λn=>L n (k:Int)) (if b=true then got else r) :=
  down (λb hb=>by rw [if_neg λh=>by obtain ⟨j,h1,h2,_⟩:=hb.1 h;omega];exact he) λk hk ih b hb=>by
   cases h:p k with
   |true =>
    rw [if_pos (hb.2 ⟨k,Nat.le_refl _,hk,h⟩)]
    have:=hs k hk _ (ih (@decide _ (Classical.propDecidable _)) (@decide_eq_true_iff _ (Classical.propDecidable _)))
    rwa [if_pos h] at this
   |false =>
    have hb':b=true↔∃j,k+1<=j∧j<len∧p j=true:=by
     rw [hb]
     constructor
     · rintro ⟨j,h1,h2,h3⟩
       refine ⟨j,?_,h2,h3⟩
       rcases Nat.lt_or_ge k j with q|q
       · exact q
       · have e:j=k:=by omega
         subst e;rw [h] at h3;cases h3
     · rintro ⟨j,h1,h2⟩
       exact ⟨j,by omega,h2⟩
    have:=hs k hk _ (ih b hb')
    rwa [if_neg (by simp [h])] at this
 have:=this 0 (Nat.zero_le _) b (by rw [hb];exact ⟨λ⟨j,h⟩=>⟨j,Nat.zero_le _,h⟩,λ⟨j,_,h⟩=>⟨j,h⟩⟩)
 simpa using this
noncomputable def pbad (p:zz0) (r:kz4) (k:Nat):Bool:=if h:k<r.params.length then decide (r.params[k]∈kz8 p)||decide (atI r.params r.params[k]<(k:Int)) else false
noncomputable def pdup (p:zz0) (r:kz4):Bool:=dup (r.params++kz8 p)
theorem z05a {p:zz0} {r:kz4} (ha:(kz8 p).Nodup):pdup p r=true↔∃j,j<r.params.length∧pbad p r j=true:=by
 unfold pdup
 rw [ywx,List.nodup_append]
 constructor
 ·intro h
  by_cases hp:r.params.Nodup
  ·have:¬∀a∈r.params,∀b∈kz8 p,a≠b:=λz=>h ⟨hp,ha,z⟩
   simp only [Classical.not_forall,Classical.not_not] at this
   obtain ⟨a,h1,b,h2,h3⟩:=this
   obtain ⟨j,hj,e⟩:=List.mem_iff_getElem.1 h1
   refine ⟨j,hj,?_⟩
   unfold pbad
   rw [dif_pos hj,e,h3,decide_eq_true h2];rfl
  ·obtain ⟨k,hk,h⟩:=yyj.2 hp
   refine ⟨k,hk,?_⟩
   unfold pbad
   rw [dif_pos hk,decide_eq_true h,Bool.or_true]
 ·rintro ⟨j,hj,h⟩ ⟨h1,_,h3⟩
  unfold pbad at h
  rw [dif_pos hj,Bool.or_eq_true] at h
  rcases h with h|h
  ·exact h3 _ (List.getElem_mem hj) _ (of_decide_eq_true h) rfl
  ·exact (yyj.1 ⟨j,hj,of_decide_eq_true h⟩) h1
theorem yeo {l:List (List UInt8)} {k:Nat} (h:l.Nodup):(l.take k).Nodup:=h.sublist (List.take_sublist k l)
theorem yy4 {p:zz0} (hw:p.wf) (hs:p.size<=4000000) {m:List (List UInt8×Bool)} {m2:List (List UInt8×Int)} (hm:TM m (kz8 p)) (hm2:RM m2 (zz4 p)) (u:Bool) :
  Ev (λn=>z3x n false 0 u (mks m) (mvs m) p.rules (p.rules.length:Int) p (mks m2) (mvs m2)) (if (u || !p.rules.all (kR p))=true then 6 else if yg4 p=true then 2 else 0):=by
 have:=@zju p
 have:=@zek p
 have hr:(zz4 p).length=p.rules.length:=by simp [zz4]
 have main:∀k,k<=p.rules.length->∀w u:Bool,Ev (λn=>z3x n w (k:Int) u (mks m) (mvs m) p.rules (p.rules.length:Int) p (mks m2) (mvs m2)) (if (u || !(p.rules.drop k).all (kR p))=true then 6 else if (w||(p.rules.drop k).any (zop p))=true then 2 else 0) :=
  down (λw u=>by
   rw [zt0,Ev.kz1 (by simp),List.drop_length,Ev.pif,Ev.pif,Ev.kz0,Ev.kz0,Ev.kz0]
   cases u <;> cases w <;> simp) λk hk ih w u=>by
   have hmem:=List.getElem_mem hk
   have:=zne hmem
   have hwr:=yth hw hmem
   have:=@zxy p.rules[k]
   have hcl:=zl3 p.rules[k]
   have hxl:=ybr p.rules[k]
   have l9:∀u:Bool,Ev (λn=>z6r n w u (mks m) (mvs m) p.rules (p.rules.length:Int) (k:Int) p (mks m2) (mvs m2) p.rules[k]) (if ((u || !(zz9 p.rules[k]).all λc=>decide (c.1∈zz4 p)) || !(p.rules.drop (k+1)).all (kR p))=true then 6 else if ((w||zop p p.rules[k])||(p.rules.drop (k+1)).any (zop p))=true then 2 else 0):=λu=>by
    have hT:((zz9 p.rules[k]).map toT).length=(zz9 p.rules[k]).length:=by simp
    rw [y4g,Ev.yz0 (y8q (by omega)),kz3,kz3]
    have loop:∀j,j<=(zz9 p.rules[k]).length->∀w u:Bool,Ev (λn=>z6a n (j:Int) w u ((zz9 p.rules[k]).map toT) (mks m) (mvs m) p.rules (p.rules.length:Int) (k:Int) (((zz9 p.rules[k]).map toT).length:Int) p (mks m2) (mvs m2)) (if ((u || !((zz9 p.rules[k]).drop j).all λc=>decide (c.1∈zz4 p)) || !(p.rules.drop (k+1)).all (kR p))=true then 6 else if ((w||((zz9 p.rules[k]).drop j).any λc=>decide (c.1∈zz4 p)&&(c.2 != plen p c.1))||(p.rules.drop (k+1)).any (zop p))=true then 2 else 0) :=
     down (λw u=>by
      rw [zrp,Ev.kz1 (by simp),wrk (by omega),kz3,kz3,List.drop_length]
      simpa using ih w u) λj hj ihj w u=>by
      have hj':j<((zz9 p.rules[k]).map toT).length:=by simpa using hj
      have l11:∀w u:Bool,Ev (λn=>z2w n w u ((zz9 p.rules[k]).map toT) (mks m) (mvs m) p.rules (p.rules.length:Int) (k:Int) (((zz9 p.rules[k]).map toT).length:Int) (j:Int) p (mks m2) (mvs m2)) _:=λw u=>by
       rw [y2y,wrk (by omega),kz3,kz3];exact ihj w u
      have hget:=hm2 (zz9 p.rules[k])[j].1
      have l10:∀u:Bool,Ev (λn=>z4o n u ((zz9 p.rules[k]).map toT) (mks m) (mvs m) p.rules (p.rules.length:Int) (k:Int) (((zz9 p.rules[k]).map toT).length:Int) (j:Int) (Option.getD (z3p m2 (zz9 p.rules[k])[j].1) 0) (Option.isSome (z3p m2 (zz9 p.rules[k])[j].1)) w p (mks m2) (mvs m2) (toT (zz9 p.rules[k])[j])) (if ((u || !((zz9 p.rules[k]).drop (j+1)).all λc=>decide (c.1∈zz4 p)) || !(p.rules.drop (k+1)).all (kR p))=true then 6 else if (((w||(decide ((zz9 p.rules[k])[j].1∈zz4 p)&&((zz9 p.rules[k])[j].2 != plen p (zz9 p.rules[k])[j].1)))||((zz9 p.rules[k]).drop (j+1)).any λc=>decide (c.1∈zz4 p)&&(c.2 != plen p c.1))||(p.rules.drop (k+1)).any (zop p))=true then 2 else 0):=λu=>by
       rw [y2r,kz3,kz3]
       cases w with
       |true=>rw [Ev.yz1 rfl,Bool.true_or];exact l11 true u
       |false =>
        rw [Ev.kz1 rfl,Bool.false_or]
        by_cases hin:(zz9 p.rules[k])[j].1∈zz4 p
        · obtain ⟨i,hi,h1,h2,h3⟩:=y3t hin
          rw [hget,if_pos hin,decide_eq_true hin,Bool.true_and,h3,h1]
          show Ev (λn=>pIf true ((ix p.rules (i:Int)).bind _) _) _
          rw [Ev.yz1 rfl,Ev.kz2 (yz6 hi)]
          exact l11 _ u
        · rw [hget,if_neg hin,decide_eq_false hin,Bool.false_and]
          show Ev (λn=>pIf false _ _) _
          rw [Ev.kz1 rfl];exact l11 false u
      rw [zrp,Ev.yz1 (by simpa using hj),Ev.kz2 (yz6 hj'),List.getElem_map,kz3,kz3,<-List.getElem_cons_drop (h:=hj),List.all_cons,List.any_cons]
      cases u with
      |true=>rw [Ev.yz1 rfl];exact (l10 true).to (by simp)
      |false =>
       rw [Ev.kz1 rfl]
       have e:Option.isSome (z3p m2 (toT (zz9 p.rules[k])[j]).name)=decide ((zz9 p.rules[k])[j].1∈zz4 p):=by
        show Option.isSome (z3p m2 (zz9 p.rules[k])[j].1)=_
        rw [hget];by_cases q:(zz9 p.rules[k])[j].1∈zz4 p <;> simp [q]
       have:=l10 (!decide ((zz9 p.rules[k])[j].1∈zz4 p))
       have e2:Option.isSome (z3p m2 (zz9 p.rules[k])[j].1)=decide ((zz9 p.rules[k])[j].1∈zz4 p):=e
       rw [e2] at this
       rw [Bool.false_or,e]
       exact this.to (by rw [Bool.not_and,Bool.or_assoc w])
    have:=loop 0 (Nat.zero_le _) w u
    rw [List.drop_zero] at this
    exact this
   have l7:∀d,MK d ([[115,120],[115,121],[115,122]]++kz8 p)->Ev (λn=>z3w n 0 p.rules[k].params w (mks m) (mvs m) p.rules (p.rules.length:Int) (k:Int) u (p.rules[k].params.length:Int) p (mks m2) (mvs m2) p.rules[k] (mks d) (mvs d)) (if ((u || !kR p p.rules[k]) || !(p.rules.drop (k+1)).all (kR p))=true then 6 else if ((w||zop p p.rules[k])||(p.rules.drop (k+1)).any (zop p))=true then 2 else 0):=λd hd=>by
    have loop:∀j,j<=p.rules[k].params.length->∀d,MK d (([[115,120],[115,121],[115,122]]++kz8 p)++p.rules[k].params.take j)->Ev (λn=>z3w n (j:Int) p.rules[k].params w (mks m) (mvs m) p.rules (p.rules.length:Int) (k:Int) u (p.rules[k].params.length:Int) p (mks m2) (mvs m2) p.rules[k] (mks d) (mvs d)) (if ((u || !kR p p.rules[k]) || !(p.rules.drop (k+1)).all (kR p))=true then 6 else if ((w||zop p p.rules[k])||(p.rules.drop (k+1)).any (zop p))=true then 2 else 0) :=
     down (λd hd=>by
      rw [List.take_length] at hd
      rw [zso,Ev.kz1 (by simp),kz3,kz3,kz3]
      cases u with
      |true=>rw [Ev.yz1 rfl];have:=l9 true;simpa using this
      |false =>
       rw [Ev.kz1 rfl,Ev.yz0 (yw8 (by omega)),Ev.yz0 (ybq (K:=scope p p.rules[k]) hd (λe he=>(ye7 he).2 hwr) (λe he=>by have:=(ye7 he).1;omega) (by omega))]
       have:=l9 (!(zyk p.rules[k]).all (within (scope p p.rules[k])))
       rw [<-Bool.not_and] at this
       rw [Bool.false_or,kR]
       exact this) λj hj ihj d hd=>by
      rw [zso,Ev.yz1 (by simpa using hj),Ev.kz2 (yz6 hj),wrk (by omega),kz3,kz3,kz3]
      refine ihj _ ((hd.put p.rules[k].params[j]).ext λs => ?_)
      rw [List.append_assoc,zbc hj]
    exact loop 0 (Nat.zero_le _) d (by simpa using hd)
   have l6:∀len,∀es:List (List UInt8×Bool),es.length=len->∀d D,MK d D->(∀s,(s∈D∨s∈mks es)↔s∈[[115,120],[115,121],[115,122]]++kz8 p)->Ev (λn=>z6u n w (mks m) (mvs m) p.rules (p.rules.length:Int) (k:Int) u (mks es) (mvs es) p (mks m2) (mvs m2) p.rules[k] (mks d) (mvs d)) (if ((u || !kR p p.rules[k]) || !(p.rules.drop (k+1)).all (kR p))=true then 6 else if ((w||zop p p.rules[k])||(p.rules.drop (k+1)).any (zop p))=true then 2 else 0):=λlen=>by
    induction len with
    |zero =>
     intro es he d D hd hD
     have he:=List.length_eq_zero_iff.1 he
     subst he
     rw [zry]
     refine Ev.pick (λ_ => ?_) λi hi=>by cases hi
     rw [kz3,kz3,kz3]
     exact l7 d (hd.ext λs=>by rw [<-hD s];simp [mks])
    |succ len ihl =>
     intro es he d D hd hD
     rw [zry,kz3,kz3,kz3,kz3]
     refine Ev.pick (λh=>by rw [h] at he;cases he) λi hi => ?_
     refine ihl (es.eraseIdx i) (by rw [List.length_eraseIdx_of_lt hi];omega) _ _ (hd.put es[i].1) λs => ?_
     rw [<-hD s,List.mem_append,List.mem_singleton]
     rw [z01c hi s,or_assoc]
   rw [zt0,Ev.yz1 (by simpa using hk),Ev.kz2 (yz6 hk),kz3,kz3,<-List.getElem_cons_drop (h:=hk),List.all_cons,List.any_cons,Bool.not_and,<-Bool.or_assoc,<-Bool.or_assoc]
   refine l6 m.length m rfl _ [[115,120],[115,121],[115,122]] ?_ λs => ?_
   ·have h0:MK [] []:=λk=>by simp [z3p]
    exact ((h0.put _).put _).put _
   ·rw [hm.keys,List.mem_append]
 have:=main 0 (Nat.zero_le _) false u
 rw [List.drop_zero,Bool.false_or] at this
 exact this
end Go.Proofs.YtahcjggdcmgpkaaGreat
namespace Go.Proofs.YtahcjggdcmgpkaaGreat
open Go Go.Ab
set_option linter.unusedVariables false
set_option linter.unusedSimpArgs false
theorem zxd {p:zz0} (hw:p.wf) (hs:p.size<=4000000):Ev (λn=>z9c n p) (z5j p):=by
 have:=@zju p
 have:=@zek p
 have hal:(kz8 p).length=p.attrs.length:=by simp [kz8]
 have hrl:(zz4 p).length=p.rules.length:=by simp [zz4]
 have l2:∀(m:List (List UInt8×Bool)) (u:Bool),TM m (kz8 p)->(kz8 p).Nodup->∀k,k<=p.rules.length->∀m2,RM m2 ((zz4 p).take k)->((zz4 p).take k).Nodup->Ev (λn=>z5u n (k:Int) p.rules u (p.rules.length:Int) (mks m) (mvs m) (mks m2) (mvs m2) p) (if (dup (zz4 p)||(p.rules.drop k).any (pdup p))=true then 14 else if (u || !p.rules.all (kR p))=true then 6 else if yg4 p=true then 2 else 0):=λm u hm hn =>
  down (λm2 hm2 hn2=>by
   rw [<-hrl,List.take_length] at hm2 hn2
   rw [zt9,Ev.kz1 (by simp),kz3,kz3,List.drop_length,z01b.2 hn2]
   exact yy4 hw hs hm hm2 u) λk hk ih m2 hm2 hn2=>by
   have hmem:=List.getElem_mem hk
   have:=zne hmem
   have:=@zxy p.rules[k]
   have hget:=hm2 p.rules[k].name
   rw [zt9,Ev.yz1 (by simpa using hk),Ev.kz2 (yz6 hk),kz3,kz3]
   by_cases hin:p.rules[k].name∈(zz4 p).take k
   ·rw [hget,if_pos hin,Ev.yz1 (by rfl),Ev.kz0]
    have:dup (zz4 p)=true:=by
     rw [ywx];intro hd
     have h:=yeo (k:=k+1) hd
     rw [zxw hk,List.nodup_append] at h
     exact h.2.2 _ hin _ (List.mem_singleton.2 rfl) rfl
    rw [this];rfl
   ·rw [hget,if_neg hin,Ev.kz1 (by rfl)]
    have hlen:((zz4 p).take k).length=k:=by rw [List.length_take];omega
    have hput:=hm2.put hin
    rw [hlen,<-zxw hk] at hput
    have hnn:((zz4 p).take (k+1)).Nodup:=by
     rw [zxw hk,List.nodup_append]
     exact ⟨hn2,by simp,λa ha b hb e=>hin (by rw [<-List.mem_singleton.1 hb,<-e];exact ha)⟩
    have hv:=ih _ hput hnn
    have l3:=z04b (L:=λn j=>z6c n j p.rules[k].params p.rules u (p.rules.length:Int) (k:Int) (p.rules[k].params.length:Int) p.rules[k] (mks m) (mvs m) (mks (z95 m2 p.rules[k].name (k:Int))) (mvs (z95 m2 p.rules[k].name (k:Int))) p) (len:=p.rules[k].params.length) (p:=pbad p p.rules[k]) (got:=14) (z05a (r:=p.rules[k]) hn) (by
     rw [zsa,Ev.kz1 (by simp),wrk (by omega),kz3,kz3];exact hv) λj hj w hw'=>by
     have l4:∀b:Bool,Ev (λn=>z71 n p.rules[k].params p.rules u (p.rules.length:Int) (k:Int) (p.rules[k].params.length:Int) (j:Int) b p.rules[k] (mks m) (mvs m) (mks (z95 m2 p.rules[k].name (k:Int))) (mvs (z95 m2 p.rules[k].name (k:Int))) p) (if b=true then 14 else w):=λb=>by
      cases b
      ·rw [zrs,Ev.kz1 (by rfl),wrk (by omega),kz3,kz3];exact hw'
      ·rw [zrs,Ev.yz1 (by rfl),Ev.kz0];rfl
     rw [zsa,Ev.yz1 (by simpa using hj),Ev.kz2 (yz6 hj),kz3,kz3,hm.mk,pbad,dif_pos hj]
     by_cases h:p.rules[k].params[j]∈kz8 p
     ·rw [decide_eq_true h,Ev.yz1 rfl];exact l4 true
     ·rw [decide_eq_false h,Ev.kz1 rfl,Ev.yz0 (z01o (by omega))];exact l4 _
    refine l3.to ?_
    rw [<-List.getElem_cons_drop (h:=hk),List.any_cons]
    cases pdup p p.rules[k] <;> cases dup (zz4 p) <;> rfl
 have l0:∀k,k<=p.attrs.length->∀(u:Bool) (m:List (List UInt8×Bool)),TM m ((kz8 p).take k)->((kz8 p).take k).Nodup->Ev (λn=>z5v n (k:Int) u p.attrs (p.attrs.length:Int) (mks m) (mvs m) (mks ([]:List (List UInt8×Int))) (mvs ([]:List (List UInt8×Int))) p) (if dup (kz8 p)=true then 14 else if (dup (zz4 p)||p.rules.any (pdup p))=true then 14 else if ((u || !kA ((kz8 p).take k) (p.attrs.drop k)) || !p.rules.all (kR p))=true then 6 else if yg4 p=true then 2 else 0) :=
  down (λu m hm hn=>by
   rw [<-hal,List.take_length] at hm hn
   rw [zt4,Ev.kz1 (by simp),kz3,kz3,List.drop_length,z01b.2 hn,kA,if_neg (by simp)]
   have:=l2 m u hm hn 0 (Nat.zero_le _) [] (by rw [List.take_zero];exact RM.nil) (by rw [List.take_zero];exact List.nodup_nil)
   rw [List.drop_zero] at this
   simpa using this) λk hk ih u m hm hn=>by
   have hmem:=List.getElem_mem hk
   have:=zx0 hmem
   have:=@zx6 p.attrs[k]
   have l1:∀u:Bool,Ev (λn=>z6t n u p.attrs (p.attrs.length:Int) (k:Int) (mks m) (mvs m) (mks ([]:List (List UInt8×Int))) (mvs ([]:List (List UInt8×Int))) p p.attrs[k]) (if dup (kz8 p)=true then 14 else if (dup (zz4 p)||p.rules.any (pdup p))=true then 14 else if ((u || !kA ((kz8 p).take (k+1)) (p.attrs.drop (k+1))) || !p.rules.all (kR p))=true then 6 else if yg4 p=true then 2 else 0):=λu=>by
    rw [y3p,kz3,kz3,hm p.attrs[k].name]
    by_cases hin:p.attrs[k].name∈(kz8 p).take k
    ·rw [if_pos hin]
     show Ev (λn=>pIf true _ _) _
     rw [Ev.yz1 rfl,Ev.kz0]
     have:dup (kz8 p)=true:=by
      rw [ywx];intro hd
      have h:=yeo (k:=k+1) hd
      rw [zla hk,List.nodup_append] at h
      exact h.2.2 _ hin _ (List.mem_singleton.2 rfl) rfl
     rw [this];rfl
    ·rw [if_neg hin]
     show Ev (λn=>pIf false _ _) _
     rw [Ev.kz1 rfl,wrk (by omega)]
     refine ih u _ ?_ ?_
     ·rw [zla hk];exact hm.put _
     ·rw [zla hk,List.nodup_append]
      exact ⟨hn,by simp,λa ha b hb e=>hin (by rw [<-List.mem_singleton.1 hb,<-e];exact ha)⟩
   rw [zt4,Ev.yz1 (by simpa using hk),Ev.kz2 (yz6 hk),kz3,kz3,zz7.yz5,zz1.yz5,<-List.getElem_cons_drop (h:=hk),kA,<-zla hk]
   cases u with
   |true=>rw [Ev.yz1 rfl];exact (l1 true).to (by simp)
   |false =>
    rw [Ev.kz1 rfl,Ev.yz0 (yet hm.mk (z010 hw hmem) (by omega)),kz3]
    exact (l1 _).to (by rw [Bool.false_or,Bool.not_and])
 have h0:=l0 0 (Nat.zero_le _) false [] (by rw [List.take_zero];exact TM.nil) (by rw [List.take_zero];exact List.nodup_nil)
 rw [yfe,Ev.yz0 (yyc (by omega)),z5j]
 cases y4e p
 case true=>rw [Ev.yz1 (by rfl),Ev.kz0];rfl
 rw [Ev.kz1 (by rfl),Ev.yz0 (yt5 hw (by omega)),if_neg (by simp)]
 cases zf8 p
 case false=>rw [Ev.yz1 (by rfl),Ev.kz0];rfl
 rw [Ev.kz1 (by rfl),if_pos rfl]
 refine Ev.to h0 ?_
 rw [List.take_zero,List.drop_zero,ynu,y6k]
 show (if dup (kz8 p)=true then _ else if (dup (zz4 p)||p.rules.any λr=>dup (r.params++kz8 p))=true then _ else _)=_
 cases dup (kz8 p) <;> cases (dup (zz4 p)||p.rules.any λr=>dup (r.params++kz8 p)) <;> cases kA [] p.attrs <;> cases p.rules.all (kR p) <;> rfl
theorem zb3 {l:List (List UInt8)} (h:zdm l):l.Nodup:=by
 refine List.Pairwise.imp (λ{a b} hab e => ?_) h
 subst e;rw [ztv] at hab;cases hab
theorem yqg {s:List UInt8} {acc:List (List UInt8)} (hb:acc.length<=8000000):Ev (λn=>z9z n s acc) (ins acc s):=by
 have hil:=y00 s acc
 have fin:∀k,k<=acc.length->acc.takeWhile (λx=>Op.bytesLess x s)=acc.take k->acc.dropWhile (λx=>Op.bytesLess x s)=acc.drop k->Ev (λn=>z4m n s (k:Int) false acc) (ins acc s):=λk hk ht hd=>by
  have hins:=yqw s acc
  rw [ht,hd] at hins
  have put:ins acc s=acc.take k++s::acc.drop k->Ev (λn=>z4q n s (k:Int) false acc) (ins acc s):=λhi=>by
   obtain ⟨s1,s2⟩:=ynl hk s
   have hx:ext acc [[]]=some (acc++[[]]):=z1k (by simp;omega)
   have hc1:y4b (acc++[[]]) ((k+1:Nat):Int)=some ():=by unfold y4b;rw [if_pos (by simp;omega)]
   have hc2:y4b (acc++[[]]) (k:Int)=some ():=by unfold y4b;rw [if_pos (by simp;omega)]
   have hg:ix (acc.take k++[(acc++[[]])[k]'(by simp;omega)]++acc.drop k) (k:Int)=some ((acc++[[]])[k]'(by simp;omega)):=by
    rw [z00e,List.append_assoc,List.getElem?_append_right (by simp;omega)]
    simp [Nat.min_eq_left hk]
   rw [zq9,Ev.kz1 (by rfl),Ev.kz2 hx,wrk (by omega),Ev.kz2 hc1,Ev.kz2 hc2,Ev.kz2 s1,Ev.kz2 hg,Int.toNat_natCast,s2,<-hi,Ev.kz0]
  rw [zqs,Ev.kz1 (by rfl)]
  by_cases he:k=acc.length
  ·rw [Ev.kz1 (by simp;omega)]
   exact put (by rw [hins,if_neg (by rw [List.drop_of_length_le (by omega)];simp)])
  ·have hlt:k<acc.length:=by omega
   rw [Ev.yz1 (by simp;omega),Ev.kz2 (yz6 hlt)]
   have hhead:(acc.drop k).head?=some acc[k]:=by rw [<-List.getElem_cons_drop (h:=hlt)];rfl
   by_cases heq:acc[k]=s
   ·rw [show (acc[k]==s)=true by simpa using heq,zq9,Ev.yz1 (by rfl),Ev.kz0]
    rw [hins,if_pos (by rw [hhead,heq])]
   ·rw [show (acc[k]==s)=false by simpa using heq]
    exact put (by rw [hins,if_neg (by rw [hhead];simpa using heq)])
 have place:∀k,k<=acc.length->(acc.take k).all (λx=>Op.bytesLess x s)=true->Ev (λn=>z2r n (k:Int) s acc) (ins acc s) :=
  down (Q:=λk=>(acc.take k).all (λx=>Op.bytesLess x s)=true->Ev (λn=>z2r n (k:Int) s acc) (ins acc s)) (λhall=>by
   rw [List.take_length] at hall
   rw [List.all_eq_true] at hall
   rw [zq7,Ev.kz1 (by simp)]
   refine fin _ (Nat.le_refl _) ?_ ?_
   ·rw [List.take_length];exact (y2e hall).1
   ·rw [List.drop_length];exact (y2e hall).2) λk hk ihk hall=>by
   have hsplit:acc=acc.take k++acc.drop k:=(List.take_append_drop k acc).symm
   rw [zq7,Ev.yz1 (by simpa using hk),Ev.kz2 (yz6 hk)]
   cases hb:Op.bytesLess acc[k] s
   ·rw [List.all_eq_true] at hall
    refine fin k (by omega) ?_ ?_
    ·conv=>lhs;rw [hsplit]
     rw [List.takeWhile_append_of_pos hall,<-List.getElem_cons_drop (h:=hk),List.takeWhile_cons_of_neg (by simp [hb]),List.append_nil]
    ·conv=>lhs;rw [hsplit]
     rw [List.dropWhile_append_of_pos hall,<-List.getElem_cons_drop (h:=hk),List.dropWhile_cons_of_neg (by simp [hb])]
   ·rw [zqs,Ev.yz1 (by rfl),wrk (by omega)]
    refine ihk ?_
    rw [<-zbc hk,List.all_append,hall];simp [hb]
 rw [yaa]
 exact place 0 (Nat.zero_le _) (by simp)
theorem yvm {α σ:Type} {L:Nat->Int->Option (Int×σ)} {xs:List α} {f:α->List UInt8} {s:List UInt8} {st:σ} (he:Ev (λn=>L n (xs.length:Int)) (-1,st))
  (hs:∀k (h:k<xs.length) v,(f xs[k]=s->Ev (λn=>L n (k:Int)) ((k:Int),st))∧(f xs[k]≠s->Ev (λn=>L n ((k+1:Nat):Int)) v->Ev (λn=>L n (k:Int)) v)):Ev (λn=>L n 0) (atI (xs.map f) s,st):=by
 have:∀k,k<=xs.length->Ev (λn=>L n (k:Int)) (if atI ((xs.drop k).map f) s = -1 then -1 else atI ((xs.drop k).map f) s+k,st) :=
  down (by rw [List.drop_length];exact he) λk hk ih=>by
   obtain ⟨h1,h2⟩:=hs k hk (if atI ((xs.drop (k+1)).map f) s = -1 then -1 else atI ((xs.drop (k+1)).map f) s+((k+1:Nat):Int),st)
   rw [<-List.getElem_cons_drop (h:=hk),List.map_cons,zqu]
   by_cases q:f xs[k]=s
   ·rw [if_pos q];refine (h1 q).to ?_;simp
   ·rw [if_neg q]
    refine (h2 q ih).to ?_
    have h0:=@z04v ((xs.drop (k+1)).map f) s
    by_cases z:atI ((xs.drop (k+1)).map f) s = -1
    ·rw [if_pos z,if_pos z,if_pos rfl]
    ·rw [if_neg z,if_neg z,if_neg (by omega)]
     have:atI ((xs.drop (k+1)).map f) s+((k+1:Nat):Int)=atI ((xs.drop (k+1)).map f) s+1+(k:Int):=by omega
     rw [this]
 have:=this 0 (Nat.zero_le _)
 rw [List.drop_zero] at this
 refine Ev.to this ?_
 split
 ·rename_i h;rw [h]
 ·simp
theorem ywy {p:zz0} {s:List UInt8} (hs:p.size<=4000000):Ev (λn=>zi5 n p s) (atI (zz4 p) s):=by
 have:=@zek p
 have h:Ev (λn=>yzj n p.rules s) (atI (zz4 p) s,s):=by
  rw [zgd]
  refine yvm (L:=λn k=>kzc n k p.rules (p.rules.length:Int) s) (xs:=p.rules) (f:=(·.name)) (by rw [z19,Ev.kz1 (by simp),Ev.kz0]) λk hk v => ?_
  have hf:Ev (λn=>zg5 n p.rules[k] s) (p.rules[k].name==s,s):=by rw [yl4,Ev.kz0]
  constructor
  ·intro q
   rw [z19,Ev.yz1 (by simpa using hk),Ev.kz2 (yz6 hk),Ev.yz0 hf,Ev.yz1 (by simpa using q),Ev.kz0]
  ·intro q hv
   rw [z19,Ev.yz1 (by simpa using hk),Ev.kz2 (yz6 hk),Ev.yz0 hf,Ev.kz1 (by simpa using q),wrk (by omega)]
   exact hv
 rw [ywp,Ev.yz0 h,Ev.kz0]
end Go.Proofs.YtahcjggdcmgpkaaGreat
namespace Go.Proofs.YtahcjggdcmgpkaaGreat
open Go Go.Ab
set_option linter.unusedVariables false
set_option linter.unusedSimpArgs false
def z99 (r:kz4):List (List UInt8):=(zz9 r).map (·.1)
def nx (p:zz0) (s:List UInt8):List (List UInt8):=match p.rules[(atI (zz4 p) s).toNat]? with
 |some r=>z99 r
 |none=>[]
theorem zxe {p:zz0} (h:z5j p=0):zf8 p=true∧(zz4 p).Nodup∧(∀r∈p.rules,∀c∈z99 r,c∈zz4 p):=by
 unfold z5j at h
 by_cases h1:y4e p=true
 ·rw [if_pos h1] at h;cases h
 rw [if_neg h1] at h
 by_cases h2:zf8 p=true
 case neg=>rw [if_neg h2] at h;cases h
 rw [if_pos h2] at h
 by_cases h3:ynu p=true
 ·rw [if_pos h3] at h;cases h
 rw [if_neg h3] at h
 by_cases h4:y6k p=true
 case neg=>rw [if_neg h4] at h;cases h
 refine ⟨h2,?_,λr hr c hc => ?_⟩
 ·unfold ynu at h3
  simp only [Bool.or_eq_true,not_or] at h3
  exact z01b.1 (by simpa using h3.2.1)
 ·have h5:=List.all_eq_true.1 (Bool.and_eq_true_iff.1 h4).2 r hr
  obtain ⟨q,hq,rfl⟩:=List.mem_map.1 hc
  exact of_decide_eq_true (List.all_eq_true.1 (Bool.and_eq_true_iff.1 h5).2 q hq)
theorem z06w {p:zz0} (hn:(zz4 p).Nodup) {r:kz4} (hr:r∈p.rules):nx p r.name=z99 r:=by
 obtain ⟨j,hj,e⟩:=List.mem_iff_getElem.1 hr
 have hj':j<(zz4 p).length:=by simpa [zz4] using hj
 have hx:(zz4 p)[j]=r.name:=by simp [zz4,e]
 obtain ⟨i,hi,h1,h2,_⟩:=zyb (l:=zz4 p) (s:=r.name) (by rw [<-hx];exact List.getElem_mem hj')
 have hij:i=j:=(List.getElem_inj hn).1 (by rw [h2,hx])
 unfold nx
 rw [h1,Int.toNat_natCast,hij,List.getElem?_eq_getElem hj,e]
inductive Rch (p:zz0) (root:List UInt8):List UInt8->Prop
 |refl:Rch p root root
 |step {x y:List UInt8}:Rch p root x->y∈nx p x->Rch p root y
theorem ztl {p:zz0} {root:List UInt8} (hc:∀r∈p.rules,∀c∈z99 r,c∈zz4 p) (hr:root∈zz4 p) {x:List UInt8} (h:Rch p root x):x∈zz4 p:=by
 induction h with
 |refl=>exact hr
 |step _ hy _ =>
  unfold nx at hy
  split at hy
  · rename_i r hr;exact hc r (List.mem_of_getElem? hr) _ hy
  · cases hy
theorem ypk {p:zz0} {root:List UInt8} {l:List (List UInt8)} (h0:root∈l) (hc:∀x∈l,∀y∈nx p x,y∈l) {x:List UInt8} (h:Rch p root x):x∈l:=by
 induction h with
 |refl=>exact h0
 |step _ hy ih=>exact hc _ ih _ hy
theorem zf9 {l m:List (List UInt8)} (hn:l.Nodup) (h:∀x∈l,x∈m):l.length<=m.length:=hn.length_le_of_subset h
theorem z07c {p:zz0} {s:List UInt8} {i:Nat} (hi:i<p.rules.length) (h:atI (zz4 p) s=(i:Int)):nx p s=z99 p.rules[i]:=by
 unfold nx;rw [h,Int.toNat_natCast,List.getElem?_eq_getElem hi]
theorem z00p {l:List (List UInt8)} (h:l.length<=8000000):Ev (λn=>z0k n l) (z01 l):=Ev.pure (by show (if l.length<4611686018427387904 then _ else _)=_;rw [if_pos (by omega)])
def Set (p:zz0) (root:List UInt8) (r:List (List UInt8)×Int):Prop:=r.2=0∧zdm r.1∧∀x,x∈r.1↔Rch p root x
theorem z019 {p:zz0} {root:List UInt8} {a b:List (List UInt8)×Int} (ha:Set p root a) (hb:Set p root b):a=b:=by
 obtain ⟨a1,a2⟩:=a
 obtain ⟨b1,b2⟩:=b
 have h1:a1=b1:=zk9 ha.2.1 hb.2.1 λx=>by rw [ha.2.2,hb.2.2]
 have h2:a2=b2:=by have:=ha.1;have:=hb.1;simp only at *;omega
 rw [h1,h2]
theorem y81 {p:zz0} {root:List UInt8} (hw:p.wf) (hs:p.size<=4000000):∃r,Ev (λn=>zby n p root) r∧(if z5j p≠0 then r=([],z5j p) else if root∈zz4 p then Set p root r else r=([],6)):=by
 have hpl:=@zek p
 have hrl:(zz4 p).length=p.rules.length:=by simp [zz4]
 simp only [yfu,Ev.yz0 (zxd hw hs)]
 by_cases hc:z5j p=0
 case neg=>exact ⟨([],z5j p),by rw [Ev.yz1 (by simpa using hc),Ev.kz0],by rw [if_pos hc]⟩
 obtain ⟨hf,hnd,hcn⟩:=zxe hc
 simp only [if_neg (show ¬z5j p≠0 by simp [hc]),Ev.kz1 (show (z5j p != 0)=false by simpa using hc),Ev.yz0 (ywy hs)]
 by_cases hin:root∈zz4 p
 case neg=>exact ⟨([],6),by rw [Ev.yz1 (decide_eq_true (z4g.2 hin)),Ev.kz0],by rw [if_neg hin]⟩
 simp only [if_pos hin,Ev.kz1 (show decide (atI (zz4 p) root<0)=false from decide_eq_false λq=>z4g.1 q hin)]
 have main:∀d i (out:List (List UInt8)) m,(zz4 p).length-i=d->i<=out.length->out.Nodup->TM m out->root∈out->(∀x∈out,Rch p root x)->(∀j x,j<i->out[j]? = some x->∀y∈nx p x,y∈out)->∃r,Ev (λn=>z65 n (i:Int) out (mks m) (mvs m) p) r∧Set p root r:=λd=>by
  induction d with
  |zero =>
   intro i out m hd hi hn hm h0 hr hcl
   have hsub:=zf9 hn λx hx=>ztl hcn hin (hr x hx)
   have hil:i=out.length:=by omega
   refine ⟨(z01 out,0),?_,rfl,zif hn,λx => ?_⟩
   · rw [zm9,Ev.kz1 (by simp;omega),Ev.yz0 (z00p (by omega)),Ev.kz0]
   · rw [(zd6 out).mem_iff]
     refine ⟨hr x,ypk h0 λx hx y hy => ?_⟩
     obtain ⟨j,hj,e⟩:=List.mem_iff_getElem.1 hx
     exact hcl j x (by omega) (by rw [List.getElem?_eq_getElem hj,e]) y hy
  |succ d ih =>
   intro i out m hd hi hn hm h0 hr hcl
   have hsub:=zf9 hn λx hx=>ztl hcn hin (hr x hx)
   by_cases hil:i=out.length
   · refine ⟨(z01 out,0),?_,rfl,zif hn,λx => ?_⟩
     · rw [zm9,Ev.kz1 (by simp;omega),Ev.yz0 (z00p (by omega)),Ev.kz0]
     · rw [(zd6 out).mem_iff]
       refine ⟨hr x,ypk h0 λx hx y hy => ?_⟩
       obtain ⟨j,hj,e⟩:=List.mem_iff_getElem.1 hx
       exact hcl j x (by omega) (by rw [List.getElem?_eq_getElem hj,e]) y hy
   have hlt:i<out.length:=by omega
   have hrx:=hr _ (List.getElem_mem hlt)
   obtain ⟨a,ha,h1,h2,h3⟩:=y3t (ztl hcn hin hrx)
   have:=zne (List.getElem_mem ha)
   have hca:=zl3 p.rules[a]
   have hnx:=z07c ha h1
   have hml:((zz9 p.rules[a]).map toT).length=(zz9 p.rules[a]).length:=by simp
   have inner:∀j,j<=(zz9 p.rules[a]).length->∀(o:List (List UInt8)) m,o.Nodup->TM m o->out <+: o->(∀x∈o,Rch p root x)->(∀y∈(z99 p.rules[a]).take j,y∈o)->∃r,Ev (λn=>z6i n (j:Int) ((zz9 p.rules[a]).map toT) (i:Int) (((zz9 p.rules[a]).map toT).length:Int) o (mks m) (mvs m) p) r∧Set p root r :=
    down (λo m hn hm hpre hr hall=>by
     have hsub':=zf9 hn λx hx=>ztl hcn hin (hr x hx)
     have hol:=hpre.length_le
     have e:(z99 p.rules[a]).length=(zz9 p.rules[a]).length:=by simp [z99]
     rw [<-e,List.take_length] at hall
     obtain ⟨r,hr1,hr2⟩:=ih (i+1) o m (by omega) (by omega) hn hm (hpre.subset h0) hr λj x hj hx y hy=>by
      obtain ⟨t,rfl⟩:=hpre
      rw [List.getElem?_append_left (by omega)] at hx
      by_cases q:j<i
      · exact List.mem_append_left _ (hcl j x q hx y hy)
      · have:j=i:=by omega
        subst this
        rw [List.getElem?_eq_getElem hlt] at hx
        injection hx with hx
        rw [<-hx,hnx] at hy
        exact hall y hy
     exact ⟨r,by rw [zms,Ev.kz1 (by simp),wrk (by omega),kz3];exact hr1,hr2⟩) λj hj ihj o m hn hm hpre hr hall=>by
     have hsub':=zf9 hn λx hx=>ztl hcn hin (hr x hx)
     have hj':j<((zz9 p.rules[a]).map toT).length:=by simpa using hj
     have hjc:j<(z99 p.rules[a]).length:=by simpa [z99] using hj
     have hcj:(z99 p.rules[a])[j]=(zz9 p.rules[a])[j].1:=by simp [z99]
     have htk:(z99 p.rules[a]).take (j+1)=(z99 p.rules[a]).take j++[(zz9 p.rules[a])[j].1]:=by rw [<-hcj,zbc hjc]
     have hmj:=hm.mk (zz9 p.rules[a])[j].1
     by_cases q:(zz9 p.rules[a])[j].1∈o
     · obtain ⟨r,hr1,hr2⟩:=ihj o m hn hm hpre hr λy hy=>by
        rw [htk,List.mem_append,List.mem_singleton] at hy
        rcases hy with hy|hy
        · exact hall y hy
        · rw [hy];exact q
       refine ⟨r,?_,hr2⟩
       rw [zms,Ev.yz1 (by simpa using hj),Ev.kz2 (yz6 hj'),List.getElem_map,kz3]
       show Ev (λn=>pIf (!Option.getD (z3p m (zz9 p.rules[a])[j].1) false) _ _) _
       rw [hmj,decide_eq_true q,Ev.kz1 (by rfl),ztg,wrk (by omega),kz3];exact hr1
     · have hrc:Rch p root (zz9 p.rules[a])[j].1:=.step hrx (by rw [hnx,<-hcj];exact List.getElem_mem hjc)
       obtain ⟨r,hr1,hr2⟩:=ihj (o++[(zz9 p.rules[a])[j].1]) _ (by
        rw [List.nodup_append]
        exact ⟨hn,by simp,λx hx y hy e=>q (by rw [<-List.mem_singleton.1 hy,<-e];exact hx)⟩) (hm.put _) (hpre.trans (List.prefix_append _ _)) (λx hx=>by
        rcases List.mem_append.1 hx with hx|hx
        · exact hr x hx
        · rw [List.mem_singleton.1 hx];exact hrc) λy hy=>by
        rw [htk,List.mem_append] at hy
        rcases hy with hy|hy
        · exact List.mem_append_left _ (hall y hy)
        · exact List.mem_append_right _ hy
       refine ⟨r,?_,hr2⟩
       rw [zms,Ev.yz1 (by simpa using hj),Ev.kz2 (yz6 hj'),List.getElem_map,kz3]
       show Ev (λn=>pIf (!Option.getD (z3p m (zz9 p.rules[a])[j].1) false) ((ext o [(zz9 p.rules[a])[j].1]).bind _) _) _
       rw [hmj,decide_eq_false q,Ev.yz1 (by rfl),Ev.kz2 (z1k (by simp only [List.length_cons,List.length_nil];omega)),ztg,wrk (by omega),kz3];exact hr1
   obtain ⟨r,hr1,hr2⟩:=inner 0 (Nat.zero_le _) out m hn hm (List.prefix_refl _) hr (by simp)
   refine ⟨r,?_,hr2⟩
   rw [zm9,Ev.yz1 (by simpa using hlt),Ev.kz2 (yz6 hlt),Ev.yz0 (ywy hs),h1,Ev.kz2 (yz6 ha),Ev.yz0 (y8q (by omega)),kz3]
   exact hr1
 exact main _ 0 [root] _ rfl (Nat.zero_le _) (by simp) (TM.nil.put root) (by simp) (λx hx=>by rw [List.mem_singleton.1 hx];exact .refl) λj x hj=>by omega
theorem yvb {p:zz0} {root:List UInt8} (hw:p.wf) (hs:p.size<=4000000):∃r,Ev (λn=>zbp n p root) r∧(if z5j p≠0 then r=([],z5j p) else if root∈zz4 p then Set p root r else r=([],6)):=by
 have hpl:=@zek p
 have hrl:(zz4 p).length=p.rules.length:=by simp [zz4]
 simp only [ydl,Ev.yz0 (zo8 hw hs)]
 by_cases hc:z5j p=0
 case neg=>exact ⟨([],z5j p),by rw [Ev.yz1 (by simpa using hc),Ev.yz0 (zo8 hw hs),Ev.kz0],by rw [if_pos hc]⟩
 obtain ⟨hf,hnd,hcn⟩:=zxe hc
 simp only [if_neg (show ¬z5j p≠0 by simp [hc]),Ev.kz1 (show (z5j p != 0)=false by simpa using hc),Ev.yz0 (zf2 (show p.size<=8000000 by omega)),Ev.yz0 (zmx (l:=zz4 p) (s:=root) (by omega))]
 by_cases hin:root∈zz4 p
 case neg=>exact ⟨([],6),by rw [Ev.yz1 (decide_eq_true (z4g.2 hin)),Ev.kz0],by rw [if_neg hin]⟩
 simp only [if_pos hin,Ev.kz1 (show decide (atI (zz4 p) root<0)=false from decide_eq_false λq=>z4g.1 q hin)]
 have main:∀d,∀out:List (List UInt8),(zz4 p).length-out.length=d->zdm out->root∈out->(∀x∈out,Rch p root x)->∃r,Ev (λn=>z6s n true out p) r∧Set p root r:=λd=>by
  induction d using Nat.strongRecOn with
  |ind d ih =>
   intro out hd hst h0 hr
   have pass:∀k,k<=p.rules.length->∀(more:Bool) (o:List (List UInt8)),zdm o->root∈o->(∀x∈o,Rch p root x)->(more=true->out.length<o.length)->(more=false->∀j (h:j<p.rules.length),j<k->p.rules[j].name∈o->∀y∈z99 p.rules[j],y∈o)->out.length<=o.length->∃r,Ev (λn=>z6z n (k:Int) more o p) r∧Set p root r :=
    down (λmore o hst h0 hr hmore hcl hle=>by
     have hsub:=zf9 (zb3 hst) λx hx=>ztl hcn hin (hr x hx)
     simp only [zmj,Ev.kz1 (show decide ((p.rules.length:Int)<(p.rules.length:Int))=false by simp)]
     cases more with
     |true =>
      have hm:=hmore rfl
      exact ih ((zz4 p).length-o.length) (by omega) o rfl hst h0 hr
     |false =>
      refine ⟨(o,0),by rw [zt5,Ev.kz1 (by rfl),Ev.kz0],rfl,hst,λx=>⟨hr x,ypk h0 λx hx y hy => ?_⟩⟩
      obtain ⟨a,ha,h1,h2,h3⟩:=y3t (ztl hcn hin (hr x hx))
      rw [z07c ha h1] at hy
      exact hcl rfl a ha ha (by rw [h2];exact hx) y hy) λk hk ihk more o hst h0 hr hmore hcl hle=>by
     have hsub:=zf9 (zb3 hst) λx hx=>ztl hcn hin (hr x hx)
     have hmem:=List.getElem_mem hk
     have:=zne hmem
     have hca:=zl3 p.rules[k]
     have l4:∀(more:Bool) (o:List (List UInt8)),zdm o->root∈o->(∀x∈o,Rch p root x)->(more=true->out.length<o.length)->(more=false->∀j (h:j<p.rules.length),j<k+1->p.rules[j].name∈o->∀y∈z99 p.rules[j],y∈o)->out.length<=o.length->∃r,Ev (λn=>z5r n more (k:Int) o p) r∧Set p root r:=λmore o h1 h2 h3 h4 h5 h6=>by
      obtain ⟨r,hr1,hr2⟩:=ihk more o h1 h2 h3 h4 h5 h6
      exact ⟨r,by rw [y4w,wrk (by omega)];exact hr1,hr2⟩
     by_cases hino:p.rules[k].name∈o
     case neg =>
      obtain ⟨r,hr1,hr2⟩:=l4 more o hst h0 hr hmore (λhm j hj hjk hjo y hy=>by
       by_cases q:j<k
       · exact hcl hm j hj q hjo y hy
       · have:j=k:=by omega
         subst this;exact (hino hjo).elim) hle
      exact ⟨r,by rw [zmj,Ev.yz1 (by simpa using hk),Ev.kz2 (yz6 hk),Ev.yz0 (zu4 (by omega)),Ev.yz1 (decide_eq_true (z4g.2 hino))];exact hr1,hr2⟩
     have hrk:=hr _ hino
     have hnx:=z06w hnd hmem
     have hml:((zz9 p.rules[k]).map toG).length=(zz9 p.rules[k]).length:=by simp
     have inner:∀j,j<=(zz9 p.rules[k]).length->∀(more:Bool) (o:List (List UInt8)),zdm o->root∈o->(∀x∈o,Rch p root x)->(more=true->out.length<o.length)->(more=false->(∀j (h:j<p.rules.length),j<k->p.rules[j].name∈o->∀y∈z99 p.rules[j],y∈o)∧∀y∈(z99 p.rules[k]).take j,y∈o)->out.length<=o.length->∃r,Ev (λn=>z77 n (j:Int) ((zz9 p.rules[k]).map toG) more (k:Int) o p) r∧Set p root r :=
      down (λmore o hst h0 hr hmore hcl hle=>by
       have e:(z99 p.rules[k]).length=(zz9 p.rules[k]).length:=by simp [z99]
       rw [<-e,List.take_length] at hcl
       obtain ⟨r,hr1,hr2⟩:=l4 more o hst h0 hr hmore (λhm j hj hjk hjo y hy=>by
        by_cases q:j<k
        · exact (hcl hm).1 j hj q hjo y hy
        · have:j=k:=by omega
          subst this;exact (hcl hm).2 y hy) hle
       exact ⟨r,by rw [zm6,Ev.kz1 (by simp)];exact hr1,hr2⟩) λj hj ihj more o hst h0 hr hmore hcl hle=>by
       have hsub:=zf9 (zb3 hst) λx hx=>ztl hcn hin (hr x hx)
       have hj':j<((zz9 p.rules[k]).map toG).length:=by simpa using hj
       have hjc:j<(z99 p.rules[k]).length:=by simpa [z99] using hj
       have hcj:(z99 p.rules[k])[j]=(zz9 p.rules[k])[j].1:=by simp [z99]
       have htk:(z99 p.rules[k]).take (j+1)=(z99 p.rules[k]).take j++[(zz9 p.rules[k])[j].1]:=by rw [<-hcj,zbc hjc]
       by_cases q:(zz9 p.rules[k])[j].1∈o
       · obtain ⟨r,hr1,hr2⟩:=ihj more o hst h0 hr hmore (λhm=>⟨(hcl hm).1,λy hy=>by
          rw [htk,List.mem_append,List.mem_singleton] at hy
          rcases hy with hy|hy
          · exact (hcl hm).2 y hy
          · rw [hy];exact q⟩) hle
         refine ⟨r,?_,hr2⟩
         rw [zm6,Ev.yz1 (by simpa using hj),Ev.kz2 (yz6 hj'),List.getElem_map]
         show Ev (λn=>(z4c n (zz9 p.rules[k])[j].1 o).bind _) _
         rw [Ev.yz0 (zu4 (by omega)),Ev.kz1 (decide_eq_false λz=>z4g.1 z q),zsr,wrk (by omega)];exact hr1
       · have hrc:Rch p root (zz9 p.rules[k])[j].1:=.step hrk (by rw [hnx,<-hcj];exact List.getElem_mem hjc)
         have hins:o.length<(ins o (zz9 p.rules[k])[j].1).length:=by
          rcases Nat.lt_or_ge o.length (ins o (zz9 p.rules[k])[j].1).length with z|z
          · exact z
          · exfalso
            have hn2:=zb3 (znp (s:=(zz9 p.rules[k])[j].1) hst)
            have hc:=zf9 (l:=(zz9 p.rules[k])[j].1::o) (m:=ins o (zz9 p.rules[k])[j].1) (List.nodup_cons.2 ⟨q,zb3 hst⟩) λx hx=>by
             rw [zo1];rcases List.mem_cons.1 hx with h|h
             · exact .inr h
             · exact .inl h
            rw [List.length_cons] at hc;omega
         obtain ⟨r,hr1,hr2⟩:=ihj true (ins o (zz9 p.rules[k])[j].1) (znp hst) ((zo1 _ _ _).2 (.inl h0)) (λx hx=>by
          rcases (zo1 _ _ _).1 hx with hx|hx
          · exact hr x hx
          · rw [hx];exact hrc) (λ_=>by omega) (λh=>by cases h) (by omega)
         refine ⟨r,?_,hr2⟩
         rw [zm6,Ev.yz1 (by simpa using hj),Ev.kz2 (yz6 hj'),List.getElem_map]
         show Ev (λn=>(z4c n (zz9 p.rules[k])[j].1 o).bind _) _
         rw [Ev.yz0 (zu4 (by omega)),Ev.yz1 (decide_eq_true (z4g.2 q)),Ev.kz2 (yz6 hj'),List.getElem_map]
         show Ev (λn=>(z9z n (zz9 p.rules[k])[j].1 o).bind _) _
         rw [Ev.yz0 (yqg (by omega)),zsr,wrk (by omega)];exact hr1
     obtain ⟨r,hr1,hr2⟩:=inner 0 (Nat.zero_le _) more o hst h0 hr hmore (λhm=>⟨hcl hm,by simp⟩) hle
     refine ⟨r,?_,hr2⟩
     rw [zmj,Ev.yz1 (by simpa using hk),Ev.kz2 (yz6 hk),Ev.yz0 (zu4 (by omega)),Ev.kz1 (decide_eq_false λz=>z4g.1 z hino),Ev.kz2 (yz6 hk),Ev.yz0 (y1p (by omega) λc hc a ha=>ydu (y3b hf _ hmem c hc a ha))]
     exact hr1
   obtain ⟨r,hr1,hr2⟩:=pass 0 (Nat.zero_le _) false out hst h0 hr (λh=>by cases h) (λ_ j hj hj0=>by omega) (Nat.le_refl _)
   exact ⟨r,by rw [zt5,Ev.yz1 (by rfl)];exact hr1,hr2⟩
 exact main _ [root] rfl (by simp [zdm]) (by simp) λx hx=>by rw [List.mem_singleton.1 hx];exact .refl
theorem z038 {p:zz0} {s:List UInt8} {r:List (List UInt8)×Int} (hs:p.size<=4000000) (h:if z5j p≠0 then r=([],z5j p) else if s∈zz4 p then Set p s r else r=([],6)):r.1.length<=8000000:=by
 have hpl:=@zek p
 have hrl:(zz4 p).length=p.rules.length:=by simp [zz4]
 by_cases hc:z5j p=0
 case neg=>rw [if_pos hc] at h;rw [h];simp
 rw [if_neg (by simp [hc])] at h
 by_cases hin:s∈zz4 p
 case neg=>rw [if_neg hin] at h;rw [h];simp
 rw [if_pos hin] at h
 have:=zf9 (zb3 h.2.1) λx hx=>ztl (zxe hc).2.2 hin ((h.2.2 x).1 hx)
 omega
end Go.Proofs.YtahcjggdcmgpkaaGreat
