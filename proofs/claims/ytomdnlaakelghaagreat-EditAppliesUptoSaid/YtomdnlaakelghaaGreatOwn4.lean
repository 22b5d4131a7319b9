/-
  PROGRAMS: SIZES THAT ARE ALLOWED, NAMES, WHAT IS WELL FORMED.
-/
import Derived.Test.YtomdnlaakelghaaGreatOwn3
namespace Go.Proofs.YtomdnlaakelghaaGreat
open Go Go.Ab
set_option linter.unusedVariables false
set_option linter.unusedSimpArgs false
theorem yt8 {c:yz4} (hs:c.sz<=4000000):∃b,Ev (λn=>z6g n c) b:=by
 have:=@y8l c;have:=@zo4 c;have list:∀l:List yz1,Ev (λn=>zzs n l) (z9z l):=λl=>by rw [zg3,Ev.yz0];rfl
 have l1:∃b,Ev (λn=>zzy n 0 c) b:=by
  refine zmh (L:=λn k=>zzy n k c) (len:=c.do_.length) ⟨false,by rw [zj3,Ev.zz2 (by simp),Ev.yz0]⟩ λk hk v hv => ?_
  have ha:=Qad hk;have hsa:=zr3 ha;have:=@y3a c.do_[k];have:=@zsp c.do_[k]
  have l3:∃b,Ev (λn=>zzx n 0 (k:Int) c) b:=by
   refine zmh (L:=λn j=>zzx n j (k:Int) c) (len:=c.do_[k].items.length) ⟨v,by rw [zj1,Ev.zz1 (zz6 hk),Ev.zz2 (by simp),wrk (by omega),yz4.zz4];exact hv⟩ λj hj w hw => ?_
   have:=y0i (Qad hj);have:=@y3l c.do_[k].items[j]
   have l4:∀b,∃d,Ev (λn=>z0m n (k:Int) (j:Int) b c) d:=λb=>by
    cases b
    ·exact ⟨w,by rw [zj0,Ev.zz2 (by rfl),wrk (by omega),yz4.zz4];exact hw⟩
    ·exact ⟨true,by rw [zj0,Ev.yz2 (by rfl),Ev.yz0]⟩
   obtain ⟨g,hg⟩:=zo3 (e:=z9z c.do_[k].items[j].args) (by rw [zdq];omega);simp only [zj1,Ev.zz1 (zz6 hk)];simp only [Ev.yz2 (show decide ((j:Int)<(c.do_[k].items.length:Int))=true by simpa using hj),Ev.zz1 (zz6 hk),Ev.zz1 (zz6 hj),Ev.kz0 (list _),yz1.zz4,yz4.zz4,Ev.kz0 hg,Ev.pif];split <;> exact l4 _
  have l2:∀b,∃d,Ev (λn=>kzx n (k:Int) b c) d:=λb=>by
   cases b
   ·obtain ⟨d,hd⟩:=l3;exact ⟨d,by rw [zj9,Ev.zz2 (by rfl),yz4.zz4];exact hd⟩
   ·exact ⟨true,by rw [zj9,Ev.yz2 (by rfl),Ev.yz0]⟩
  obtain ⟨g,hg⟩:=zo3 (e:=z9z c.do_[k].args) (by rw [zdq];omega);simp only [zj3,Ev.yz2 (show decide ((k:Int)<(c.do_.length:Int))=true by simpa using hk),Ev.zz1 (zz6 hk),Ev.kz0 (list _),yz1.zz4,yz4.zz4,Ev.kz0 hg,Ev.pif];split
  ·exact l2 _
  ·split <;> exact l2 _
 have l0:∀b,∃d,Ev (λn=>z0q n b c) d:=λb=>by
  cases b
  ·obtain ⟨d,hd⟩:=l1;exact ⟨d,by rw [zj4,Ev.zz2 (by rfl),yz4.zz4];exact hd⟩
  ·exact ⟨true,by rw [zj4,Ev.yz2 (by rfl),Ev.yz0]⟩
 obtain ⟨g,hg⟩:=zo3 (e:=c.when_) (by omega);simp only [zww,Ev.pif,yz4.zz4,yz1.zz4,Ev.kz0 hg];split <;> exact l0 _
theorem z042 {p:zz0} (hs:p.sz<=4000000):∃b,Ev (λn=>z9a n p) b:=by
 have:=@zl5 p;have:=@zhq p
 have l3:∃b,Ev (λn=>z29 n 0 p) b:=by
  refine zmh (L:=λn k=>z29 n k p) (len:=p.rules.length) ⟨false,by rw [zng,Ev.zz2 (by simp),Ev.yz0]⟩ λk hk v hv => ?_
  have hsa:=zl6 (Qad hk);have:=@zsq p.rules[k];have:=@zni p.rules[k]
  have l6:∃b,Ev (λn=>z22 n 0 (k:Int) p.rules[k] p) b:=by
   refine zmh (L:=λn j=>z22 n j (k:Int) p.rules[k] p) (len:=p.rules[k].cases.length) ⟨v,by rw [zof,Ev.zz2 (by simp),wrk (by omega)];exact hv⟩ λj hj w hw => ?_
   obtain ⟨g,hg⟩:=yt8 (c:=p.rules[k].cases[j]) (by have:=zlx (Qad hj);omega);simp only [zof (a0:=(j:Int)),Ev.yz2 (show decide ((j:Int)<(p.rules[k].cases.length:Int))=true by simpa using hj),Ev.zz1 (zz6 hj),yz4.zz4,Ev.kz0 hg];simp only [Ev.pif];split
   ·exact ⟨true,Ev.pure rfl⟩
   ·exact ⟨w,by rw [wrk (by omega)];exact hw⟩
  have l5:∃b,Ev (λn=>z2a n 0 (k:Int) p.rules[k] p) b:=by
   obtain ⟨d,hd⟩:=l6;refine zmh (L:=λn j=>z2a n j (k:Int) p.rules[k] p) (len:=p.rules[k].params.length) ⟨d,by rw [znp,Ev.zz2 (by simp)];exact hd⟩ λj hj w hw => ?_
   simp only [znp (a0:=(j:Int)),Ev.yz2 (show decide ((j:Int)<(p.rules[k].params.length:Int))=true by simpa using hj),Ev.zz1 (zz6 hj),Ev.pif];split
   ·exact ⟨true,Ev.pure rfl⟩
   ·exact ⟨w,by rw [wrk (by omega)];exact hw⟩
  have l4:∀b,∃d,Ev (λn=>z2f n (k:Int) b p.rules[k] p) d:=λb=>by
   cases b
   ·obtain ⟨d,hd⟩:=l5;exact ⟨d,by rw [zo2,Ev.zz2 (by rfl)];exact hd⟩
   ·exact ⟨true,by rw [zo2,Ev.yz2 (by rfl),Ev.yz0]⟩
  simp only [zng,Ev.yz2 (show decide ((k:Int)<(p.rules.length:Int))=true by simpa using hk),Ev.zz1 (zz6 hk),Ev.pif];split
  ·exact l4 _
  ·split <;> exact l4 _
 have l1:∃b,Ev (λn=>z2g n 0 p) b:=by
  obtain ⟨d,hd⟩:=l3;refine zmh (L:=λn k=>z2g n k p) (len:=p.attrs.length) ⟨d,by rw [zoh,Ev.zz2 (by simp)];exact hd⟩ λk hk v hv => ?_
  have:=zye (Qad hk);have:=@zxv p.attrs[k]
  have l2:∀b,∃d,Ev (λn=>z3s n (k:Int) b p) d:=λb=>by
   cases b
   ·exact ⟨v,by rw [zoa,Ev.zz2 (by rfl),wrk (by omega)];exact hv⟩
   ·exact ⟨true,by rw [zoa,Ev.yz2 (by rfl),Ev.yz0]⟩
  obtain ⟨g,hg⟩:=zo3 (e:=p.attrs[k].value) (by omega);simp only [zoh,Ev.yz2 (show decide ((k:Int)<(p.attrs.length:Int))=true by simpa using hk),Ev.zz1 (zz6 hk),yz1.zz4,Ev.kz0 hg,Ev.pif];split <;> exact l2 _
 have l0:∀b,∃d,Ev (λn=>z4c n b p) d:=λb=>by
  cases b
  ·obtain ⟨d,hd⟩:=l1;exact ⟨d,by rw [zoj,Ev.zz2 (by rfl)];exact hd⟩
  ·exact ⟨true,by rw [zoj,Ev.yz2 (by rfl),Ev.yz0]⟩
 simp only [y7m,Ev.pif];split <;> exact l0 _
def zws (c:yz4):Bool:=decide (10<c.do_.length)||c.do_.any λa=>decide (10<a.items.length)
def zw9 (r:yz3):Bool:=decide (4<r.params.length)||(decide (6<r.cases.length)||r.cases.any zws)
def y6s (p:zz0):Bool:=decide (20<p.attrs.length)||(decide (40<p.rules.length)||p.rules.any zw9)
theorem gt4 {k:Nat}:decide ((k:Int)>4)=decide (4<k):=decide_eq_decide.2 (by omega)
theorem gt6 {k:Nat}:decide ((k:Int)>6)=decide (6<k):=decide_eq_decide.2 (by omega)
theorem gt10 {k:Nat}:decide ((k:Int)>10)=decide (10<k):=decide_eq_decide.2 (by omega)
theorem gt20 {k:Nat}:decide ((k:Int)>20)=decide (20<k):=decide_eq_decide.2 (by omega)
theorem gt40 {k:Nat}:decide ((k:Int)>40)=decide (40<k):=decide_eq_decide.2 (by omega)
theorem orB {c d:Bool} {γ:Type} {x y:γ}:(if (c||d)=true then x else y)=if c=true then x else if d=true then x else y:=by cases c <;> rfl
theorem yuu {p:zz0} (hs:p.sz<=4000000):Ev (λn=>zcx n p) (y6s p):=by
 have:=@zl5 p;have:=@zhq p
 have l1:Ev (λn=>z3f n 0 p.rules (p.rules.length:Int)) (if p.rules.any zw9=true then true else false):=by
  refine zor (L:=λn k=>z3f n k p.rules (p.rules.length:Int)) (by rw [zqn,Ev.zz2 (by simp),Ev.yz0]) λk hk v hv => ?_
  have:=zl6 (Qad hk);have:=@zsq p.rules[k];have:=@zni p.rules[k]
  have l3:Ev (λn=>z3e n 0 p.rules[k].cases p.rules (p.rules.length:Int) (k:Int) (p.rules[k].cases.length:Int)) (if p.rules[k].cases.any zws=true then true else v):=by
   refine zor (L:=λn j=>z3e n j p.rules[k].cases p.rules (p.rules.length:Int) (k:Int) (p.rules[k].cases.length:Int)) (by rw [zre,Ev.zz2 (by simp),wrk (by omega)];exact hv) λj hj w hw => ?_
   have:=zlx (Qad hj);have:=@zo4 p.rules[k].cases[j]
   have l4:∀b,Ev (λn=>z65 n p.rules[k].cases p.rules (p.rules.length:Int) (k:Int) (p.rules[k].cases.length:Int) (j:Int) b) (if b=true then true else w):=λb=>by
    cases b
    ·rw [zpf,Ev.zz2 (by rfl),wrk (by omega)];exact hw
    ·rw [zpf,Ev.yz2 (by rfl),Ev.yz0];rfl
   obtain ⟨i,h1,h2⟩:=y2t (S:=λn x=>z9p n x) (l:=p.rules[k].cases[j].do_) (p:=λa=>decide (10<a.items.length)) (L:=λn k l m=>yzb n k l m) (λn k=>yzb.eq_2 _ _ _ n) (by omega) λx hx=>by
    rw [y44,Ev.yz0];exact gt10
   have hc:Ev (λn=>zzb n p.rules[k].cases[j].do_) (p.rules[k].cases[j].do_.any λa=>decide (10<a.items.length)):=by
    rw [zat,Ev.kz0 (by rw [zcm];exact h1),Ev.yz0,h2]
   rw [zre,Ev.yz2 (by simpa using hj),Ev.zz1 (zz6 hj),zws,orB,Ev.pif,gt10];split
   ·exact l4 true
   ·rw [Ev.kz0 hc];exact l4 _
  have l2:∀b,Ev (λn=>z5j n p.rules (p.rules.length:Int) (k:Int) b p.rules[k]) (if b=true then true else if p.rules[k].cases.any zws=true then true else v):=λb=>by
   cases b
   ·rw [zr5,Ev.zz2 (by rfl)];exact l3
   ·rw [zr5,Ev.yz2 (by rfl),Ev.yz0];rfl
  rw [zqn,Ev.yz2 (by simpa using hk),Ev.zz1 (zz6 hk),zw9,orB,orB,Ev.pif,gt4,gt6];split
  ·exact l2 true
  ·exact l2 _
 have l0:∀b,Ev (λn=>z63 n b p) (b||p.rules.any zw9):=λb=>by
  cases b
  ·rw [zq0,Ev.zz2 (by rfl),ifB] at *;exact l1
  ·rw [zq0,Ev.yz2 (by rfl),Ev.yz0];rfl
 rw [yen,Ev.pif,gt20,gt40,y6s];split
 ·rename_i h;rw [h];exact l0 true
 ·rename_i h;simp only [h,Bool.false_or];exact l0 _
theorem yuz {p:zz0} (hs:p.sz<=4000000):Ev (λn=>zcv n p) (y6s p):=by
 have:=@zl5 p;have:=@zhq p
 have l1:Ev (λn=>z3b n 0 p) (if p.rules.any zw9=true then true else false):=by
  refine zor (L:=λn k=>z3b n k p) (by rw [zq2,Ev.zz2 (by simp),Ev.yz0]) λk hk v hv => ?_
  have:=zl6 (Qad hk);have:=@zsq p.rules[k];have:=@zni p.rules[k]
  have l3:Ev (λn=>z3h n 0 (k:Int) p.rules[k] p) (if p.rules[k].cases.any zws=true then true else v):=by
   refine zor (L:=λn j=>z3h n j (k:Int) p.rules[k] p) (by rw [zpt,Ev.zz2 (by simp),wrk (by omega)];exact hv) λj hj w hw => ?_
   have:=zlx (Qad hj);have:=@zo4 p.rules[k].cases[j]
   have l4:Ev (λn=>z3j n 0 (j:Int) (k:Int) p.rules[k] p) (if (p.rules[k].cases[j].do_.any λa=>decide (10<a.items.length))=true then true else w):=by
    refine zor (L:=λn i=>z3j n i (j:Int) (k:Int) p.rules[k] p) (by rw [zqv,Ev.zz1 (zz6 hj),Ev.zz2 (by simp),wrk (by omega)];exact hw) λi hi u hu => ?_
    rw [zqv,Ev.zz1 (zz6 hj),Ev.yz2 (by simpa using hi),Ev.zz1 (zz6 hj),Ev.zz1 (zz6 hi),Ev.pif,gt10,wrk (by omega),Ev.yz0];split
    ·rfl
    ·exact hu
   rw [zpt,Ev.yz2 (by simpa using hj),Ev.zz1 (zz6 hj),zws,orB,Ev.pif,gt10];split
   ·exact Ev.pure rfl
   ·exact l4
  have l2:∀b,Ev (λn=>z6y n (k:Int) b p.rules[k] p) (if b=true then true else if p.rules[k].cases.any zws=true then true else v):=λb=>by
   cases b
   ·rw [zrc,Ev.zz2 (by rfl)];exact l3
   ·rw [zrc,Ev.yz2 (by rfl),Ev.yz0];rfl
  rw [zq2,Ev.yz2 (by simpa using hk),Ev.zz1 (zz6 hk),zw9,orB,orB,Ev.pif,gt4,gt6];split
  ·exact l2 true
  ·exact l2 _
 have l0:∀b,Ev (λn=>z5k n b p) (b||p.rules.any zw9):=λb=>by
  cases b
  ·rw [zqw,Ev.zz2 (by rfl),ifB] at *;exact l1
  ·rw [zqw,Ev.yz2 (by rfl),Ev.yz0];rfl
 rw [yd9,Ev.pif,gt20,gt40,y6s];split
 ·rename_i h;rw [h];exact l0 true
 ·rename_i h;simp only [h,Bool.false_or];exact l0 _
def kept:List (List UInt8):=[[116,114,117,101],[102,97,108,115,101],[115,120],[115,121],[115,122]]
def zay (s:List UInt8):Bool:=zki s && !(kept.any λx=>s==x)
theorem zk7 {s:List UInt8} (hs:s.length<=8388608):Ev (λn=>z2n n s) (zay s):=by
 obtain ⟨i,h1,h2⟩:=y2t (S:=λn x=>some (s==x)) (l:=kept) (p:=λx=>s==x) (L:=λn k l m=>yzc n k l s m) (λn k=>yzc.eq_2 _ _ _ _ n) (by decide) λx hx=>Ev.pure rfl
 have hc:Ev (λn=>zzl n kept s) (kept.any λx=>s==x):=by
  rw [zhm,Ev.kz0 (by rw [zbw];exact h1),Ev.yz0,h2]
 rw [y7e,Ev.kz0 (yb1 hs),zay];refine andF λ_ => ?_
 exact (Ev.kz0 hc).2 (Ev.pure rfl)
theorem zmv {s:List UInt8} (hs:s.length<=8388608):Ev (λn=>z3p n s) (zay s):=by
 have h1:Ev (λn=>z9k n s) ((s==[115,120])||((s==[115,121])||(s==[115,122]))):=by
  rw [y64,Ev.pif];split
  ·rename_i h;rw [h];exact Ev.pure rfl
  ·rename_i h;rw [Ev.pif];simp only [h,Bool.false_or];split
   ·rename_i h;rw [h];exact Ev.pure rfl
   ·rename_i h;simp only [h,Bool.false_or];exact Ev.pure rfl
 have e:zay s=(zki s&&(!(s==[116,114,117,101])&&(!(s==[102,97,108,115,101]) && !((s==[115,120])||((s==[115,121])||(s==[115,122])))))):=by
  simp only [zay,kept,List.any_cons,List.any_nil,Bool.or_false,Bool.not_or]
 rw [ycd,Ev.kz0 (y8m hs),e];refine andF λ_=>andF λ_=>andF λ_ => ?_
 rw [Ev.kz0 h1,Ev.yz0]
theorem yif:zay []=false:=rfl
theorem ytn {α:Type} {l:List α}:decide ((l.length:Int)>0) = !l.isEmpty:=by cases l <;> simp
theorem sc_t {α:Type} {k:Int} {l:List α} (h:¬(k=5↔l≠[])):(!((k==5)==decide ((l.length:Int)>0)))=true:=by
 rw [ytn];cases l <;> by_cases q:k=5 <;> simp_all
theorem sc_f {α:Type} {k:Int} {l:List α} (h:k=5↔l≠[]):(!((k==5)==decide ((l.length:Int)>0)))=false:=by
 rw [ytn];cases l <;> by_cases q:k=5 <;> simp_all
def own (k:Int):Int:=if k=2∨k=3 then 3 else if k=4∨k=6 then 1 else 0
theorem y2m {k:Int}:Ev (λn=>z9s n k) (own k):=by
 have l1:∀b,Ev (λn=>z7l n b) (if b=true then 1 else 0):=λb=>by cases b <;> rw [y4b] <;> exact Ev.pure rfl
 have l0:∀b,Ev (λn=>z7z n k b) (if b=true then 3 else if k=4∨k=6 then 1 else 0):=λb=>by
  rw [y4u,Ev.pif];split
  ·exact Ev.pure rfl
  ·rw [Ev.pif];split
   ·rename_i h;rw [Qbt (.inl (by simpa using h))];exact l1 true
   ·rename_i h;have h:k≠4:=by simpa using h
    refine (l1 _).to ?_;by_cases q:k=6 <;> simp [q,h]
 rw [yn0,Ev.pif,own];split
 ·rename_i h;rw [Qbt (.inl (by simpa using h))];exact l0 true
 ·rename_i h;have h:k≠2:=by simpa using h
  refine (l0 _).to ?_;by_cases q:k=3 <;> simp [q,h]
theorem yip {k:Int}:Ev (λn=>zc7 n k) (own k):=by
 have l1:∀b,Ev (λn=>z7r n b) (if b=true then 1 else 0):=λb=>by cases b <;> rw [y4q] <;> exact Ev.pure rfl
 have l0:∀b,Ev (λn=>z7t n k b) (if b=true then 3 else if k=4∨k=6 then 1 else 0):=λb=>by
  rw [y43,Ev.pif];split
  ·exact Ev.pure rfl
  ·rw [Ev.pif];split
   ·rename_i h;rw [Qbt (.inl (by simpa using h))];exact l1 true
   ·rename_i h;have h:k≠4:=by simpa using h
    refine (l1 _).to ?_;by_cases q:k=6 <;> simp [q,h]
 rw [yli,Ev.pif,own];split
 ·rename_i h;rw [Qbt (.inl (by simpa using h))];exact l0 true
 ·rename_i h;have h:k≠2:=by simpa using h
  refine (l0 _).to ?_;by_cases q:k=3 <;> simp [q,h]
noncomputable def y85 (x:yz7):Bool:=decide (1<=x.kind)&&(decide (x.kind<=3)&&(zay x.name&&(!x.args.isEmpty&&(z96 (z9z x.args)==0))))
def ytg (a:zz3):Prop:=(1<=a.kind∧a.kind<=6)∧(a.axis<=if a.kind=4∨a.kind=5 then 2 else 0)∧(if a.kind<=4 then zay a.name=true else a.name=[])∧z96 (z9z a.args)=0∧(own a.kind<=a.args.length)∧(4<a.kind->(a.args.length:Int)=own a.kind)∧(a.kind=5↔a.items≠[])∧a.items.all y85=true
noncomputable def z3m (a:zz3):Bool:=@decide (ytg a) (Classical.propDecidable _)
theorem zts {a:zz3}:z3m a=true↔ytg a:=@decide_eq_true_iff _ (Classical.propDecidable _)
theorem z9j {a:zz3} (h:¬ytg a):z3m a=false:=@decide_eq_false _ (Classical.propDecidable _) h
theorem yir {l:List yz1} (hw:(z9z l).wf) (hs:(l.map yz1.size).sum<=4000000):Ev (λn=>z2i n (z9z l)) (z96 (z9z l)):=zrr hw (by rw [zdq];omega)
theorem neI {k:Int}:(k != 0) = !(k==0):=rfl
theorem yt1 {a:zz3} (hw:a.wf) (hs:a.sz<=4000000):Ev (λn=>z57 n a) (z3m a):=by
 have:=@y3a a;have:=@zsp a;have:=@z03y a;have list:∀l:List yz1,Ev (λn=>z77 n l) (z9z l):=λl=>by rw [zvk,Ev.yz0];rfl
 obtain ⟨⟨hk0,hk1⟩,hx0,hx1⟩:=z04c hw
 have l6:Ev (λn=>kzu n 0 a.items (a.items.length:Int)) (if a.items.all y85=true then true else false):=by
  refine zas (L:=λn k=>kzu n k a.items (a.items.length:Int)) (by rw [zhs,Ev.zz2 (by simp),Ev.yz0]) λk hk v hv => ?_
  have hx:=Qad hk;have:=y0i hx;have:=@y3l a.items[k];have:=@z044 a.items[k]
  have l7:∀b,Ev (λn=>zzk n a.items (a.items.length:Int) (k:Int) (!b)) (if b=true then v else false):=λb=>by
   cases b
   ·rw [zij,Ev.yz2 (by rfl),Ev.yz0];rfl
   ·rw [zij,Ev.zz2 (by rfl),wrk (by omega)];exact hv
  rw [zhs,Ev.yz2 (by simpa using hk),Ev.zz1 (zz6 hk),y85];generalize a.items[k]=x at *;by_cases h1:1<=x.kind
  case neg=>rw [Ev.yz2 (by simp;omega),Qbo h1];exact l7 false
  rw [Ev.zz2 (by simp;omega),Qbp h1];by_cases h2:x.kind<=3
  case neg=>rw [Ev.yz2 (by simp;omega),Qbo h2];exact l7 false
  rw [Ev.zz2 (by simp;omega),Qbp h2,Ev.kz0 (zk7 (by omega))];cases h3:zay x.name
  ·exact l7 false
  rw [Ev.zz2 (by rfl)];cases h4:x.args.isEmpty
  case true=>rw [Ev.yz2 (by rw [List.isEmpty_iff.1 h4];rfl)];exact l7 false
  have h4':x.args≠[]:=by intro h;rw [h] at h4;cases h4
  have h4':x.args.length≠0:=by intro h;exact h4' (List.length_eq_zero_iff.1 h)
  rw [Ev.zz2 (by simpa using h4'),Ev.kz0 (list _),yz1.zz4,Ev.kz0 (yir (wf_xa (z043 hw hx)) (by omega)),neI];exact l7 _
 have l5:∀b,(b=false->((1<=a.kind∧a.kind<=6)∧(a.axis<=if a.kind=4∨a.kind=5 then 2 else 0)∧(if a.kind<=4 then zay a.name=true else a.name=[])∧z96 (z9z a.args)=0∧(own a.kind<=a.args.length)∧(4<a.kind->(a.args.length:Int)=own a.kind)))->(b=true->¬ytg a)->Ev (λn=>yzo n b a) (z3m a):=λb hf ht=>by
  cases b
  case true=>rw [zic,Ev.yz2 (by rfl),Ev.yz0,z9j (ht rfl)]
  obtain ⟨g1,g2,g3,g4,g5,g6⟩:=hf rfl;rw [zic,Ev.zz2 (by rfl)];by_cases h:a.kind=5↔a.items≠[]
  case neg=>
   rw [Ev.yz2 (sc_t h),Ev.yz0,z9j (λq=>h q.2.2.2.2.2.2.1)]
  rw [Ev.zz2 (sc_f h)];refine l6.to ?_;by_cases q:a.items.all y85=true
  ·rw [Qbt q,zts.2 ⟨g1,g2,g3,g4,g5,g6,h,q⟩]
  ·rw [Qbu q,z9j (λz=>q z.2.2.2.2.2.2.2)]
 have l4:∀c:Bool,(c=decide (1<=a.kind∧a.kind<=4))->((1<=a.kind∧a.kind<=6)∧(a.axis<=if a.kind=4∨a.kind=5 then 2 else 0))->∀b,(b=false->(if a.kind<=4 then zay a.name=true else a.name=[]))->(b=true->¬ytg a)->Ev (λn=>zzu n c b a) (z3m a):=λc hc hg b hf ht=>by
  cases b
  case true=>rw [zil,Ev.yz2 (by rfl),Ev.yz0,z9j (ht rfl)]
  have g3:=hf rfl;rw [zil,Ev.zz2 (by rfl),Ev.kz0 (list _),yz1.zz4,Ev.kz0 (yir (wf_aa hw) (by omega))];by_cases h1:z96 (z9z a.args)=0
  case neg=>rw [Ev.yz2 (by simpa using h1)];exact l5 true (λh=>by cases h) λ_ q=>h1 q.2.2.2.1
  rw [Ev.zz2 (by simpa using h1),Ev.kz0 y2m];by_cases h2:own a.kind<=a.args.length
  case neg=>rw [Ev.yz2 (by simp;omega)];exact l5 true (λh=>by cases h) λ_ q=>h2 q.2.2.2.2.1
  rw [Ev.zz2 (by simp;omega)];cases hcc:c
  ·rw [Ev.yz2 (by rfl),Ev.kz0 y2m];have hk4:4<a.kind:=by rw [hcc] at hc;have:=of_decide_eq_false hc.symm;omega
   refine l5 _ (λh=>⟨hg.1,hg.2,g3,h1,h2,λ_=>by simpa using h⟩) λh q => ?_
   have:=q.2.2.2.2.2.1 hk4;simp [this] at h
  ·rw [Ev.zz2 (by rfl)];have hk4:a.kind<=4:=by rw [hcc] at hc;have:=Qac hc.symm;omega
   exact l5 _ (λh=>⟨hg.1,hg.2,g3,h1,h2,λh=>by omega⟩) λh=>by cases h
 have l3:∀c:Bool,(c=decide (1<=a.kind∧a.kind<=4))->∀b,(b=false->((1<=a.kind∧a.kind<=6)∧(a.axis<=if a.kind=4∨a.kind=5 then 2 else 0)))->(b=true->¬ytg a)->Ev (λn=>yzu n c b a) (z3m a):=λc hc b hf ht=>by
  cases b
  case true=>rw [zig,Ev.yz2 (by rfl),Ev.yz0,z9j (ht rfl)]
  have hg:=hf rfl;rw [zig,Ev.zz2 (by rfl),Ev.kz0 (zk7 (by omega))];by_cases hk4:a.kind<=4
  ·rw [Qbp (by omega)] at hc;subst hc;cases hn:zay a.name
   ·exact l4 true (by rw [Qbp (by omega)]) hg true (λh=>by cases h) λ_ q=>by have:=q.2.2.1;rw [Qbt hk4,hn] at this;cases this
   ·exact l4 true (by rw [Qbp (by omega)]) hg false (λ_=>by rw [Qbt hk4,hn]) λh=>by cases h
  ·rw [Qbo (by omega)] at hc;subst hc;cases hn:zay a.name
   ·rw [Ev.zz2 (by rfl),Ev.yz2 (by rfl)];refine l4 false (by rw [Qbo (by omega)]) hg _ (λh=>by rw [Qbu hk4];simpa using h) λh q => ?_
    have:=q.2.2.1;rw [Qbu hk4] at this;rw [this] at h;cases h
   ·exact l4 false (by rw [Qbo (by omega)]) hg true (λh=>by cases h) λ_ q=>by
     have:=q.2.2.1;rw [Qbu hk4] at this;rw [this,yif] at hn;cases hn
 have l2:∀c:Bool,(c=decide (1<=a.kind∧a.kind<=4))->∀x:Int,x=(if a.kind=4∨a.kind=5 then 2 else 0)->Ev (λn=>z09 n c x a) (z3m a):=λc hc x hx=>by
  rw [zsl];by_cases h1:1<=a.kind
  case neg=>rw [Ev.yz2 (by simp;omega)];exact l3 c hc true (λh=>by cases h) λ_ q=>h1 q.1.1
  rw [Ev.zz2 (by simp;omega)];by_cases h2:a.kind<=6
  case neg=>rw [Ev.yz2 (by simp;omega)];exact l3 c hc true (λh=>by cases h) λ_ q=>h2 q.1.2
  rw [Ev.zz2 (by simp;omega),hx];refine l3 c hc _ (λh=>⟨⟨h1,h2⟩,by have:=of_decide_eq_false h;omega⟩) λh q => ?_
  have:=Qac h;have:=q.2.1;omega
 have l1:∀c:Bool,(c=decide (1<=a.kind∧a.kind<=4))->∀b:Bool,b=decide (a.kind=4∨a.kind=5)->Ev (λn=>z08 n c 0 b a) (z3m a):=λc hc b hb=>by
  rw [zry];by_cases h:a.kind=4∨a.kind=5
  ·rw [hb,Qbp h,Ev.yz2 rfl];exact l2 c hc _ (by rw [Qbt h])
  ·rw [hb,Qbo h,Ev.zz2 rfl];exact l2 c hc _ (by rw [Qbu h])
 have l0:∀c:Bool,(c=decide (1<=a.kind∧a.kind<=4))->Ev (λn=>z07 n c a) (z3m a):=λc hc=>by
  rw [zs5];by_cases h:a.kind=4
  ·rw [Ev.yz2 (by simpa using h)];exact l1 c hc true (by rw [Qbp (.inl h)])
  ·rw [Ev.zz2 (by simpa using h)];exact l1 c hc _ (by by_cases q:a.kind=5 <;> simp [q,h])
 rw [zv0];by_cases h:1<=a.kind
 ·rw [Ev.yz2 (by simpa using h)];exact l0 _ (by simp [h])
 ·rw [Ev.zz2 (by simpa using h)];exact l0 _ (by simp [h])
theorem yun {a:zz3} (hw:a.wf) (hs:a.sz<=4000000):Ev (λn=>z9m n a) (z3m a):=by
 have:=@y3a a;have:=@zsp a;have:=@z03y a;have list:∀l:List yz1,Ev (λn=>zzs n l) (z9z l):=λl=>by rw [zg3,Ev.yz0];rfl
 obtain ⟨⟨hk0,hk1⟩,hx0,hx1⟩:=z04c hw
 have l6:Ev (λn=>z17 n 0 a) (if a.items.all y85=true then true else false):=by
  refine zas (L:=λn k=>z17 n k a) (by rw [zm1,Ev.zz2 (by simp),Ev.yz0]) λk hk v hv => ?_
  have hx:=Qad hk;have:=y0i hx;have:=@y3l a.items[k];have:=@z044 a.items[k]
  have l7:∀b,Ev (λn=>zzv n (k:Int) (!b) a) (if b=true then v else false):=λb=>by
   cases b
   ·rw [zmo,Ev.yz2 (by rfl),Ev.yz0];rfl
   ·rw [zmo,Ev.zz2 (by rfl),wrk (by omega)];exact hv
  rw [zm1,Ev.yz2 (by simpa using hk),Ev.zz1 (zz6 hk),y85];generalize a.items[k]=x at *;by_cases h1:1<=x.kind
  case neg=>rw [Ev.yz2 (by simp;omega),Qbo h1];exact l7 false
  rw [Ev.zz2 (by simp;omega),Qbp h1];by_cases h2:x.kind<=3
  case neg=>rw [Ev.yz2 (by simp;omega),Qbo h2];exact l7 false
  rw [Ev.zz2 (by simp;omega),Qbp h2,Ev.kz0 (zmv (by omega))];cases h3:zay x.name
  ·exact l7 false
  rw [Ev.zz2 (by rfl)];cases h4:x.args.isEmpty
  case true=>rw [Ev.yz2 (by rw [List.isEmpty_iff.1 h4];rfl)];exact l7 false
  have h4':x.args≠[]:=by intro h;rw [h] at h4;cases h4
  have h4':x.args.length≠0:=by intro h;exact h4' (List.length_eq_zero_iff.1 h)
  rw [Ev.zz2 (by simpa using h4'),Ev.kz0 (list _),yz1.zz4,Ev.kz0 (zhb (by rw [zdq];omega)),neI];exact l7 _
 have l5:((1<=a.kind∧a.kind<=6)∧(a.axis<=if a.kind=4∨a.kind=5 then 2 else 0)∧(if a.kind<=4 then zay a.name=true else a.name=[])∧z96 (z9z a.args)=0∧(own a.kind<=a.args.length)∧(4<a.kind->(a.args.length:Int)=own a.kind))->Ev (λn=>z38 n a) (z3m a):=λ⟨g1,g2,g3,g4,g5,g6⟩=>by
  rw [zwm];by_cases h:a.kind=5↔a.items≠[]
  case neg=>
   rw [Ev.yz2 (sc_t h),Ev.yz0,z9j (λq=>h q.2.2.2.2.2.2.1)]
  rw [Ev.zz2 (sc_f h)];refine l6.to ?_;by_cases q:a.items.all y85=true
  ·rw [Qbt q,zts.2 ⟨g1,g2,g3,g4,g5,g6,h,q⟩]
  ·rw [Qbu q,z9j (λz=>q z.2.2.2.2.2.2.2)]
 have l4:(1<=a.kind∧a.kind<=6)∧(a.axis<=if a.kind=4∨a.kind=5 then 2 else 0)∧z96 (z9z a.args)=0∧own a.kind<=a.args.length->4<a.kind->∀b:Bool,(b=true↔¬(a.name=[]∧(a.args.length:Int)=own a.kind))->Ev (λn=>yzq n b a) (z3m a):=λ⟨g1,g2,g4,g5⟩ hk b hb=>by
  cases b
  case true=>rw [zm4,Ev.yz2 (by rfl),Ev.yz0,z9j];exact λq=>hb.1 rfl ⟨by have:=q.2.2.1;rwa [Qbu (by omega)] at this,q.2.2.2.2.2.1 hk⟩
  obtain ⟨q1,q2⟩:=Classical.byContradiction λq=>Bool.noConfusion (hb.2 q)
  rw [zm4,Ev.zz2 (by rfl)];exact l5 ⟨g1,g2,by rw [Qbu (by omega)];exact q1,g4,g5,λ_=>q2⟩
 have l2:(1<=a.kind∧a.kind<=6)∧(a.axis<=if a.kind=4∨a.kind=5 then 2 else 0)∧z96 (z9z a.args)=0∧own a.kind<=a.args.length->Ev (λn=>z35 n a) (z3m a):=λhg=>by
  have nm:decide ((a.name.length:Int)>0) = !(a.name==[]):=by rw [ytn];cases a.name <;> rfl
  rw [zwh];by_cases h5:a.kind=5
  ·rw [Ev.yz2 (by simpa using h5),zh2,Ev.yz2 (by rfl),nm];have ho:own a.kind=0:=by rw [h5];rfl
   by_cases hn:a.name=[]
   case neg=>rw [Ev.yz2 (by simpa using hn)];exact l4 hg (by omega) true (by simp [hn])
   rw [Ev.zz2 (by simpa using hn),Ev.yz2 (by simpa using h5)];by_cases ha:(a.args.length:Int)=0
   ·rw [Ev.zz2 (Qbo (by omega)),Ev.zz2 (by rw [h5];rfl)];exact l4 hg (by omega) false ⟨λh=>(Bool.noConfusion h),λh=>(h ⟨hn,by rw [ho];exact ha⟩).elim⟩
   ·rw [Ev.yz2 (Qbp (by omega))];exact l4 hg (by omega) true ⟨λ_ h=>ha (by rw [<-ho];exact h.2),λ_=>rfl⟩
  rw [Ev.zz2 (by simpa using h5)];by_cases h6:a.kind=6
  ·rw [show (a.kind==6)=true by simpa using h6,zh2,Ev.yz2 (by rfl),nm];have ho:own a.kind=1:=by rw [h6];rfl
   by_cases hn:a.name=[]
   case neg=>rw [Ev.yz2 (by simpa using hn)];exact l4 hg (by omega) true (by simp [hn])
   rw [Ev.zz2 (by simpa using hn),Ev.zz2 (by simpa using h5),Ev.yz2 (by simpa using h6)];have:=hg.2.2.2;refine l4 hg (by omega) _ ?_;rw [ho] at this ⊢;simp only [Qar,hn,true_and];omega
  ·rw [show (a.kind==6)=false by simpa using h6,zh2,Ev.zz2 (by rfl),Ev.kz0 (zmv (by omega))];have hk:a.kind<=4:=by have:=hg.1;omega
   cases hn:zay a.name
   ·rw [Ev.yz2 (by rfl),Ev.yz0,z9j];exact λq=>by have:=q.2.2.1;rw [Qbt hk,hn] at this;cases this
   ·rw [Ev.zz2 (by rfl)];exact l5 ⟨hg.1,hg.2.1,by rw [Qbt hk,hn],hg.2.2.1,hg.2.2.2,λh=>by omega⟩
 have l1:(1<=a.kind∧a.kind<=6)∧z96 (z9z a.args)=0∧own a.kind<=a.args.length->∀b:Bool,b=decide (a.kind=4∨a.kind=5)->Ev (λn=>z2y n b a) (z3m a):=λhg b hb=>by
  rw [zw5];by_cases h:a.kind=4∨a.kind=5
  ·rw [hb,Qbp h,Ev.yz2 rfl];by_cases q:a.axis<=2
   ·rw [Ev.zz2 (by simp;omega)];exact l2 ⟨hg.1,by rw [Qbt h];exact q,hg.2⟩
   ·rw [Ev.yz2 (by simp;omega),Ev.yz0,z9j];exact λz=>q (by have:=z.2.1;rwa [Qbt h] at this)
  ·rw [hb,Qbo h,Ev.zz2 rfl];by_cases q:a.axis<=0
   ·rw [Ev.zz2 (by simp;omega)];exact l2 ⟨hg.1,by rw [Qbu h];exact q,hg.2⟩
   ·rw [Ev.yz2 (by simp;omega),Ev.yz0,z9j];exact λz=>q (by have:=z.2.1;rwa [Qbu h] at this)
 have l0:∀b:Bool,(b=false->(1<=a.kind∧a.kind<=6)∧z96 (z9z a.args)=0∧own a.kind<=a.args.length)->(b=true->¬ytg a)->Ev (λn=>z06 n b a) (z3m a):=λb hf ht=>by
  cases b
  case true=>rw [zm7,Ev.yz2 (by rfl),Ev.yz0,z9j (ht rfl)]
  rw [zm7,Ev.zz2 (by rfl)];by_cases h:a.kind=4
  ·rw [Ev.yz2 (by simpa using h)];exact l1 (hf rfl) true (by rw [Qbp (.inl h)])
  ·rw [Ev.zz2 (by simpa using h)];exact l1 (hf rfl) _ (by by_cases q:a.kind=5 <;> simp [q,h])
 rw [y4i];by_cases h1:1<=a.kind
 case neg=>rw [Ev.yz2 (by simp;omega)];exact l0 true (λh=>by cases h) λ_ q=>h1 q.1.1
 rw [Ev.zz2 (by simp;omega)];by_cases h2:a.kind<=6
 case neg=>rw [Ev.yz2 (by simp;omega)];exact l0 true (λh=>by cases h) λ_ q=>h2 q.1.2
 rw [Ev.zz2 (by simp;omega),Ev.kz0 (list _),yz1.zz4,Ev.kz0 (zhb (by rw [zdq];omega))];by_cases h3:z96 (z9z a.args)=0
 case neg=>rw [Ev.yz2 (by simpa using h3)];exact l0 true (λh=>by cases h) λ_ q=>h3 q.2.2.2.1
 rw [Ev.zz2 (by simpa using h3),Ev.kz0 yip];exact l0 _ (λh=>⟨⟨h1,h2⟩,h3,by have:=of_decide_eq_false h;omega⟩) λh q=>by have:=Qac h;have:=q.2.2.2.2.1;omega
noncomputable def y3p (c:yz4):Bool:=decide (1<=c.weight)&&(decide (c.weight<=1000000)&&((z96 c.when_==0)&&c.do_.all z3m))
noncomputable def zvu (r:yz3):Bool:=zay r.name&&(r.params.all zay&&r.cases.all y3p)
noncomputable def y7h (t:yz5):Bool:=zay t.name&&(z96 t.value==0)
noncomputable def zjq (p:zz0):Bool:=p.attrs.all y7h&&p.rules.all zvu
theorem ifA {c d:Bool} {γ:Type} {x y:γ}:(if (c&&d)=true then x else y)=if c=true then (if d=true then x else y) else y:=by cases c <;> rfl
theorem ykq {p:zz0} (hw:p.wf) (hs:p.sz<=4000000):Ev (λn=>z9o n p) (zjq p):=by
 have:=@zl5 p;have:=@zhq p
 have l2:Ev (λn=>z15 n 0 p.rules (p.rules.length:Int)) (if p.rules.all zvu=true then true else false):=by
  refine zas (L:=λn k=>z15 n k p.rules (p.rules.length:Int)) (by rw [zmr,Ev.zz2 (by simp),Ev.yz0]) λk hk v hv => ?_
  have hr:=Qad hk;have:=zl6 hr;have:=@zsq p.rules[k];have:=@zni p.rules[k];have:=@z046 p.rules[k];have hwr:=z00i hw hr
  have l4:Ev (λn=>z1f n 0 p.rules[k].cases p.rules (p.rules.length:Int) (k:Int) (p.rules[k].cases.length:Int)) (if p.rules[k].cases.all y3p=true then v else false):=by
   refine zas (L:=λn j=>z1f n j p.rules[k].cases p.rules (p.rules.length:Int) (k:Int) (p.rules[k].cases.length:Int)) (by rw [zmd,Ev.zz2 (by simp),wrk (by omega)];exact hv) λj hj w hv => ?_
   have hc:=Qad hj;have:=zlx hc;have:=@y8l p.rules[k].cases[j];have:=@zo4 p.rules[k].cases[j];have hwc:=z00c hwr hc
   have l6:Ev (λn=>z19 n 0 p.rules[k].cases[j].do_ p.rules[k].cases p.rules (p.rules.length:Int) (k:Int) (p.rules[k].cases.length:Int) (j:Int) (p.rules[k].cases[j].do_.length:Int)) (if p.rules[k].cases[j].do_.all z3m=true then w else false):=by
    refine zas (L:=λn i=>z19 n i p.rules[k].cases[j].do_ p.rules[k].cases p.rules (p.rules.length:Int) (k:Int) (p.rules[k].cases.length:Int) (j:Int) (p.rules[k].cases[j].do_.length:Int)) (by rw [zma,Ev.zz2 (by simp),wrk (by omega)];exact hv) λi hi u hu => ?_
    have ha:=Qad hi;have:=zr3 ha;rw [zma,Ev.yz2 (by simpa using hi),Ev.zz1 (zz6 hi),Ev.kz0 (yt1 (z00s hwc ha) (by omega))];cases z3m p.rules[k].cases[j].do_[i]
    ·rw [Ev.yz2 (by rfl),Ev.yz0];rfl
    ·rw [Ev.zz2 (by rfl),wrk (by omega)];exact hu
   have l5:∀b,Ev (λn=>z16 n p.rules[k].cases p.rules (p.rules.length:Int) (k:Int) (p.rules[k].cases.length:Int) (j:Int) (!b) p.rules[k].cases[j]) (if b=true then (if p.rules[k].cases[j].do_.all z3m=true then w else false) else false):=λb=>by
    cases b
    ·rw [zn3,Ev.yz2 (by rfl),Ev.yz0];rfl
    ·rw [zn3,Ev.zz2 (by rfl)];exact l6
   rw [zmd,Ev.yz2 (by simpa using hj),Ev.zz1 (zz6 hj),yz4.zz4,y3p,ifA,ifA,ifA];by_cases h1:1<=p.rules[k].cases[j].weight
   case neg=>rw [Ev.yz2 (by simp;omega),Qbo h1];exact l5 false
   rw [Ev.zz2 (by simp;omega),Qbp h1];by_cases h2:p.rules[k].cases[j].weight<=1000000
   case neg=>rw [Ev.yz2 (by simp;omega),Qbo h2];exact l5 false
   rw [Ev.zz2 (by simp;omega),Qbp h2,yz1.zz4,Ev.kz0 (zrr (z03u hwc) (by omega)),neI];exact l5 _
  have l3:∀b,Ev (λn=>z2t n p.rules (p.rules.length:Int) (k:Int) (!b) p.rules[k]) (if b=true then (if p.rules[k].cases.all y3p=true then v else false) else false):=λb=>by
   cases b
   ·rw [zms,Ev.yz2 (by rfl),Ev.yz0];rfl
   ·rw [zms,Ev.zz2 (by rfl)];exact l4
  obtain ⟨i,h1,h2⟩:=y2t (S:=λn x=>z7i n x) (l:=p.rules[k].params) (p:=λs => !zay s) (L:=λn k l m=>zzg n k l m) (λn k=>zzg.eq_2 _ _ _ n) (by omega) λx hx=>by
   have:=z047 hx;rw [zyu,Ev.kz0 (zk7 (by omega)),Ev.yz0]
  have hc:Ev (λn=>yzg n p.rules[k].params) (!p.rules[k].params.all zay):=by
   rw [zf6,Ev.kz0 (by rw [zhf];exact h1),Ev.yz0,h2,<-List.not_all_eq_any_not]
  rw [zmr,Ev.yz2 (by simpa using hk),Ev.zz1 (zz6 hk),zvu,ifA,ifA,Ev.kz0 (zk7 (by omega))];cases zay p.rules[k].name
  ·rw [Ev.yz2 (by rfl)];exact l3 false
  ·rw [Ev.zz2 (by rfl),Ev.kz0 hc];exact l3 _
 have l0:Ev (λn=>z1k n 0 p.attrs (p.attrs.length:Int) p) (if p.attrs.all y7h=true then p.rules.all zvu else false):=by
  refine zas (L:=λn k=>z1k n k p.attrs (p.attrs.length:Int) p) (by rw [zmk,Ev.zz2 (by simp),<-ifB (p.rules.all zvu)];exact l2) λk hk v hv => ?_
  have ht:=Qad hk;have:=zye ht;have:=@zxv p.attrs[k]
  have l1:∀b,Ev (λn=>z2v n p.attrs (p.attrs.length:Int) (k:Int) (!b) p) (if b=true then v else false):=λb=>by
   cases b
   ·rw [zmg,Ev.yz2 (by rfl),Ev.yz0];rfl
   ·rw [zmg,Ev.zz2 (by rfl),wrk (by omega)];exact hv
  rw [zmk,Ev.yz2 (by simpa using hk),Ev.zz1 (zz6 hk),y7h,ifA,Ev.kz0 (zk7 (by omega))];cases zay p.attrs[k].name
  ·rw [Ev.yz2 (by rfl)];exact l1 false
  ·rw [Ev.zz2 (by rfl),yz1.zz4,Ev.kz0 (zrr (z040 hw ht) (by omega)),neI];exact l1 _
 rw [y5b];refine l0.to ?_;rw [zjq];cases p.attrs.all y7h <;> rfl
theorem yk8 {p:zz0} (hw:p.wf) (hs:p.sz<=4000000):Ev (λn=>z9n n p) (zjq p):=by
 have:=@zl5 p;have:=@zhq p
 have l2:Ev (λn=>z1b n 0 p) (if p.rules.all zvu=true then true else false):=by
  refine zas (L:=λn k=>z1b n k p) (by rw [zmm,Ev.zz2 (by simp),Ev.yz0]) λk hk v hv => ?_
  have hr:=Qad hk;have:=zl6 hr;have:=@zsq p.rules[k];have:=@zni p.rules[k];have:=@z046 p.rules[k];have hwr:=z00i hw hr
  have l4:Ev (λn=>z1g n 0 (k:Int) p.rules[k] p) (if p.rules[k].cases.all y3p=true then v else false):=by
   refine zas (L:=λn j=>z1g n j (k:Int) p.rules[k] p) (by rw [zm0,Ev.zz2 (by simp),wrk (by omega)];exact hv) λj hj w hv => ?_
   have hc:=Qad hj;have:=zlx hc;have:=@y8l p.rules[k].cases[j];have:=@zo4 p.rules[k].cases[j];have hwc:=z00c hwr hc
   have l6:Ev (λn=>z1d n 0 (k:Int) (j:Int) p.rules[k].cases[j] p.rules[k] p) (if p.rules[k].cases[j].do_.all z3m=true then w else false):=by
    refine zas (L:=λn i=>z1d n i (k:Int) (j:Int) p.rules[k].cases[j] p.rules[k] p) (by rw [zm5,Ev.zz2 (by simp),wrk (by omega)];exact hv) λi hi u hu => ?_
    have ha:=Qad hi;have:=zr3 ha;rw [zm5,Ev.yz2 (by simpa using hi),Ev.zz1 (zz6 hi),Ev.kz0 (yun (z00s hwc ha) (by omega)),yz4.zz4];cases z3m p.rules[k].cases[j].do_[i]
    ·rw [Ev.yz2 (by rfl),Ev.yz0];rfl
    ·rw [Ev.zz2 (by rfl),wrk (by omega)];exact hu
   have l5:∀b,Ev (λn=>z1e n (k:Int) (j:Int) (!b) p.rules[k].cases[j] p.rules[k] p) (if b=true then (if p.rules[k].cases[j].do_.all z3m=true then w else false) else false):=λb=>by
    cases b
    ·rw [zn1,Ev.yz2 (by rfl),Ev.yz0];rfl
    ·rw [zn1,Ev.zz2 (by rfl),yz4.zz4];exact l6
   rw [zm0,Ev.yz2 (by simpa using hj),Ev.zz1 (zz6 hj),yz4.zz4,y3p,ifA,ifA,ifA];by_cases h1:1<=p.rules[k].cases[j].weight
   case neg=>rw [Ev.yz2 (by simp;omega),Qbo h1];exact l5 false
   rw [Ev.zz2 (by simp;omega),Qbp h1];by_cases h2:p.rules[k].cases[j].weight<=1000000
   case neg=>rw [Ev.yz2 (by simp;omega),Qbo h2];exact l5 false
   rw [Ev.zz2 (by simp;omega),Qbp h2,yz1.zz4,Ev.kz0 (zhb (by omega)),neI];exact l5 _
  have l3:Ev (λn=>z1j n 0 (k:Int) p.rules[k] p) (if p.rules[k].params.all zay=true then (if p.rules[k].cases.all y3p=true then v else false) else false):=by
   refine zas (L:=λn j=>z1j n j (k:Int) p.rules[k] p) (by rw [zn4,Ev.zz2 (by simp)];exact l4) λj hj w hv => ?_
   have:=z047 (Qad hj);rw [zn4,Ev.yz2 (by simpa using hj),Ev.zz1 (zz6 hj),Ev.kz0 (zmv (by omega))];cases zay p.rules[k].params[j]
   ·rw [Ev.yz2 (by rfl),Ev.yz0];rfl
   ·rw [Ev.zz2 (by rfl),wrk (by omega)];exact hv
  rw [zmm,Ev.yz2 (by simpa using hk),Ev.zz1 (zz6 hk),zvu,ifA,ifA,Ev.kz0 (zmv (by omega))];cases zay p.rules[k].name
  ·rw [Ev.yz2 (by rfl),Ev.yz0];rfl
  ·rw [Ev.zz2 (by rfl)];exact l3
 have l0:Ev (λn=>z1c n 0 p) (if p.attrs.all y7h=true then p.rules.all zvu else false):=by
  refine zas (L:=λn k=>z1c n k p) (by rw [zmt,Ev.zz2 (by simp),<-ifB (p.rules.all zvu)];exact l2) λk hk v hv => ?_
  have ht:=Qad hk;have:=zye ht;have:=@zxv p.attrs[k]
  have l1:∀b,Ev (λn=>z32 n (k:Int) (!b) p) (if b=true then v else false):=λb=>by
   cases b
   ·rw [zmb,Ev.yz2 (by rfl),Ev.yz0];rfl
   ·rw [zmb,Ev.zz2 (by rfl),wrk (by omega)];exact hv
  rw [zmt,Ev.yz2 (by simpa using hk),Ev.zz1 (zz6 hk),y7h,ifA,Ev.kz0 (zmv (by omega))];cases zay p.attrs[k].name
  ·rw [Ev.yz2 (by rfl)];exact l1 false
  ·rw [Ev.zz2 (by rfl),Ev.zz1 (zz6 hk),yz1.zz4,Ev.kz0 (zhb (by omega)),neI];exact l1 _
 rw [y5k];refine l0.to ?_;rw [zjq];cases p.attrs.all y7h <;> rfl
def kzf (p:zz0):List (List UInt8):=p.attrs.map (·.name)
def yz8 (p:zz0):List (List UInt8):=p.rules.map (·.name)
theorem y6x {α β:Type} {g:α->β} (l:List α) (s:List β):l.foldl (λs x=>s++[g x]) s=s++l.map g:=by
 induction l generalizing s with
 |nil=>simp
 |cons x l ih=>simp [ih]
theorem znl {p:zz0} (hs:p.sz<=4000000):Ev (λn=>z3x n p) (kzf p):=by
 have:=@zl5 p;rw [ybw]
 refine yrh (L:=λn k s=>z3y n k p s) (xs:=p.attrs) (f:=λs x=>s++[x.name]) (I:=λk s=>s.length=k) rfl (λ_=>by
  rw [zos,Ev.zz2 (by simp),Ev.yz0,y6x];rfl) λk hk s hi=>⟨by simp [hi],λh=>by
  rw [zos,Ev.yz2 (by simpa using hk),Ev.zz1 (zz6 hk),Ev.zz1 (za5 (by simp;omega)),wrk (by omega)];exact h⟩
theorem znb {p:zz0} (hs:p.sz<=4000000):Ev (λn=>z3t n p) (yz8 p):=by
 have:=@zhq p;rw [yah]
 refine yrh (L:=λn k s=>z4m n k p s) (xs:=p.rules) (f:=λs x=>s++[x.name]) (I:=λk s=>s.length=k) rfl (λ_=>by
  rw [zn9,Ev.zz2 (by simp),Ev.yz0,y6x];rfl) λk hk s hi=>⟨by simp [hi],λh=>by
  rw [zn9,Ev.yz2 (by simpa using hk),Ev.zz1 (zz6 hk),Ev.zz1 (za5 (by simp;omega)),wrk (by omega)];exact h⟩
def atI (l:List (List UInt8)) (s:List UInt8):Int:=match l.idxOf? s with
 |some i=>(i:Int)
 |none => -1
theorem z01m {l:List (List UInt8)} {s:List UInt8} : -1<=atI l s:=by unfold atI;split <;> omega
theorem zqi (x:List UInt8) (l:List (List UInt8)) (s:List UInt8):atI (x::l) s=if x=s then 0 else if atI l s = -1 then -1 else atI l s+1:=by
 unfold atI;rw [List.idxOf?_cons];by_cases h:x=s
 ·subst h;simp
 ·have:(x==s)=false:=by simpa using h
  rw [this,Qbu h];simp only [Bool.false_eq_true,if_false];cases l.idxOf? s <;> simp
theorem y7p {L:Nat->Int->Option Int} {l:List (List UInt8)} {s:List UInt8} {p:List UInt8->Bool} (hp:∀x,p x=true↔x=s) (hb:l.length<=8388608)
  (hL:∀n (k:Int),L (n+1) k=pIf (decide (k<(l.length:Int))) ((ix l k).bind λx0=>pIf (p x0) (some k) (L n (IntKind.i64.wrap (k+1)))) (some (-1))):Ev (λn=>L n 0) (atI l s):=by
 have:∀k,k<=l.length->Ev (λn=>L n (k:Int)) (if atI (l.drop k) s = -1 then -1 else atI (l.drop k) s+k) :=
  down (by rw [Ev.zhz (λn=>hL n _),Ev.zz2 (by simp),Ev.yz0,List.drop_length];rfl) λk hk ih=>by
   rw [Ev.zhz (λn=>hL n _),Ev.yz2 (by simpa using hk),Ev.zz1 (zz6 hk),<-Qah (h:=hk),zqi];by_cases h:l[k]=s
   ·rw [Ev.yz2 ((hp _).2 h),Ev.yz0,Qbt h];simp
   ·rw [Ev.zz2 (by rw [Bool.eq_false_iff];exact λq=>h ((hp _).1 q)),wrk (by omega),Qbu h];refine ih.to ?_;by_cases q:atI (l.drop (k+1)) s = -1
    ·simp [q]
    ·have h0:=@z01m (l.drop (k+1)) s;rw [Qbu q,Qbu q,Qbu (by omega)];omega
 have:=this 0 (Qbr _);simp only [List.drop_zero] at this;refine Ev.to this ?_;split
 ·rename_i h;exact h.symm
 ·simp
theorem zpz {l:List (List UInt8)} {s:List UInt8} (hb:l.length<=8388608):Ev (λn=>z0k n l s) (atI l s):=by
 rw [ypm];exact y7p (L:=λn k=>zbp n k s l) (p:=λx=>x==s) (λx=>by simp) hb λn k=>zbp.eq_2 _ _ _ n
theorem yxv {l:List (List UInt8)} {s:List UInt8} (hb:l.length<=8388608):Ev (λn=>kzk n l s) (atI l s):=by
 rw [zbw];exact y7p (L:=λn k=>yzc n k l s (l.length:Int)) (p:=λx=>s==x) (λx=>by simp;exact eq_comm) hb λn k=>yzc.eq_2 _ _ _ _ n
theorem zui {l:List (List UInt8)} {s:List UInt8}:atI l s<0↔s∉l:=by
 induction l with
 |nil=>simp [atI]
 |cons x l ih=>
  rw [zqi];by_cases h:x=s
  · subst h;simp
  · have:s∉x::l↔s∉l:=by simp [Ne.symm h]
    rw [Qbu h,this,<-ih];split
    · rename_i q;simp [q]
    · have : -1<=atI l s:=by unfold atI;split <;> omega
      omega
theorem zu0 {l:List (List UInt8)} {s:List UInt8} (h:s∈l):∃i:Nat,∃(hi:i<l.length),atI l s=(i:Int)∧l[i]=s∧∀j (hj:j<i),l[j]'(by omega)≠s:=by
 induction l with
 |nil=>cases h
 |cons x l ih=>
  rw [zqi];by_cases q:x=s
  · exact ⟨0,by simp,by simp [q],by simpa using q,λj hj=>by omega⟩
  · have hm:s∈l:=by rcases Qbi.1 h with h|h;· exact (q h.symm).elim
                    · exact h
    obtain ⟨i,hi,h1,h2,h3⟩:=ih hm;refine ⟨i+1,by simp;omega,?_,by simpa using h2,λj hj => ?_⟩
    · rw [Qbu q,h1,Qbu (by omega)];omega
    · cases j with
      |zero=>simpa using q
      |succ j=>simpa using h3 j (by omega)
theorem zin {α β γ:Type} {L:Nat->Int->List β->Option γ} {xs:List α} {g:α->List β} {v:γ} {s0:List β} {B:Nat} (hB:s0.length+(xs.flatMap g).length<=B)
  (he:Ev (λn=>L n (xs.length:Int) (s0++xs.flatMap g)) v)
  (hs:∀k (h:k<xs.length) s,s.length+(g xs[k]).length<=B->Ev (λn=>L n ((k+1:Nat):Int) (s++g xs[k])) v->Ev (λn=>L n (k:Int) s) v):Ev (λn=>L n 0 s0) v:=by
 have:∀m k,k+m=xs.length->∀s,s.length+((xs.drop k).flatMap g).length<=B->s++(xs.drop k).flatMap g=s0++xs.flatMap g->Ev (λn=>L n (k:Int) s) v:=λm=>by
  induction m with
  |zero=>
   intro k hk s hi hf;have hkl:k=xs.length:=by omega
   subst hkl;rw [List.drop_length] at hf;simp only [List.flatMap_nil,List.append_nil] at hf
   rw [hf];exact he
  |succ m ih=>
   intro k hk s hi hf;have hlt:k<xs.length:=by omega
   rw [<-Qah (h:=hlt),List.flatMap_cons,Qap] at hi;rw [<-Qah (h:=hlt),List.flatMap_cons,<-Qaz] at hf;exact hs k hlt s (by omega) (ih (k+1) (by omega) _ (by rw [Qap];omega) hf)
 simpa using this xs.length 0 (by omega) s0 (by simpa using hB) (by simp)
theorem zm2 {α β:Type} {f:α->Nat} {g:α->List β}:∀{l:List α},(∀x∈l,(g x).length<=f x)->(l.flatMap g).length<=(l.map f).sum
 |[],_=>by simp
 |x::l,h=>by
  have h1:=h x Qak;have h2:=zm2 (f:=f) (g:=g) (l:=l) λy hy=>h y (Qai _ hy)
  simp only [List.flatMap_cons,Qap,List.map_cons,List.sum_cons];omega
def zu9 (x:yz7):List (List UInt8×Int):=[(x.name,(x.args.length:Int)-1)]
def zhj (a:zz3):List (List UInt8×Int):=(if a.name=[] then [] else [(a.name,(a.args.length:Int)-own a.kind)])++a.items.flatMap zu9
def y1o (c:yz4):List (List UInt8×Int):=c.do_.flatMap zhj
def zzh (r:yz3):List (List UInt8×Int):=r.cases.flatMap y1o
theorem ytp (a:zz3):(zhj a).length<=a.sz:=by
 have h:=zm2 (f:=yz7.sz) (g:=zu9) (l:=a.items) λx _=>by rw [yz7.zzr];show 1<=_;omega
 rw [zz3.zzr,zhj,Qap];split <;> simp only [List.length_cons,Qby] <;> omega
theorem ytv (c:yz4):(y1o c).length<=c.sz:=by
 have h:=zm2 (f:=zz3.sz) (g:=zhj) (l:=c.do_) λx _=>ytp x
 rw [yz4.zzr];unfold y1o;omega
theorem zmz (r:yz3):(zzh r).length<=r.sz:=by
 have h:=zm2 (f:=yz4.sz) (g:=y1o) (l:=r.cases) λx _=>ytv x
 rw [yz3.zzr];unfold zzh;omega
def toT (x:List UInt8×Int):zzj:=⟨x.1,x.2⟩
def toG (x:List UInt8×Int):yzw:=⟨x.1,x.2⟩
theorem z04a (k:Int):0<=own k∧own k<=3:=by unfold own;split <;> (try split) <;> omega
theorem ymv {a k:Int} (h0:0<=a) (h1:a<=4000000) (h2:0<=k) (h3:k<=3):IntKind.i64.wrap (a-k)=a-k:=wI (by omega)
theorem yqw {r:yz3} (hs:r.sz<=4000000):Ev (λn=>zaz n r) ((zzh r).map toT):=by
 have hlen:=zmz r;have hmap:(zzh r).map toT=r.cases.flatMap λc=>c.do_.flatMap λa=>(zhj a).map toT:=by simp only [zzh,y1o,List.map_flatMap]
 have:=@zni r;rw [ybe]
 refine zin (L:=λn k s=>z4t n k r.cases (r.cases.length:Int) s) (xs:=r.cases) (g:=λc=>c.do_.flatMap λa=>(zhj a).map toT) (B:=4000000) (by rw [<-hmap];simp;omega) (by
  rw [znm,Ev.zz2 (by simp),Ev.yz0,hmap];rfl) λk hk s hi hv => ?_
 have:=zlx (Qad hk);have:=@zo4 r.cases[k];rw [znm,Ev.yz2 (by simpa using hk),Ev.zz1 (zz6 hk)]
 refine zin (L:=λn j s=>z2c n j r.cases[k].do_ r.cases (r.cases.length:Int) (k:Int) (r.cases[k].do_.length:Int) s) (xs:=r.cases[k].do_) (g:=λa=>(zhj a).map toT) (B:=4000000) hi (by
  rw [zo8,Ev.zz2 (by simp),wrk (by omega)];exact hv) λj hj s hi hv => ?_
 have:=zr3 (Qad hj);generalize hx:r.cases[k].do_[j]=a at *;have:=@zsp a;have:=@z04b a;have ho:=z04a a.kind;rw [zhj,List.map_append,Qap] at hi;rw [zhj,List.map_append,<-Qaz] at hv
 have l2:∀t:List zzj,t.length+((a.items.flatMap zu9).map toT).length<=4000000->Ev (λn=>z2c n ((j+1:Nat):Int) r.cases[k].do_ r.cases (r.cases.length:Int) (k:Int) (r.cases[k].do_.length:Int) (t++(a.items.flatMap zu9).map toT)) ((zzh r).map toT)->Ev (λn=>z4z n r.cases[k].do_ r.cases (r.cases.length:Int) (k:Int) (r.cases[k].do_.length:Int) (j:Int) t a) ((zzh r).map toT):=λt ht hv=>by
  have hm:(a.items.flatMap zu9).map toT=a.items.flatMap λx=>[(⟨x.name,(x.args.length:Int)-1⟩:zzj)]:=by rw [List.map_flatMap];rfl
  rw [hm] at ht hv;rw [y00]
  refine zin (L:=λn i s=>z4i n i a.items r.cases[k].do_ r.cases (r.cases.length:Int) (k:Int) (r.cases[k].do_.length:Int) (j:Int) (a.items.length:Int) s) (xs:=a.items) (g:=λx=>[(⟨x.name,(x.args.length:Int)-1⟩:zzj)]) (B:=4000000) ht (by
   rw [zoz,Ev.zz2 (by simp),wrk (by omega)];exact hv) λi hi s hl hv => ?_
  have:=y0i (Qad hi);have:=@z00k a.items[i];rw [zoz,Ev.yz2 (by simpa using hi),Ev.zz1 (zz6 hi),ymv (by omega) (by omega) (by omega) (by omega),Ev.zz1 (za5 (by simp at hl ⊢;omega)),wrk (by omega)];exact hv
 rw [zo8,Ev.yz2 (by simpa using hj),Ev.zz1 (zz6 hj),hx];by_cases hn:a.name=[]
 ·rw [Ev.zz2 (by simp [hn])];rw [Qbt hn] at hv hi;exact l2 s (by simpa using hi) (by simpa using hv)
 ·rw [Ev.yz2 (by simpa using hn),Ev.kz0 y2m,ymv (by omega) (by omega) ho.1 ho.2];rw [Qbu hn] at hv hi;rw [Ev.zz1 (za5 (by simp at hi ⊢;omega))];exact l2 _ (by simp at hi ⊢;omega) hv
theorem yai {r:yz3} (hs:r.sz<=4000000) (hf:∀c∈r.cases,∀a∈c.do_,(a.name=[]↔a.kind=5∨a.kind=6)):Ev (λn=>zae n r) ((zzh r).map toG):=by
 have hlen:=zmz r;have hmap:(zzh r).map toG=r.cases.flatMap λc=>c.do_.flatMap λa=>(zhj a).map toG:=by simp only [zzh,y1o,List.map_flatMap]
 have:=@zni r;rw [yhr]
 refine zin (L:=λn k s=>z6k n k s r) (xs:=r.cases) (g:=λc=>c.do_.flatMap λa=>(zhj a).map toG) (B:=4000000) (by rw [<-hmap];simp;omega) (by
  rw [zqa,Ev.zz2 (by simp),Ev.yz0,hmap];rfl) λk hk s hi hv => ?_
 have hc:=Qad hk;have:=zlx hc;have:=@zo4 r.cases[k];rw [zqa,Ev.yz2 (by simpa using hk)]
 refine zin (L:=λn j s=>z3k n j (k:Int) s r) (xs:=r.cases[k].do_) (g:=λa=>(zhj a).map toG) (B:=4000000) hi (by
  rw [zrj,Ev.zz1 (zz6 hk),Ev.zz2 (by simp),wrk (by omega)];exact hv) λj hj s hi hv => ?_
 have ha:=Qad hj;have:=zr3 ha;have hfa:=hf _ hc _ ha;generalize hx:r.cases[k].do_[j]=a at *;have:=@zsp a;have:=@z04b a;have ho:=z04a a.kind;rw [zhj,List.map_append,Qap] at hi;rw [zhj,List.map_append,<-Qaz] at hv
 have l2:∀t:List yzw,t.length+((a.items.flatMap zu9).map toG).length<=4000000->Ev (λn=>z3k n ((j+1:Nat):Int) (k:Int) (t++(a.items.flatMap zu9).map toG) r) ((zzh r).map toG)->Ev (λn=>z6n n (k:Int) (j:Int) a t r) ((zzh r).map toG):=λt ht hv=>by
  have hm:(a.items.flatMap zu9).map toG=a.items.flatMap λx=>[(⟨x.name,(x.args.length:Int)-1⟩:yzw)]:=by rw [List.map_flatMap];rfl
  rw [hm] at ht hv;rw [y1s]
  refine zin (L:=λn i s=>z62 n i (k:Int) (j:Int) a s r) (xs:=a.items) (g:=λx=>[(⟨x.name,(x.args.length:Int)-1⟩:yzw)]) (B:=4000000) ht (by
   rw [zqj,Ev.zz2 (by simp),wrk (by omega)];exact hv) λi hi s hl hv => ?_
  have:=y0i (Qad hi);have:=@z00k a.items[i];rw [zqj,Ev.yz2 (by simpa using hi),Ev.zz1 (zz6 hi),Ev.zz1 (zz6 hi),ymv (by omega) (by omega) (by omega) (by omega),Ev.zz1 (za5 (by simp at hl ⊢;omega)),wrk (by omega)];exact hv
 rw [zrj,Ev.zz1 (zz6 hk),Ev.yz2 (by simpa using hj),Ev.zz1 (zz6 hk),Ev.zz1 (zz6 hj),hx];by_cases hn:a.name=[]
 ·rw [Qbt hn] at hv hi;have l3:=l2 s (by simpa using hi) (by simpa using hv);have l2f:Ev (λn=>z5y n (k:Int) (j:Int) false a r s) ((zzh r).map toG):=by rw [zrf,Ev.zz2 (by rfl)];exact l3
  rcases hfa.1 hn with h|h
  ·rw [Ev.zz2 (by simp [h])];exact l2f
  ·rw [Ev.yz2 (by simp [h]),show (a.kind != 6)=false by simp [h]];exact l2f
 ·have hk5:a.kind≠5∧a.kind≠6:=⟨λh=>hn (hfa.2 (.inl h)),λh=>hn (hfa.2 (.inr h))⟩;rw [Ev.yz2 (by simp [hk5.1]),show (a.kind != 6)=true by simp [hk5.2],zrf,Ev.yz2 (by rfl),Ev.kz0 yip,ymv (by omega) (by omega) ho.1 ho.2];rw [Qbu hn] at hv hi;rw [Ev.zz1 (za5 (by simp at hi ⊢;omega))];exact l2 _ (by simp at hi ⊢;omega) hv
theorem ysb {a:zz3} (h:z3m a=true):a.name=[]↔a.kind=5∨a.kind=6:=by
 obtain ⟨h1,h2,h3,_⟩:=zts.1 h;by_cases hk:a.kind<=4
 ·rw [Qbt hk] at h3;refine ⟨λh => ?_,λh=>by omega⟩;rw [h,yif] at h3;cases h3
 ·rw [Qbu hk] at h3;exact ⟨λ_=>by omega,λ_=>h3⟩
theorem yrp {p:zz0} (h:zjq p=true):∀r∈p.rules,∀c∈r.cases,∀a∈c.do_,z3m a=true:=λr hr c hc a ha=>by
 unfold zjq at h;have h:=Qat.1 (Bool.and_eq_true_iff.1 h).2 r hr;unfold zvu at h;have h:=Qat.1 (Bool.and_eq_true_iff.1 (Bool.and_eq_true_iff.1 h).2).2 c hc;unfold y3p at h;exact Qat.1 (Bool.and_eq_true_iff.1 (Bool.and_eq_true_iff.1 (Bool.and_eq_true_iff.1 h).2).2).2 a ha
def zjg (a:zz3):List yz1:=a.args++a.items.flatMap (·.args)
def zfg (c:yz4):List yz1:=c.when_::c.do_.flatMap zjg
def zu8 (r:yz3):List yz1:=r.cases.flatMap zfg
theorem ysm (a:zz3):(zjg a).length<=a.sz:=by
 have h:=zm2 (f:=yz7.sz) (g:=λx:yz7=>x.args) (l:=a.items) λx _=>z00k
 have:=z8l a.args;rw [zz3.zzr,zjg,Qap];omega
theorem zxb (c:yz4):(zfg c).length<=c.sz:=by
 have h:=zm2 (f:=zz3.sz) (g:=zjg) (l:=c.do_) λx _=>ysm x
 rw [yz4.zzr,zfg,List.length_cons];omega
theorem ybm (r:yz3):(zu8 r).length<=r.sz:=by
 have h:=zm2 (f:=yz4.sz) (g:=zfg) (l:=r.cases) λx _=>zxb x
 rw [yz3.zzr];unfold zu8;omega
theorem yag {a:zz3} {e:yz1} (h:e∈zjg a):e.size<=a.sz∧(a.wf->e.wf):=by
 rcases Qbb.1 h with h|h
 ·have:=y1z h;have:=@y3a a;exact ⟨by omega,λw=>wf_ae w h⟩
 ·obtain ⟨x,hx,he⟩:=List.mem_flatMap.1 h;have:=y1z he;have:=@y3l x;have:=y0i hx;exact ⟨by omega,λw=>wf_xe (z043 w hx) he⟩
theorem zwk {c:yz4} {e:yz1} (h:e∈zfg c):e.size<=c.sz∧(c.wf->e.wf):=by
 rcases Qbi.1 h with h|h
 ·subst h;have:=@y8l c;exact ⟨by omega,z03u⟩
 ·obtain ⟨a,ha,he⟩:=List.mem_flatMap.1 h;have:=yag he;have:=zr3 ha;exact ⟨by omega,λw=>(yag he).2 (z00s w ha)⟩
theorem ybf {r:yz3} {e:yz1} (h:e∈zu8 r):e.size<=r.sz∧(r.wf->e.wf):=by
 obtain ⟨c,hc,he⟩:=List.mem_flatMap.1 h;have:=zwk he;have:=zlx hc;exact ⟨by omega,λw=>(zwk he).2 (z00c w hc)⟩
theorem yoy {r:yz3} (hs:r.sz<=4000000):Ev (λn=>zbq n r) (zu8 r):=by
 have hlen:=ybm r;have:=@zni r;rw [y77]
 refine zin (L:=λn k s=>z3w n k r.cases (r.cases.length:Int) s) (xs:=r.cases) (g:=zfg) (B:=4000000) (by show 0+(zu8 r).length<=_;omega) (by
  rw [zna,Ev.zz2 (by simp),Ev.yz0];rfl) λk hk s hi hv => ?_
 have:=zlx (Qad hk);have:=@zo4 r.cases[k];have e1:s++zfg r.cases[k]=(s++[r.cases[k].when_])++r.cases[k].do_.flatMap zjg:=by simp [zfg]
 rw [e1] at hv;rw [zfg,List.length_cons] at hi;rw [zna,Ev.yz2 (by simpa using hk),Ev.zz1 (zz6 hk),yz1.zz4,Ev.zz1 (za5 (by simp only [Qap,List.length_cons,Qby];omega))]
 refine zin (L:=λn j s=>z4g n j r.cases[k].do_ r.cases (r.cases.length:Int) (k:Int) (r.cases[k].do_.length:Int) s) (xs:=r.cases[k].do_) (g:=zjg) (B:=4000000) (by simp only [Qap,List.length_cons,Qby];omega) (by
  rw [znz,Ev.zz2 (by simp),wrk (by omega)];exact hv) λj hj s hi hv => ?_
 have:=zr3 (Qad hj);generalize hx:r.cases[k].do_[j]=a at *;have:=@zsp a;rw [zjg,Qap] at hi;rw [zjg,<-Qaz] at hv;rw [znz,Ev.yz2 (by simpa using hj),Ev.zz1 (zz6 hj),hx,Ev.zz1 (za5 (by omega))]
 refine zin (L:=λn i s=>z54 n i a.items r.cases[k].do_ r.cases (r.cases.length:Int) (k:Int) (r.cases[k].do_.length:Int) (j:Int) (a.items.length:Int) s) (xs:=a.items) (g:=λx=>x.args) (B:=4000000) (by simp only [Qap,List.length_cons,Qby];omega) (by
  rw [zp4,Ev.zz2 (by simp),wrk (by omega)];exact hv) λi hi s hl hv => ?_
 rw [zp4,Ev.yz2 (by simpa using hi),Ev.zz1 (zz6 hi),Ev.zz1 (za5 (by omega)),wrk (by omega)];exact hv
theorem yp7 {c:yz4} (hs:c.sz<=4000000):Ev (λn=>zbg n c) (zfg c):=by
 have hlen:=zxb c;have:=@zo4 c;have e1:zfg c=[c.when_]++c.do_.flatMap zjg:=by simp [zfg]
 rw [zfg,List.length_cons] at hlen;rw [y91,yz4.zz4,yz1.zz4]
 refine zin (L:=λn j s=>z50 n j c s) (xs:=c.do_) (g:=zjg) (B:=4000000) (by simp only [Qap,List.length_cons,Qby];omega) (by
  rw [zok,Ev.zz2 (by simp),Ev.yz0,e1]) λj hj s hi hv => ?_
 have:=zr3 (Qad hj);have hxx:=zz6 hj;generalize hx:c.do_[j]=a at *;have:=@zsp a;rw [zjg,Qap] at hi;rw [zjg,<-Qaz] at hv;rw [zok,Ev.yz2 (by simpa using hj),Ev.zz1 hxx,Ev.zz1 (za5 (by omega)),yz4.zz4]
 refine zin (L:=λn i s=>z4q n i (j:Int) c s) (xs:=a.items) (g:=λx=>x.args) (B:=4000000) (by simp only [Qap,List.length_cons,Qby];omega) (by
  rw [zoy,Ev.zz1 hxx,Ev.zz2 (by simp),wrk (by omega),yz4.zz4];exact hv) λi hi s hl hv => ?_
 rw [zoy,Ev.zz1 hxx,Ev.yz2 (by simpa using hi),Ev.zz1 hxx,Ev.zz1 (zz6 hi),Ev.zz1 (za5 (by omega)),wrk (by omega),yz4.zz4];exact hv
noncomputable def within (K:List (List UInt8)) (e:yz1):Bool:=(zgx e).1.all λs=>decide (s∈K)
theorem y9h (e:yz1) (hs:e.size<=8388608):(zgx e).1.length<=8388608:=by
 unfold zgx;split
 ·simp
 ·have h1:=yhx e [];have h2:=zph e;simp only [Qby] at h1;show (zpg e []).length<=_;omega
theorem zy3 {e:yz1} {K:List (List UInt8)} (hs:e.size<=8388608) (hK:K.length<=8388608):Ev (λn=>z81 n e K) (within K e):=by
 have hl:=y9h e hs;rw [y5m,yz1.zz4,Ev.kz0 (ypw hs),<-ifB (within K e)];refine zas (L:=λn k=>z2x n k (zgx e).1 K) (by rw [zme,Ev.zz2 (by simp),Ev.yz0]) λk hk v hv => ?_
 rw [zme,Ev.yz2 (by simpa using hk),Ev.zz1 (zz6 hk),Ev.kz0 (zpz hK)];by_cases h:(zgx e).1[k]∈K
 ·rw [Ev.zz2 (Qbo λq=>zui.1 q h),Qbp h,wrk (by omega)];exact hv
 ·rw [Ev.yz2 (Qbp (zui.2 h)),Qbo h,Ev.yz0];rfl
def MK (m:List (List UInt8×Bool)) (K:List (List UInt8)):Prop:=∀k,(z84 m k).getD false=decide (k∈K)
theorem y7r {α σ:Type} {L:Nat->Int->Option (Int×σ)} {l:List α} {p:α->Bool} {st:σ}
  (he:Ev (λn=>L n (l.length:Int)) (-1,st))
  (hs:∀k (h:k<l.length) v,(p l[k]=true->Ev (λn=>L n (k:Int)) ((k:Int),st))∧(p l[k]=false->Ev (λn=>L n ((k+1:Nat):Int)) v->Ev (λn=>L n (k:Int)) v)) :
  ∃i:Int,Ev (λn=>L n 0) (i,st)∧decide (i>=0)=l.any p:=by
 have:∀k,k<=l.length->∃i:Int,Ev (λn=>L n (k:Int)) (i,st)∧decide (i>=0)=(l.drop k).any p :=
  down ⟨-1,he,by simp⟩ λk hk ⟨i,h1,h2⟩=>by
   obtain ⟨a1,a2⟩:=hs k hk (i,st)
   cases hp:p l[k] with
   |true=>exact ⟨k,a1 hp,by rw [<-Qah (h:=hk),List.any_cons,hp];simp⟩
   |false=>exact ⟨i,a2 hp h1,by rw [<-Qah (h:=hk),List.any_cons,hp,h2];simp⟩
 simpa using this 0 (Qbr _)
theorem ya7 {e:yz1} {m:List (List UInt8×Bool)} {K:List (List UInt8)} (hm:MK m K) (hw:e.wf) (hs:e.size<=8388608):Ev (λn=>za9 n e (mks m) (mvs m)) (!within K e,mks m,mvs m):=by
 have hl:=y9h e hs
 obtain ⟨i,h1,h2⟩:=y7r (L:=λn k=>kza n k (zgx e).1 ((zgx e).1.length:Int) (mks m) (mvs m)) (l:=(zgx e).1) (p:=λs => !decide (s∈K)) (st:=(mks m,mvs m))
  (by rw [z10,Ev.zz2 (by simp),Ev.yz0,zz9]) λk hk v=>by
   have hf:Ev (λn=>z9f n (zgx e).1[k] (mks m) (mvs m)) (!decide ((zgx e).1[k]∈K),mks m,mvs m):=by
    rw [y5p,Ev.yz0,zz9,hm]
   constructor
   ·intro hp;rw [z10,Ev.yz2 (by simpa using hk),Ev.zz1 (zz6 hk),zz9,Ev.kz0 hf,Ev.yz2 hp,Ev.yz0,zz9]
   ·intro hp hv;rw [z10,Ev.yz2 (by simpa using hk),Ev.zz1 (zz6 hk),zz9,Ev.kz0 hf,Ev.zz2 hp,zz9,wrk (by omega)];exact hv
 have hc:Ev (λn=>yze n (zgx e).1 (mks m) (mvs m)) (!within K e,mks m,mvs m):=by
  rw [zdg,zz9,Ev.kz0 (by rw [zf4,zz9];exact h1),Ev.yz0,h2,zz9,within,<-List.not_all_eq_any_not]
 rw [ygh,yz1.zz4,Ev.kz0 (yuh hw hs),zz9,Ev.kz0 hc,Ev.yz0,zz9]
theorem y8s {l:List yz1} {m:List (List UInt8×Bool)} {K:List (List UInt8)} (hm:MK m K) (hw:∀e∈l,e.wf) (hs:∀e∈l,e.size<=8388608) (hl:l.length<=8388608):Ev (λn=>zzd n l (mks m) (mvs m)) (!l.all (within K),mks m,mvs m):=by
 obtain ⟨i,h1,h2⟩:=y7r (L:=λn k=>kz9 n k l (l.length:Int) (mks m) (mvs m)) (l:=l) (p:=λe => !within K e) (st:=(mks m,mvs m))
  (by rw [z0s,Ev.zz2 (by simp),Ev.yz0,zz9]) λk hk v=>by
   have hx:=Qad hk
   have hf:Ev (λn=>z8p n l[k] (mks m) (mvs m)) (!within K l[k],mks m,mvs m):=by
    rw [y35,zz9,yz1.zz4,Ev.kz0 (ya7 hm (hw _ hx) (hs _ hx)),Ev.yz0,zz9]
   constructor
   ·intro hp;rw [z0s,Ev.yz2 (by simpa using hk),Ev.zz1 (zz6 hk),zz9,yz1.zz4,Ev.kz0 hf,Ev.yz2 hp,Ev.yz0,zz9]
   ·intro hp hv;rw [z0s,Ev.yz2 (by simpa using hk),Ev.zz1 (zz6 hk),zz9,yz1.zz4,Ev.kz0 hf,Ev.zz2 hp,zz9,wrk (by omega)];exact hv
 rw [zda,zz9,Ev.kz0 (by rw [zei,zz9];exact h1),Ev.yz0,h2,zz9,<-List.not_all_eq_any_not]
theorem ytl {l:List (List UInt8)}:(∃k,∃h:k<l.length,atI l l[k]<(k:Int))↔¬l.Nodup:=by
 constructor
 ·rintro ⟨k,hk,h⟩ hn
  obtain ⟨i,hi,h1,h2,_⟩:=zu0 (Qad hk);have:=(List.getElem_inj hn).1 h2;omega
 ·intro h;rw [List.nodup_iff_pairwise_ne,List.pairwise_iff_getElem] at h;simp only [Classical.not_forall] at h;obtain ⟨i,j,hi,hj,hij,h⟩:=h;have h:=Classical.not_not.1 h;refine ⟨j,hj,?_⟩;obtain ⟨a,ha,h1,h2,h3⟩:=zu0 (Qad hj);rw [h1];have:a<=i:=Nat.le_of_not_lt λq=>h3 i q (by rw [h])
  omega
noncomputable def dup (l:List (List UInt8)):Bool:=@decide (¬l.Nodup) (Classical.propDecidable _)
theorem yop {l:List (List UInt8)}:dup l=true↔¬l.Nodup:=@decide_eq_true_iff _ (Classical.propDecidable _)
theorem z045 {l:List (List UInt8)}:dup l=false↔l.Nodup:=by rw [<-Bool.not_eq_true,yop,Classical.not_not]
theorem y8h {γ:Type} {L:Nat->Int->Option γ} {l:List (List UInt8)} {t f:γ} (he:Ev (λn=>L n (l.length:Int)) f)
  (hs:∀k (h:k<l.length) v,Ev (λn=>L n ((k+1:Nat):Int)) v->Ev (λn=>L n (k:Int)) (if decide (atI l l[k]<(k:Int))=true then t else v)):Ev (λn=>L n 0) (if dup l=true then t else f):=by
 have:∀k,k<=l.length->∀b:Bool,(b=true↔∃j,k<=j∧∃h:j<l.length,atI l l[j]<(j:Int))->Ev (λn=>L n (k:Int)) (if b=true then t else f) :=
  down (λb hb=>by
   rw [Qbu λh=>by obtain ⟨j,h1,h2,_⟩:=hb.1 h;omega];exact he) λk hk ih b hb=>by
   by_cases h:atI l l[k]<(k:Int)
   ·rw [Qbt (hb.2 ⟨k,Qbs _,hk,h⟩)];have:=hs k hk _ (ih (@decide _ (Classical.propDecidable _)) (@decide_eq_true_iff _ (Classical.propDecidable _)));rwa [Qbt (Qbp h)] at this
   ·have hb':b=true↔∃j,k+1<=j∧∃h:j<l.length,atI l l[j]<(j:Int):=by
     rw [hb];constructor
     ·rintro ⟨j,h1,h2,h3⟩
      refine ⟨j,?_,h2,h3⟩
      rcases Nat.lt_or_ge k j with q|q
      ·exact q
      ·have e:j=k:=by omega
       subst e;exact (h h3).elim
     ·rintro ⟨j,h1,h2⟩
      exact ⟨j,by omega,h2⟩
    have:=hs k hk _ (ih b hb');rwa [Qbu (by simpa using h)] at this
 have:=this 0 (Qbr _) (dup l) (by rw [yop,<-ytl];exact ⟨λ⟨k,h⟩=>⟨k,Qbr _,h⟩,λ⟨k,_,h⟩=>⟨k,h⟩⟩);simpa using this
theorem y3v {l:List (List UInt8)} (hb:l.length<=8388608):Ev (λn=>z8z n l) (dup l):=by
 rw [y8y,<-ifB (dup l)];refine y8h (L:=λn k=>z3q n k l) (by rw [znf,Ev.zz2 (by simp),Ev.yz0]) λk hk v hv => ?_
 rw [znf,Ev.yz2 (by simpa using hk),Ev.zz1 (zz6 hk),Ev.kz0 (zpz hb),wrk (by omega),Ev.pif,Ev.yz0];split
 ·rfl
 ·exact hv
theorem yy1 {l:List (List UInt8)} {s:List UInt8} (hb:l.length<=8388608):Ev (λn=>zba n s l) (atI l s,l):=by
 have h:=y7p (L:=λn k=>(kzp n k s l).map Prod.fst) (l:=l) (s:=s) (p:=λx=>x==s) (λx=>by simp) hb λn k=>by
  show (kzp (n+1) k s l).map Prod.fst=_;rw [kzp.eq_2];cases decide (k<(l.length:Int))
  ·rfl
  ·cases hx:ix l k with
   |none=>rfl
   |some x=>show (pIf (x==s) _ _).map Prod.fst=pIf (x==s) _ _;cases (x==s) <;> rfl
 have h2:∀n k r,kzp n k s l=some r->r.2=l:=λn=>by
  induction n with
  |zero=>intro k r hr;cases hr
  |succ n ih=>
   intro k r hr;rw [kzp.eq_2] at hr;cases hc:decide (k<(l.length:Int)) <;> rw [hc] at hr
   · injection hr with hr;rw [<-hr]
   · cases hx:ix l k with
     |none=>rw [hx] at hr;cases hr
     |some x=>
      rw [hx] at hr;change pIf (x==s) _ _=_ at hr;cases hq:(x==s) <;> rw [hq] at hr
      · exact ih _ _ hr
      · injection hr with hr;rw [<-hr]
 rw [y7w];obtain ⟨n,hn⟩:=h;refine ⟨n,λm hm => ?_⟩;have:=hn m hm;change (kzp m 0 s l).map Prod.fst=_ at this;show kzp m 0 s l=_
 cases hr:kzp m 0 s l with
 |none=>rw [hr] at this;cases this
 |some r=>
  rw [hr] at this;injection this with this;have e:=h2 _ _ _ hr;obtain ⟨r1,r2⟩:=r;simp only at this e;rw [this,e]
theorem ymf {l:List (List UInt8)} (hb:l.length<=8388608):Ev (λn=>z7h n l) (dup l,l):=by
 have e:(dup l,l)=if dup l=true then (true,l) else (false,l):=by cases dup l <;> rfl
 rw [zy0,e];refine y8h (L:=λn k=>z14 n k l) (by rw [zjy,Ev.zz2 (by simp),Ev.yz0]) λk hk v hv => ?_
 rw [zjy,Ev.yz2 (by simpa using hk),Ev.zz1 (zz6 hk),Ev.kz0 (yy1 hb),wrk (by omega),Ev.pif,Ev.yz0];split
 ·rfl
 ·exact hv
noncomputable def rdbl (p:zz0):Bool:=dup (kzf p)||(dup (yz8 p)||p.rules.any λr=>dup (r.params++kzf p))
theorem ye3 {p:zz0} (hs:p.sz<=4000000):Ev (λn=>z8q n p) (rdbl p):=by
 have:=@zl5 p;have:=@zhq p;have ha:(kzf p).length=p.attrs.length:=by simp [kzf]
 have hr:(yz8 p).length=p.rules.length:=by simp [yz8]
 have l1:Ev (λn=>z0l n 0 p) (if (p.rules.any λr=>dup (r.params++kzf p))=true then true else false):=by
  refine zor (L:=λn k=>z0l n k p) (by rw [zkz,Ev.zz2 (by simp),Ev.yz0]) λk hk v hv => ?_
  have:=zl6 (Qad hk);have:=@zsq p.rules[k];rw [zkz,Ev.yz2 (by simpa using hk),Ev.zz1 (zz6 hk),Ev.zz1 (za5 (by simp only [Qap,List.length_cons,Qby];omega)),List.nil_append,Ev.kz0 (znl (by omega)),Ev.zz1 (za5 (by omega)),Ev.kz0 (ymf (by rw [Qap];omega)),wrk (by omega),Ev.pif,Ev.yz0];split
  ·rfl
  ·exact hv
 have l0:∀b,Ev (λn=>z1v n b p) (b||p.rules.any λr=>dup (r.params++kzf p)):=λb=>by
  cases b
  ·rw [zl4,Ev.zz2 (by rfl),ifB] at *;exact l1
  ·rw [zl4,Ev.yz2 (by rfl),Ev.yz0];rfl
 rw [y1a,Ev.kz0 (znl (by omega)),Ev.kz0 (y3v (by omega)),rdbl];cases dup (kzf p)
 ·rw [Ev.zz2 (by rfl),Ev.kz0 (znb (by omega)),Ev.kz0 (y3v (by omega))];exact l0 _
 ·rw [Ev.yz2 (by rfl)];exact l0 true
noncomputable def kA:List (List UInt8)->List yz5->Bool
 |_,[]=>true
 |pre,t::l=>within pre t.value&&kA (pre++[t.name]) l
def scope (p:zz0) (r:yz3):List (List UInt8):=([[115,120],[115,121],[115,122]]++kzf p)++r.params
noncomputable def kR (p:zz0) (r:yz3):Bool:=(zu8 r).all (within (scope p r))&&(zzh r).all λc=>decide (c.1∈yz8 p)
noncomputable def y78 (p:zz0):Bool:=kA [] p.attrs&&p.rules.all (kR p)
def ywt (p:zz0) (s:List UInt8):Int:=match p.rules[(atI (yz8 p) s).toNat]? with
 |some r=>r.params.length
 |none => -1
def zku (p:zz0) (r:yz3):Bool:=(zzh r).any λc=>decide (c.1∈yz8 p)&&(c.2 != ywt p c.1)
def y6t (p:zz0):Bool:=p.rules.any (zku p)
noncomputable def zjl (p:zz0):Int:=if y6s p=true then 4 else if zjq p=true then (if rdbl p=true then 14 else if y78 p=true then (if y6t p=true then 2 else 0) else 6) else 8
theorem zke {p:zz0} {k:Nat} (h:k<p.attrs.length):(kzf p).take (k+1)=(kzf p).take k++[p.attrs[k].name]:=by
 rw [List.take_add_one];simp only [kzf,Qan,Qab h,Qbn,Option.toList_some]
theorem zt6 {p:zz0} {k:Nat} (h:k<p.rules.length):(yz8 p).take (k+1)=(yz8 p).take k++[p.rules[k].name]:=by
 rw [List.take_add_one];simp only [yz8,Qan,Qab h,Qbn,Option.toList_some]
theorem z01k {α:Type} {l:List α} {k:Nat} (h:k<=l.length):sub l 0 (k:Int)=some (l.take k):=by
 unfold sub;rw [Qbt (by omega)];simp
theorem yxq (p:zz0) (r:yz3):(scope p r).length=3+p.attrs.length+r.params.length:=by simp [scope,kzf];omega
theorem yvc {p:zz0} {s:List UInt8} (h:s∈yz8 p):∃i:Nat,∃hi:i<p.rules.length,atI (yz8 p) s=(i:Int)∧p.rules[i].name=s∧ywt p s=(p.rules[i].params.length:Int):=by
 obtain ⟨i,hi,h1,h2,_⟩:=zu0 h;have hi':i<p.rules.length:=by simpa [yz8] using hi
 refine ⟨i,hi',h1,by simpa [yz8] using h2,?_⟩;unfold ywt;rw [h1,Qbm,Qab hi']
theorem yrn {p:zz0} (hs:p.sz<=4000000) (hf:zjq p=true):Ev (λn=>zbj n p) (y78 p):=by
 have:=@zl5 p;have:=@zhq p;have ha:(kzf p).length=p.attrs.length:=by simp [kzf]
 have hr:(yz8 p).length=p.rules.length:=by simp [yz8]
 have l1:Ev (λn=>z2e n 0 (kzf p) p) (if p.rules.all (kR p)=true then true else false):=by
  refine zas (L:=λn k=>z2e n k (kzf p) p) (by rw [zoc,Ev.zz2 (by simp),Ev.yz0]) λk hk v hv => ?_
  have hm:=Qad hk;have:=zl6 hm;have:=@zsq p.rules[k];have:=@zni p.rules[k];have hsc:=yxq p p.rules[k];have hcl:=zmz p.rules[k]
  have l4:Ev (λn=>z27 n 0 ((zzh p.rules[k]).map toG) (kzf p) (k:Int) p) (if ((zzh p.rules[k]).all λc=>decide (c.1∈yz8 p))=true then v else false):=by
   refine zas (L:=λn j=>z27 n j ((zzh p.rules[k]).map toG) (kzf p) (k:Int) p) (by rw [znr,Ev.zz2 (by simp),wrk (by omega)];exact hv) λj hj w hw => ?_
   have hj':j<((zzh p.rules[k]).map toG).length:=by simpa using hj
   rw [znr,Ev.yz2 (by simpa using hj),Ev.kz0 (znb (by omega)),Ev.zz1 (zz6 hj'),List.getElem_map,Ev.kz0 (zpz (by omega))];show Ev (λn=>pIf (decide (atI (yz8 p) (zzh p.rules[k])[j].1<0)) _ _) _;by_cases h:(zzh p.rules[k])[j].1∈yz8 p
   ·rw [Ev.zz2 (Qbo λq=>zui.1 q h),Qbp h,wrk (by omega)];exact hw
   ·rw [Ev.yz2 (Qbp (zui.2 h)),Qbo h,Ev.yz0];rfl
  have l2:Ev (λn=>z23 n (scope p p.rules[k]) 0 (kzf p) (k:Int) p.rules[k] p) (if (p.rules[k].cases.all λc=>(zfg c).all (within (scope p p.rules[k])))=true then (if ((zzh p.rules[k]).all λc=>decide (c.1∈yz8 p))=true then v else false) else false):=by
   refine zas (L:=λn j=>z23 n (scope p p.rules[k]) j (kzf p) (k:Int) p.rules[k] p) (by rw [znd,Ev.zz2 (by simp),Ev.kz0 (yai (by omega) λc hc a ha=>ysb (yrp hf _ hm c hc a ha))];exact l4) λj hj w hw => ?_
   have:=zlx (Qad hj);have hel:=zxb p.rules[k].cases[j];rw [znd,Ev.yz2 (by simpa using hj),Ev.zz1 (zz6 hj),yz4.zz4,Ev.kz0 (yp7 (by omega))];refine zas (L:=λn i=>z44 n i (scope p p.rules[k]) (zfg p.rules[k].cases[j]) (kzf p) (k:Int) (j:Int) p.rules[k] p) (by rw [znc,Ev.zz2 (by simp),wrk (by omega)];exact hw) λi hi u hu => ?_
   have:=(zwk (Qad hi)).1;rw [znc,Ev.yz2 (by simpa using hi),Ev.zz1 (zz6 hi),yz1.zz4,Ev.kz0 (zy3 (by omega) (by omega))];cases within (scope p p.rules[k]) (zfg p.rules[k].cases[j])[i]
   ·rw [Ev.yz2 (by rfl),Ev.yz0];rfl
   ·rw [Ev.zz2 (by rfl),wrk (by omega)];exact hu
  rw [zoc,Ev.yz2 (by simpa using hk),Ev.zz1 (zz6 hk),Ev.zz1 (za5 (by simp only [List.length_cons,Qby];omega)),Ev.zz1 (za5 (by simp only [Qap,List.length_cons,Qby];omega)),kR,ifA,zu8,List.all_flatMap];exact l2
 have l0:∀k,k<=p.attrs.length->Ev (λn=>z55 n (k:Int) (kzf p) p) (if kA ((kzf p).take k) (p.attrs.drop k)=true then p.rules.all (kR p) else false) :=
  down (by
   rw [zo6,Ev.zz2 (by simp),List.drop_length,kA,Qbt rfl,<-ifB (p.rules.all (kR p))];exact l1) λk hk ih=>by
   have hm:=Qad hk;have:=zye hm;have:=@zxv p.attrs[k];rw [zo6,Ev.yz2 (by simpa using hk),Ev.zz1 (zz6 hk),Ev.zz1 (z01k (by omega)),yz1.zz4,Ev.kz0 (zy3 (by omega) (by simp;omega)),<-Qah (h:=hk),kA,ifA];cases within ((kzf p).take k) p.attrs[k].value
   ·rw [Ev.yz2 (by rfl),Ev.yz0];rfl
   ·rw [Ev.zz2 (by rfl),wrk (by omega),Qbt rfl,<-zke hk];exact ih
 have:=l0 0 (Qbr _);rw [yak,Ev.kz0 (znl (by omega)),y78];refine Ev.to this ?_;rw [List.drop_zero,List.take_zero];cases kA [] p.attrs <;> rfl
theorem y41 {p:zz0} (hw:p.wf) (hs:p.sz<=4000000):Ev (λn=>z4s n p) (zjl p):=by
 have:=@zhq p;have hr:(yz8 p).length=p.rules.length:=by simp [yz8]
 rw [y6u,Ev.kz0 (yuz (by omega)),zjl];cases y6s p
 case true=>rw [Ev.yz2 (by rfl),Ev.yz0];rfl
 rw [Ev.zz2 (by rfl),Ev.kz0 (yk8 hw (by omega)),Qbu (by simp)];cases hf:zjq p
 case false=>rw [Ev.yz2 (by rfl),Ev.yz0];rfl
 rw [Ev.zz2 (by rfl),Ev.kz0 (ye3 hs),Qbt rfl];cases rdbl p
 case true=>rw [Ev.yz2 (by rfl),Ev.yz0];rfl
 rw [Ev.zz2 (by rfl),Ev.kz0 (yrn hs hf),Qbu (by simp)];cases hk:y78 p
 case false=>rw [Ev.yz2 (by rfl),Ev.yz0];rfl
 rw [Ev.zz2 (by rfl),Qbt rfl];have hkr:=Qat.1 (Bool.and_eq_true_iff.1 hk).2;refine zor (L:=λn k=>z4u n k p) (by rw [znt,Ev.zz2 (by simp),Ev.yz0]) λk hk v hv => ?_
 have hm:=Qad hk;have:=zl6 hm;have hcl:=zmz p.rules[k];have hkc:=Qat.1 (Bool.and_eq_true_iff.1 (hkr _ hm)).2;rw [znt,Ev.yz2 (by simpa using hk),Ev.zz1 (zz6 hk),Ev.kz0 (yai (by omega) λc hc a ha=>ysb (yrp hf _ hm c hc a ha))];refine zor (L:=λn j=>z4a n j ((zzh p.rules[k]).map toG) (k:Int) p) (by rw [zon,Ev.zz2 (by simp),wrk (by omega)];exact hv) λj hj w hw => ?_
 have hj':j<((zzh p.rules[k]).map toG).length:=by simpa using hj
 have hc:=hkc _ (Qad hj);obtain ⟨i,hi,h1,h2,h3⟩:=yvc (Qac hc);rw [zon,Ev.yz2 (by simpa using hj),Ev.zz1 (zz6 hj'),Ev.kz0 (znb (by omega)),Ev.zz1 (zz6 hj'),List.getElem_map,Ev.kz0 (zpz (by omega))];show Ev (λn=>(ix p.rules (atI (yz8 p) (zzh p.rules[k])[j].1)).bind _) _;rw [h1,Ev.zz1 (zz6 hi),hc,h3,Bool.true_and,wrk (by omega)]
 show Ev (λn=>pIf ((zzh p.rules[k])[j].2 != (p.rules[i].params.length:Int)) _ _) _;cases (zzh p.rules[k])[j].2 != (p.rules[i].params.length:Int)
 ·rw [Ev.zz2 rfl];exact hw
 ·rw [Ev.yz2 rfl,Ev.yz0];rfl
section
variable {T : Type}
theorem zlt (q:List UInt8×T) (m:List (List UInt8×T)) (k:List UInt8):z84 (q::m) k=if k=q.1 then some q.2 else z84 m k:=by
 unfold z84;rw [List.find?_cons];by_cases h:k=q.1
 ·simp [h]
 ·have:(k==q.1)=false:=by simpa using h
  rw [this,Qbu h]
theorem yxp (q:List UInt8×T) (m:List (List UInt8×T)) (k:List UInt8) (x:T):zd5 (q::m) k x=if k=q.1 then (k,x)::m else q::zd5 m k x:=by
 unfold zd5;rw [List.findIdx?_cons];by_cases h:k=q.1
 ·simp [h]
 ·have:(k==q.1)=false:=by simpa using h
  rw [this,Qbu h];simp only [Bool.false_eq_true,if_false];cases List.findIdx? (λp=>k==p.1) m <;> simp
theorem y9f (m:List (List UInt8×T)) (k k':List UInt8) (x:T):z84 (zd5 m k x) k'=if k'=k then some x else z84 m k':=by
 induction m with
 |nil=>show z84 [(k,x)] k'=_;rw [zlt]
 |cons q m ih=>
  rw [yxp];by_cases h:k=q.1
  · rw [Qbt h,zlt,zlt];by_cases h2:k'=k
    · simp [h2]
    · rw [Qbu h2,Qbu h2,Qbu (λz=>h2 (z.trans h.symm))]
  · rw [Qbu h,zlt,ih,zlt];by_cases h2:k'=q.1
    · rw [Qbt h2,Qbt h2,Qbu (λz=>h (z.symm.trans h2))]
    · rw [Qbu h2,Qbu h2]
theorem yib {m:List (List UInt8×T)} {k:List UInt8}:z84 m k=none↔k∉mks m:=by
 induction m with
 |nil=>simp [z84,mks]
 |cons q m ih=>
  rw [zlt];show _↔k∉q.1::mks m;by_cases h:k=q.1
  · simp [h]
  · rw [Qbu h,ih];simp [h]
end
theorem yve {T:Type}:∀{es:List (List UInt8×T)} {i:Nat} (h:i<es.length) (s:List UInt8),s∈mks es↔s=es[i].1∨s∈mks (es.eraseIdx i)
 |[],_,h,_=>by cases h
 |q::es,0,_,s=>by show s∈q.1::mks es↔_;rw [Qbi];exact Iff.rfl
 |q::es,i+1,h,s=>by
  show s∈q.1::mks es↔s=(es[i]'(by simpa using h)).1∨s∈q.1::mks (es.eraseIdx i);rw [Qbi,Qbi,yve (es:=es) (i:=i) (by simpa using h) s];exact or_left_comm
def TM (m:List (List UInt8×Bool)) (K:List (List UInt8)):Prop:=∀k,z84 m k=if k∈K then some true else none
theorem TM.mk {m:List (List UInt8×Bool)} {K:List (List UInt8)} (h:TM m K):MK m K:=λk=>by
 rw [h k];by_cases q:k∈K <;> simp [q]
theorem TM.nil:TM [] []:=λk=>by simp [z84]
theorem TM.put {m:List (List UInt8×Bool)} {K:List (List UInt8)} (h:TM m K) (s:List UInt8):TM (zd5 m s true) (K++[s]):=λk=>by
 rw [y9f,h k];by_cases q:k=s <;> simp [q]
theorem TM.keys {m:List (List UInt8×Bool)} {K:List (List UInt8)} (h:TM m K) (s:List UInt8):s∈mks m↔s∈K:=by
 have:=h s;by_cases q:s∈K
 ·rw [Qbt q] at this;exact ⟨λ_=>q,λ_=>Classical.byContradiction λz=>by rw [yib.2 z] at this;cases this⟩
 ·rw [Qbu q] at this;exact ⟨λz=>(yib.1 this z).elim,λz=>(q z).elim⟩
theorem MK.put {m:List (List UInt8×Bool)} {K:List (List UInt8)} (h:MK m K) (s:List UInt8):MK (zd5 m s true) (K++[s]):=λk=>by
 rw [y9f];by_cases q:k=s
 ·simp [q]
 ·rw [Qbu q,h k];simp [q]
theorem MK.ext {m:List (List UInt8×Bool)} {K J:List (List UInt8)} (h:MK m K) (e:∀s,s∈K↔s∈J):MK m J:=λk=>by rw [h k];exact decide_eq_decide.2 (e k)
def RM (m:List (List UInt8×Int)) (K:List (List UInt8)):Prop:=∀k,z84 m k=if k∈K then some (atI K k) else none
theorem RM.nil:RM [] []:=λk=>by simp [z84]
theorem z01j {K:List (List UInt8)} {s:List UInt8} (h:s∉K) (k:List UInt8):atI (K++[s]) k=if k=s then (K.length:Int) else atI K k:=by
 induction K with
 |nil=>show atI [s] k=_;rw [zqi];by_cases q:s=k
       · simp [q]
       · rw [Qbu q,Qbu (Ne.symm q)];simp [atI]
 |cons x K ih=>
  have hx:x≠s:=λe=>h (by rw [e];exact Qak)
  have:=ih λz=>h (Qai _ z)
  rw [List.cons_append,zqi,zqi,this];by_cases q:k=s
  · subst q;rw [Qbu hx,Qbt rfl,Qbt rfl,Qbu (by omega)];simp
  · simp only [Qbu q]
theorem RM.put {m:List (List UInt8×Int)} {K:List (List UInt8)} (h:RM m K) {s:List UInt8} (hs:s∉K):RM (zd5 m s (K.length:Int)) (K++[s]):=λk=>by
 rw [y9f,h k,z01j hs];by_cases q:k=s
 ·simp [q]
 ·simp [q]
theorem Ev.pick {α R:Type} {es:List (List UInt8×α)} {f:Nat->List UInt8->α->List (List UInt8×α)->Option R} {g:Nat->Option R} {r:R}
  (h0:es=[]->Ev g r) (h1:∀i (h:i<es.length),Ev (λn=>f n es[i].1 es[i].2 (es.eraseIdx i)) r):Ev (λn=>y3m es (f n) (g n)) r:=by
 have hz:∃N,∀m,N<=m->(es=[]->g m=some r):=by
  by_cases he:es=[]
  ·obtain ⟨N,hN⟩:=h0 he;exact ⟨N,λm hm _=>hN m hm⟩
  ·exact ⟨0,λ_ _ h=>(he h).elim⟩
 have hb:∀k,k<=es.length->∃N,∀m,N<=m->∀i (h:i<es.length),i<k->f m es[i].1 es[i].2 (es.eraseIdx i)=some r:=λk=>by
  induction k with
  |zero=>intro _;exact ⟨0,λ_ _ _ _ h=>by omega⟩
  |succ k ih=>
   intro hk;obtain ⟨N,hN⟩:=ih (by omega);obtain ⟨M,hM⟩:=h1 k (by omega);refine ⟨max N M,λm hm i hi hik => ?_⟩;by_cases h:i=k
   · subst h;exact hM m (by omega)
   · exact hN m (by omega) i hi (by omega)
 obtain ⟨N,hN⟩:=hz;obtain ⟨M,hM⟩:=hb es.length (Qbs _);refine ⟨max N M,λm hm=>z01v (hN m (by omega)) λi p hp => ?_⟩;obtain ⟨hi,rfl⟩:=Qaa.1 hp;exact hM m (by omega) i hi hi
theorem z00p {γ:Type} {L:Nat->Int->Option γ} {len:Nat} {p:Nat->Bool} {got r:γ} {b:Bool} (hb:b=true↔∃j,j<len∧p j=true)
  (he:Ev (λn=>L n (len:Int)) r)
  (hs:∀k (h:k<len) v,Ev (λn=>L n ((k+1:Nat):Int)) v->Ev (λn=>L n (k:Int)) (if p k=true then got else v)):Ev (λn=>L n 0) (if b=true then got else r):=by
 have:∀k,k<=len->∀b:Bool,(b=true↔∃j,k<=j∧j<len∧p j=true)->Ev (λn=>L n (k:Int)) (if b=true then got else r) :=
  down (λb hb=>by rw [Qbu λh=>by obtain ⟨j,h1,h2,_⟩:=hb.1 h;omega];exact he) λk hk ih b hb=>by
   cases h:p k with
   |true=>
    rw [Qbt (hb.2 ⟨k,Qbs _,hk,h⟩)];have:=hs k hk _ (ih (@decide _ (Classical.propDecidable _)) (@decide_eq_true_iff _ (Classical.propDecidable _)))
    rwa [Qbt h] at this
   |false=>
    have hb':b=true↔∃j,k+1<=j∧j<len∧p j=true:=by
     rw [hb];constructor
     · rintro ⟨j,h1,h2,h3⟩
       refine ⟨j,?_,h2,h3⟩
       rcases Nat.lt_or_ge k j with q|q
       · exact q
       · have e:j=k:=by omega
         subst e;rw [h] at h3;cases h3
     · rintro ⟨j,h1,h2⟩
       exact ⟨j,by omega,h2⟩
    have:=hs k hk _ (ih b hb');rwa [Qbu (by simp [h])] at this
 have:=this 0 (Qbr _) b (by rw [hb];exact ⟨λ⟨j,h⟩=>⟨j,Qbr _,h⟩,λ⟨j,_,h⟩=>⟨j,h⟩⟩);simpa using this
noncomputable def yy0 (p:zz0) (r:yz3) (k:Nat):Bool:=if h:k<r.params.length then decide (r.params[k]∈kzf p)||decide (atI r.params r.params[k]<(k:Int)) else false
noncomputable def yxx (p:zz0) (r:yz3):Bool:=dup (r.params++kzf p)
theorem z01g {p:zz0} {r:yz3} (ha:(kzf p).Nodup):yxx p r=true↔∃j,j<r.params.length∧yy0 p r j=true:=by
 unfold yxx;rw [yop,List.nodup_append];constructor
 ·intro h;by_cases hp:r.params.Nodup
  ·have:¬∀a∈r.params,∀b∈kzf p,a≠b:=λz=>h ⟨hp,ha,z⟩
   simp only [Classical.not_forall,Classical.not_not] at this;obtain ⟨a,h1,b,h2,h3⟩:=this;obtain ⟨j,hj,e⟩:=List.mem_iff_getElem.1 h1;refine ⟨j,hj,?_⟩;unfold yy0;rw [dif_pos hj,e,h3,Qbp h2];rfl
  ·obtain ⟨k,hk,h⟩:=ytl.2 hp;refine ⟨k,hk,?_⟩;unfold yy0;rw [dif_pos hk,Qbp h,Bool.or_true]
 ·rintro ⟨j,hj,h⟩ ⟨h1,_,h3⟩
  unfold yy0 at h;rw [dif_pos hj,Bool.or_eq_true] at h
  rcases h with h|h
  ·exact h3 _ (Qad hj) _ (Qac h) rfl
  ·exact (ytl.1 ⟨j,hj,Qac h⟩) h1
theorem y99 {l:List (List UInt8)} {k:Nat} (h:l.Nodup):(l.take k).Nodup:=h.sublist (List.take_sublist k l)
theorem yth {p:zz0} (hw:p.wf) (hs:p.sz<=4000000) {m:List (List UInt8×Bool)} {m2:List (List UInt8×Int)} (hm:TM m (kzf p)) (hm2:RM m2 (yz8 p)) (u:Bool) :
  Ev (λn=>z26 n false 0 u (mks m) (mvs m) p.rules (p.rules.length:Int) p (mks m2) (mvs m2)) (if (u || !p.rules.all (kR p))=true then 6 else if y6t p=true then 2 else 0):=by
 have:=@zl5 p;have:=@zhq p;have hr:(yz8 p).length=p.rules.length:=by simp [yz8]
 have main:∀k,k<=p.rules.length->∀w u:Bool,Ev (λn=>z26 n w (k:Int) u (mks m) (mvs m) p.rules (p.rules.length:Int) p (mks m2) (mvs m2)) (if (u || !(p.rules.drop k).all (kR p))=true then 6 else if (w||(p.rules.drop k).any (zku p))=true then 2 else 0) :=
  down (λw u=>by
   rw [zob,Ev.zz2 (by simp),List.drop_length,Ev.pif,Ev.pif,Ev.yz0,Ev.yz0,Ev.yz0]
   cases u <;> cases w <;> simp) λk hk ih w u=>by
   have hmem:=Qad hk;have:=zl6 hmem;have hwr:=z00i hw hmem;have:=@zsq p.rules[k];have hcl:=zmz p.rules[k];have hxl:=ybm p.rules[k]
   have l9:∀u:Bool,Ev (λn=>z4r n w u (mks m) (mvs m) p.rules (p.rules.length:Int) (k:Int) p (mks m2) (mvs m2) p.rules[k]) (if ((u || !(zzh p.rules[k]).all λc=>decide (c.1∈yz8 p)) || !(p.rules.drop (k+1)).all (kR p))=true then 6 else if ((w||zku p p.rules[k])||(p.rules.drop (k+1)).any (zku p))=true then 2 else 0):=λu=>by
    have hT:((zzh p.rules[k]).map toT).length=(zzh p.rules[k]).length:=by simp
    rw [zys,Ev.kz0 (yqw (by omega)),zz9,zz9]
    have loop:∀j,j<=(zzh p.rules[k]).length->∀w u:Bool,Ev (λn=>z4p n (j:Int) w u ((zzh p.rules[k]).map toT) (mks m) (mvs m) p.rules (p.rules.length:Int) (k:Int) (((zzh p.rules[k]).map toT).length:Int) p (mks m2) (mvs m2)) (if ((u || !((zzh p.rules[k]).drop j).all λc=>decide (c.1∈yz8 p)) || !(p.rules.drop (k+1)).all (kR p))=true then 6 else if ((w||((zzh p.rules[k]).drop j).any λc=>decide (c.1∈yz8 p)&&(c.2 != ywt p c.1))||(p.rules.drop (k+1)).any (zku p))=true then 2 else 0) :=
     down (λw u=>by
      rw [znq,Ev.zz2 (by simp),wrk (by omega),zz9,zz9,List.drop_length]
      simpa using ih w u) λj hj ihj w u=>by
      have hj':j<((zzh p.rules[k]).map toT).length:=by simpa using hj
      have l11:∀w u:Bool,Ev (λn=>z11 n w u ((zzh p.rules[k]).map toT) (mks m) (mvs m) p.rules (p.rules.length:Int) (k:Int) (((zzh p.rules[k]).map toT).length:Int) (j:Int) p (mks m2) (mvs m2)) _:=λw u=>by
       rw [zxf,wrk (by omega),zz9,zz9];exact ihj w u
      have hget:=hm2 (zzh p.rules[k])[j].1
      have l10:∀u:Bool,Ev (λn=>z30 n u ((zzh p.rules[k]).map toT) (mks m) (mvs m) p.rules (p.rules.length:Int) (k:Int) (((zzh p.rules[k]).map toT).length:Int) (j:Int) (Option.getD (z84 m2 (zzh p.rules[k])[j].1) 0) (Option.isSome (z84 m2 (zzh p.rules[k])[j].1)) w p (mks m2) (mvs m2) (toT (zzh p.rules[k])[j])) (if ((u || !((zzh p.rules[k]).drop (j+1)).all λc=>decide (c.1∈yz8 p)) || !(p.rules.drop (k+1)).all (kR p))=true then 6 else if (((w||(decide ((zzh p.rules[k])[j].1∈yz8 p)&&((zzh p.rules[k])[j].2 != ywt p (zzh p.rules[k])[j].1)))||((zzh p.rules[k]).drop (j+1)).any λc=>decide (c.1∈yz8 p)&&(c.2 != ywt p c.1))||(p.rules.drop (k+1)).any (zku p))=true then 2 else 0):=λu=>by
       rw [zwz,zz9,zz9]
       cases w with
       |true=>rw [Ev.yz2 rfl,Bool.true_or];exact l11 true u
       |false=>
        rw [Ev.zz2 rfl,Bool.false_or];by_cases hin:(zzh p.rules[k])[j].1∈yz8 p
        · obtain ⟨i,hi,h1,h2,h3⟩:=yvc hin;rw [hget,Qbt hin,Qbp hin,Bool.true_and,h3,h1];show Ev (λn=>pIf true ((ix p.rules (i:Int)).bind _) _) _;rw [Ev.yz2 rfl,Ev.zz1 (zz6 hi)];exact l11 _ u
        · rw [hget,Qbu hin,Qbo hin,Bool.false_and];show Ev (λn=>pIf false _ _) _;rw [Ev.zz2 rfl];exact l11 false u
      rw [znq,Ev.yz2 (by simpa using hj),Ev.zz1 (zz6 hj'),List.getElem_map,zz9,zz9,<-Qah (h:=hj),List.all_cons,List.any_cons]
      cases u with
      |true=>rw [Ev.yz2 rfl];exact (l10 true).to (by simp)
      |false=>
       rw [Ev.zz2 rfl]
       have e:Option.isSome (z84 m2 (toT (zzh p.rules[k])[j]).name)=decide ((zzh p.rules[k])[j].1∈yz8 p):=by
        show Option.isSome (z84 m2 (zzh p.rules[k])[j].1)=_;rw [hget];by_cases q:(zzh p.rules[k])[j].1∈yz8 p <;> simp [q]
       have:=l10 (!decide ((zzh p.rules[k])[j].1∈yz8 p));have e2:Option.isSome (z84 m2 (zzh p.rules[k])[j].1)=decide ((zzh p.rules[k])[j].1∈yz8 p):=e;rw [e2] at this;rw [Bool.false_or,e];exact this.to (by rw [Bool.not_and,Bool.or_assoc w])
    have:=loop 0 (Qbr _) w u;rw [List.drop_zero] at this;exact this
   have l7:∀d,MK d ([[115,120],[115,121],[115,122]]++kzf p)->Ev (λn=>z25 n 0 p.rules[k].params w (mks m) (mvs m) p.rules (p.rules.length:Int) (k:Int) u (p.rules[k].params.length:Int) p (mks m2) (mvs m2) p.rules[k] (mks d) (mvs d)) (if ((u || !kR p p.rules[k]) || !(p.rules.drop (k+1)).all (kR p))=true then 6 else if ((w||zku p p.rules[k])||(p.rules.drop (k+1)).any (zku p))=true then 2 else 0):=λd hd=>by
    have loop:∀j,j<=p.rules[k].params.length->∀d,MK d (([[115,120],[115,121],[115,122]]++kzf p)++p.rules[k].params.take j)->Ev (λn=>z25 n (j:Int) p.rules[k].params w (mks m) (mvs m) p.rules (p.rules.length:Int) (k:Int) u (p.rules[k].params.length:Int) p (mks m2) (mvs m2) p.rules[k] (mks d) (mvs d)) (if ((u || !kR p p.rules[k]) || !(p.rules.drop (k+1)).all (kR p))=true then 6 else if ((w||zku p p.rules[k])||(p.rules.drop (k+1)).any (zku p))=true then 2 else 0) :=
     down (λd hd=>by
      rw [List.take_length] at hd;rw [zow,Ev.zz2 (by simp),zz9,zz9,zz9]
      cases u with
      |true=>rw [Ev.yz2 rfl];have:=l9 true;simpa using this
      |false=>
       rw [Ev.zz2 rfl,Ev.kz0 (yoy (by omega)),Ev.kz0 (y8s (K:=scope p p.rules[k]) hd (λe he=>(ybf he).2 hwr) (λe he=>by have:=(ybf he).1;omega) (by omega))];have:=l9 (!(zu8 p.rules[k]).all (within (scope p p.rules[k])));rw [<-Bool.not_and] at this;rw [Bool.false_or,kR]
       exact this) λj hj ihj d hd=>by
      rw [zow,Ev.yz2 (by simpa using hj),Ev.zz1 (zz6 hj),wrk (by omega),zz9,zz9,zz9];refine ihj _ ((hd.put p.rules[k].params[j]).ext λs => ?_);rw [Qaz,yzi hj]
    exact loop 0 (Qbr _) d (by simpa using hd)
   have l6:∀len,∀es:List (List UInt8×Bool),es.length=len->∀d D,MK d D->(∀s,(s∈D∨s∈mks es)↔s∈[[115,120],[115,121],[115,122]]++kzf p)->Ev (λn=>z4n n w (mks m) (mvs m) p.rules (p.rules.length:Int) (k:Int) u (mks es) (mvs es) p (mks m2) (mvs m2) p.rules[k] (mks d) (mvs d)) (if ((u || !kR p p.rules[k]) || !(p.rules.drop (k+1)).all (kR p))=true then 6 else if ((w||zku p p.rules[k])||(p.rules.drop (k+1)).any (zku p))=true then 2 else 0):=λlen=>by
    induction len with
    |zero=>
     intro es he d D hd hD;have he:=List.length_eq_zero_iff.1 he;subst he;rw [zom];refine Ev.pick (λ_ => ?_) λi hi=>by cases hi
     rw [zz9,zz9,zz9]
     exact l7 d (hd.ext λs=>by rw [<-hD s];simp [mks])
    |succ len ihl=>
     intro es he d D hd hD;rw [zom,zz9,zz9,zz9,zz9];refine Ev.pick (λh=>by rw [h] at he;cases he) λi hi => ?_
     refine ihl (es.eraseIdx i) (by rw [List.length_eraseIdx_of_lt hi];omega) _ _ (hd.put es[i].1) λs => ?_
     rw [<-hD s,Qbb,Qbc];rw [yve hi s,or_assoc]
   rw [zob,Ev.yz2 (by simpa using hk),Ev.zz1 (zz6 hk),zz9,zz9,<-Qah (h:=hk),List.all_cons,List.any_cons,Bool.not_and,<-Bool.or_assoc,<-Bool.or_assoc];refine l6 m.length m rfl _ [[115,120],[115,121],[115,122]] ?_ λs => ?_
   ·have h0:MK [] []:=λk=>by simp [z84]
    exact ((h0.put _).put _).put _
   ·rw [hm.keys,Qbb]
 have:=main 0 (Qbr _) false u;rw [List.drop_zero,Bool.false_or] at this;exact this
theorem y3b {p:zz0} (hw:p.wf) (hs:p.sz<=4000000):Ev (λn=>z7e n p) (zjl p):=by
 have:=@zl5 p;have:=@zhq p;have hal:(kzf p).length=p.attrs.length:=by simp [kzf]
 have hrl:(yz8 p).length=p.rules.length:=by simp [yz8]
 have l2:∀(m:List (List UInt8×Bool)) (u:Bool),TM m (kzf p)->(kzf p).Nodup->∀k,k<=p.rules.length->∀m2,RM m2 ((yz8 p).take k)->((yz8 p).take k).Nodup->Ev (λn=>z52 n (k:Int) p.rules u (p.rules.length:Int) (mks m) (mvs m) (mks m2) (mvs m2) p) (if (dup (yz8 p)||(p.rules.drop k).any (yxx p))=true then 14 else if (u || !p.rules.all (kR p))=true then 6 else if y6t p=true then 2 else 0):=λm u hm hn=>
  down (λm2 hm2 hn2=>by
   rw [<-hrl,List.take_length] at hm2 hn2;rw [zoi,Ev.zz2 (by simp),zz9,zz9,List.drop_length,z045.2 hn2]
   exact yth hw hs hm hm2 u) λk hk ih m2 hm2 hn2=>by
   have hmem:=Qad hk;have:=zl6 hmem;have:=@zsq p.rules[k];have hget:=hm2 p.rules[k].name;rw [zoi,Ev.yz2 (by simpa using hk),Ev.zz1 (zz6 hk),zz9,zz9];by_cases hin:p.rules[k].name∈(yz8 p).take k
   ·rw [hget,Qbt hin,Ev.yz2 (by rfl),Ev.yz0]
    have:dup (yz8 p)=true:=by
     rw [yop];intro hd;have h:=y99 (k:=k+1) hd;rw [zt6 hk,List.nodup_append] at h;exact h.2.2 _ hin _ (Qbc.2 rfl) rfl
    rw [this];rfl
   ·rw [hget,Qbu hin,Ev.zz2 (by rfl)];have hlen:((yz8 p).take k).length=k:=by rw [Qay];omega
    have hput:=hm2.put hin;rw [hlen,<-zt6 hk] at hput
    have hnn:((yz8 p).take (k+1)).Nodup:=by
     rw [zt6 hk,List.nodup_append];exact ⟨hn2,by simp,λa ha b hb e=>hin (by rw [<-Qbc.1 hb,<-e];exact ha)⟩
    have hv:=ih _ hput hnn
    have l3:=z00p (L:=λn j=>z48 n j p.rules[k].params p.rules u (p.rules.length:Int) (k:Int) (p.rules[k].params.length:Int) p.rules[k] (mks m) (mvs m) (mks (zd5 m2 p.rules[k].name (k:Int))) (mvs (zd5 m2 p.rules[k].name (k:Int))) p) (len:=p.rules[k].params.length) (p:=yy0 p p.rules[k]) (got:=14) (z01g (r:=p.rules[k]) hn) (by
     rw [zop,Ev.zz2 (by simp),wrk (by omega),zz9,zz9];exact hv) λj hj w hw'=>by
     have l4:∀b:Bool,Ev (λn=>z4e n p.rules[k].params p.rules u (p.rules.length:Int) (k:Int) (p.rules[k].params.length:Int) (j:Int) b p.rules[k] (mks m) (mvs m) (mks (zd5 m2 p.rules[k].name (k:Int))) (mvs (zd5 m2 p.rules[k].name (k:Int))) p) (if b=true then 14 else w):=λb=>by
      cases b
      ·rw [znx,Ev.zz2 (by rfl),wrk (by omega),zz9,zz9];exact hw'
      ·rw [znx,Ev.yz2 (by rfl),Ev.yz0];rfl
     rw [zop,Ev.yz2 (by simpa using hj),Ev.zz1 (zz6 hj),zz9,zz9,hm.mk,yy0,dif_pos hj];by_cases h:p.rules[k].params[j]∈kzf p
     ·rw [Qbp h,Ev.yz2 rfl];exact l4 true
     ·rw [Qbo h,Ev.zz2 rfl,Ev.kz0 (yxv (by omega))];exact l4 _
    refine l3.to ?_;rw [<-Qah (h:=hk),List.any_cons];cases yxx p p.rules[k] <;> cases dup (yz8 p) <;> rfl
 have l0:∀k,k<=p.attrs.length->∀(u:Bool) (m:List (List UInt8×Bool)),TM m ((kzf p).take k)->((kzf p).take k).Nodup->Ev (λn=>z4v n (k:Int) u p.attrs (p.attrs.length:Int) (mks m) (mvs m) (mks ([]:List (List UInt8×Int))) (mvs ([]:List (List UInt8×Int))) p) (if dup (kzf p)=true then 14 else if (dup (yz8 p)||p.rules.any (yxx p))=true then 14 else if ((u || !kA ((kzf p).take k) (p.attrs.drop k)) || !p.rules.all (kR p))=true then 6 else if y6t p=true then 2 else 0) :=
  down (λu m hm hn=>by
   rw [<-hal,List.take_length] at hm hn;rw [zo9,Ev.zz2 (by simp),zz9,zz9,List.drop_length,z045.2 hn,kA,Qbu (by simp)];have:=l2 m u hm hn 0 (Qbr _) [] (by rw [List.take_zero];exact RM.nil) (by rw [List.take_zero];exact List.nodup_nil);rw [List.drop_zero] at this
   simpa using this) λk hk ih u m hm hn=>by
   have hmem:=Qad hk;have:=zye hmem;have:=@zxv p.attrs[k]
   have l1:∀u:Bool,Ev (λn=>z3r n u p.attrs (p.attrs.length:Int) (k:Int) (mks m) (mvs m) (mks ([]:List (List UInt8×Int))) (mvs ([]:List (List UInt8×Int))) p p.attrs[k]) (if dup (kzf p)=true then 14 else if (dup (yz8 p)||p.rules.any (yxx p))=true then 14 else if ((u || !kA ((kzf p).take (k+1)) (p.attrs.drop (k+1))) || !p.rules.all (kR p))=true then 6 else if y6t p=true then 2 else 0):=λu=>by
    rw [zy4,zz9,zz9,hm p.attrs[k].name];by_cases hin:p.attrs[k].name∈(kzf p).take k
    ·rw [Qbt hin];show Ev (λn=>pIf true _ _) _;rw [Ev.yz2 rfl,Ev.yz0]
     have:dup (kzf p)=true:=by
      rw [yop];intro hd;have h:=y99 (k:=k+1) hd;rw [zke hk,List.nodup_append] at h;exact h.2.2 _ hin _ (Qbc.2 rfl) rfl
     rw [this];rfl
    ·rw [Qbu hin];show Ev (λn=>pIf false _ _) _;rw [Ev.zz2 rfl,wrk (by omega)];refine ih u _ ?_ ?_
     ·rw [zke hk];exact hm.put _
     ·rw [zke hk,List.nodup_append];exact ⟨hn,by simp,λa ha b hb e=>hin (by rw [<-Qbc.1 hb,<-e];exact ha)⟩
   rw [zo9,Ev.yz2 (by simpa using hk),Ev.zz1 (zz6 hk),zz9,zz9,yz5.zz4,yz1.zz4,<-Qah (h:=hk),kA,<-zke hk]
   cases u with
   |true=>rw [Ev.yz2 rfl];exact (l1 true).to (by simp)
   |false=>
    rw [Ev.zz2 rfl,Ev.kz0 (ya7 hm.mk (z040 hw hmem) (by omega)),zz9];exact (l1 _).to (by rw [Bool.false_or,Bool.not_and])
 have h0:=l0 0 (Qbr _) false [] (by rw [List.take_zero];exact TM.nil) (by rw [List.take_zero];exact List.nodup_nil);rw [y94,Ev.kz0 (yuu (by omega)),zjl];cases y6s p
 case true=>rw [Ev.yz2 (by rfl),Ev.yz0];rfl
 rw [Ev.zz2 (by rfl),Ev.kz0 (ykq hw (by omega)),Qbu (by simp)];cases zjq p
 case false=>rw [Ev.yz2 (by rfl),Ev.yz0];rfl
 rw [Ev.zz2 (by rfl),Qbt rfl];refine Ev.to h0 ?_;rw [List.take_zero,List.drop_zero,rdbl,y78];show (if dup (kzf p)=true then _ else if (dup (yz8 p)||p.rules.any λr=>dup (r.params++kzf p))=true then _ else _)=_;cases dup (kzf p) <;> cases (dup (yz8 p)||p.rules.any λr=>dup (r.params++kzf p)) <;> cases kA [] p.attrs <;> cases p.rules.all (kR p) <;> rfl
theorem zyo (e:yz1):yz1.mk e.op (kz1.mk e.value.kind (kz6.mk e.value.num.num e.value.num.den) e.value.truth e.value.str e.value.list) e.name e.args=e:=by
 cases e with|mk o v n a=>cases v;rfl
theorem yw0 (e:yz1):yz1.mk e.op e.value e.name e.args=e:=by cases e;rfl
theorem ykc:∀v:kz1,v.size<=1048576->Ev (λn=>z7s n v) v:=y2d λv ih hs=>by
 have hsl:=z8m v;have hlen:=zfu v.list
 have loop:∀k,k<=v.list.length->∀a4 a5 a6 a7 a8 a10,Ev (λn=>z2z n (k:Int) v.list (v.list.length:Int) (v.list.take k) a4 a5 a6 a7 a8 v a10) v :=
  down (λa4 a5 a6 a7 a8 a10=>by
   rw [zmw,Ev.zz2 (by simp),Ev.yz0,List.take_length];exact kz1.zz4 v) λk hk ihk a4 a5 a6 a7 a8 a10=>by
   have hx:=Qad hk;have hsx:=zjs hx;rw [zmw,Ev.yz2 (by simpa using hk),Ev.zz1 (zz6 hk),kz1.zz4,Ev.kz0 (ih _ hx (by omega)),kz1.zz4,Ev.zz1 (zab (by simp;omega)),wrk (by omega),kz1.zz4,yzi hk];exact ihk _ _ _ _ _ _
 rw [y4o,kz1.zz4];exact loop 0 (Qbr _) _ _ _ _ _ _
theorem yto {v:kz1} (hs:v.size<=1048576):Ev (λn=>zcr n v) v:=by
 rw [yg3,kz1.zz4,Ev.kz0 (ykc v hs),Ev.yz0,kz1.zz4]
theorem yt6:∀v:kz1,v.size<=1048576->Ev (λn=>zak n v) v:=y2d λv ih hs=>by
 have hsl:=z8m v;have hlen:=zfu v.list
 have loop:∀k,k<=v.list.length->∀a7 a8 a9 a10 a11 a13,Ev (λn=>z6r n (k:Int) v.kind v.num.num v.num.den v.truth v.str v a7 a8 a9 a10 a11 (v.list.take k) a13) v :=
  down (λa7 a8 a9 a10 a11 a13=>by
   rw [zrk,Ev.zz2 (by simp),Ev.yz0,List.take_length];exact kz1.zz4 v) λk hk ihk a7 a8 a9 a10 a11 a13=>by
   have hx:=Qad hk;have hsx:=zjs hx;rw [zrk,Ev.yz2 (by simpa using hk),Ev.zz1 (zz6 hk),kz1.zz4,Ev.kz0 (ih _ hx (by omega)),kz1.zz4,Ev.zz1 (zab (by simp;omega)),wrk (by omega),kz1.zz4,yzi hk];exact ihk _ _ _ _ _ _
 rw [yfv,kz1.zz4];exact loop 0 (Qbr _) _ _ _ _ _ _
theorem yrc {e:yz1} (hs:e.value.size<=1048576):Ev (λn=>zb2 n e) e:=by
 rw [yb0,kz1.zz4,Ev.kz0 (yto hs),kz1.zz4,Ev.yz0,yw0]
theorem yrk:∀e:yz1,e.size<=1048576->Ev (λn=>z9c n e) e:=zsx λe ih hs=>by
 have hsl:=z5u e;have hlen:=z8l e.args
 have loop:∀k,k<=e.args.length->∀b1 b2 b3 b4 b5 b6 b7 b8 b9,Ev (λn=>z42 n (k:Int) e.args (e.args.length:Int) e.op e.value.kind e.value.num.num e.value.num.den e.value.truth e.value.str e.value.list e.name b1 b2 b3 b4 b5 b6 b7 b8 (e.args.take k) b9) e :=
  down (λb1 b2 b3 b4 b5 b6 b7 b8 b9=>by
   rw [zoo,Ev.zz2 (by simp),List.take_length]
   rw [zyo,Ev.kz0 (yrc (by omega)),yz1.zz4,Ev.yz0]) λk hk ihk b1 b2 b3 b4 b5 b6 b7 b8 b9=>by
   have hx:=Qad hk;have hsx:=zgo hx;rw [zoo,Ev.yz2 (by simpa using hk),Ev.zz1 (zz6 hk),yz1.zz4,Ev.kz0 (ih _ hx (by omega)),yz1.zz4,Ev.zz1 (zab (by simp;omega)),wrk (by omega),yzi hk];exact ihk _ _ _ _ _ _ _ _ _
 rw [y79];exact loop 0 (Qbr _) _ _ _ _ _ _ _ _ _
theorem zuj {e:yz1} (hs:e.size<=1048576):Ev (λn=>z89 n e) e:=by
 rw [ymd,yz1.zz4,Ev.kz0 (yrk e hs),yz1.zz4,Ev.yz0]
theorem zly:∀e:yz1,e.size<=1048576->Ev (λn=>z2m n e) e:=zsx λe ih hs=>by
 have hsl:=z5u e;have hlen:=z8l e.args
 have loop:∀k,k<=e.args.length->∀b1 b2 b3 b4 b5 b6 b7 b8 b9,Ev (λn=>z5x n (k:Int) e.op e.value.kind e.value.num.num e.value.num.den e.value.truth e.value.str e.value.list e.name e b1 b2 b3 b4 b5 b6 b7 b8 (e.args.take k) b9) e :=
  down (λb1 b2 b3 b4 b5 b6 b7 b8 b9=>by
   rw [zrb,Ev.zz2 (by simp),List.take_length,zyo,Ev.yz0]) λk hk ihk b1 b2 b3 b4 b5 b6 b7 b8 b9=>by
   have hx:=Qad hk;have hsx:=zgo hx;rw [zrb,Ev.yz2 (by simpa using hk),Ev.zz1 (zz6 hk),yz1.zz4,Ev.kz0 (ih _ hx (by omega)),yz1.zz4,Ev.zz1 (zab (by simp;omega)),wrk (by omega),yz1.zz4,yzi hk];exact ihk _ _ _ _ _ _ _ _ _
 rw [ygk,kz1.zz4,Ev.kz0 (yt6 e.value (by omega)),yz1.zz4];exact loop 0 (Qbr _) _ _ _ _ _ _ _ _ _
theorem zsu {l:List yz1} (hs:(l.map yz1.size).sum<=1048564):Ev (λn=>z36 n l) l:=by
 have e1:Ev (λn=>zzs n l) (z9z l):=by rw [zg3,Ev.yz0];rfl
 rw [zx1,Ev.kz0 e1,yz1.zz4,Ev.kz0 (zly _ (by rw [zdq];omega)),Ev.yz0];rfl
theorem ztd {l:List yz1} (hs:(l.map yz1.size).sum<=1048564):Ev (λn=>z4w n l) l:=by
 have e1:Ev (λn=>z77 n l) (z9z l):=by rw [zvk,Ev.yz0];rfl
 rw [y08,Ev.kz0 e1,yz1.zz4,Ev.kz0 (zuj (by rw [zdq];omega)),Ev.yz0];rfl
theorem zll {α:Type} (l:List α) (x:α):ix (l++[x]) (l.length:Int)=some x:=by rw [yad];simp
theorem zhw {α:Type} (l:List α) (x y:α):(l++[x]).set (Int.toNat (l.length:Int)) y=l++[y]:=by simp
theorem zhu {r:yz3} (hs:r.sz<=1048573):Ev (λn=>z0y n r) (r.name,r.params,r.cases):=by
 have hlp:=@zsq r;have hlc:=@zni r
 have l0:∀i,i<=r.cases.length->∀z1 z2 z3,Ev (λn=>z1i n (i:Int) r r.name r.params z1 (r.cases.take i) z2 z3) (r.name,r.params,r.cases) :=
  down (λz1 z2 z3=>by rw [zk8,Ev.zz2 (by simp),Ev.yz0,List.take_length]) λi hi ih z1 z2 z3=>by
   have hc:=Qad hi;have:=zlx hc;have hcw:=@y8l r.cases[i];have hca:=@zo4 r.cases[i]
   have l1:∀k,k<=r.cases[i].do_.length->Ev (λn=>z1l n (k:Int) (i:Int) r.cases[i].weight r.cases[i].when_.op r.cases[i].when_.value.kind r.cases[i].when_.value.num.num r.cases[i].when_.value.num.den r.cases[i].when_.value.truth r.cases[i].when_.value.str r.cases[i].when_.value.list r.cases[i].when_.name r.cases[i].when_.args r r.name r.params z1 (r.cases[i].do_.take k) (r.cases.take i) z2 z3) (r.name,r.params,r.cases) :=
    down (by
     rw [zka,Ev.zz1 (zz6 hi),Ev.zz2 (by simp),zyo,Ev.zz1 (zab (by simp;omega)),Ev.zz1 (zll _ _)];dsimp only;rw [yz1.zz4,zhw,List.take_length,wrk (by omega)];have e:r.cases.take i++[yz4.mk r.cases[i].weight r.cases[i].when_ r.cases[i].do_]=r.cases.take (i+1):=yzi hi;rw [e]
     exact ih _ _ _) λk hk ihk=>by
     have ha:=Qad hk;have:=zr3 ha;have haa:=@y3a r.cases[i].do_[k];have hal:=@zsp r.cases[i].do_[k]
     have l2:∀j,j<=r.cases[i].do_[k].items.length->Ev (λn=>z13 n (j:Int) (i:Int) (k:Int) r.cases[i].do_[k].kind r.cases[i].do_[k].axis r.cases[i].do_[k].name r.cases[i].do_[k].args r.cases[i].do_[k] r.cases[i].weight r.cases[i].when_.op r.cases[i].when_.value.kind r.cases[i].when_.value.num.num r.cases[i].when_.value.num.den r.cases[i].when_.value.truth r.cases[i].when_.value.str r.cases[i].when_.value.list r.cases[i].when_.name r.cases[i].when_.args r r.name r.params z1 (r.cases[i].do_[k].items.take j) (r.cases[i].do_.take k) (r.cases.take i) z2 z3) (r.name,r.params,r.cases) :=
      down (by
       rw [zjx,Ev.zz2 (by simp),Ev.zz1 (zab (by simp;omega)),Ev.zz1 (zll _ _)];dsimp only;rw [zhw,List.take_length,wrk (by omega)];have e:r.cases[i].do_.take k++[zz3.mk r.cases[i].do_[k].kind r.cases[i].do_[k].axis r.cases[i].do_[k].name r.cases[i].do_[k].args r.cases[i].do_[k].items]=r.cases[i].do_.take (k+1):=yzi hk;rw [e]
       exact ihk) λj hj ihj=>by
       have hx:=Qad hj;have:=y0i hx;have hxa:=@y3l r.cases[i].do_[k].items[j];rw [zjx,Ev.yz2 (by simpa using hj),Ev.zz1 (zz6 hj),Ev.zz1 (zz6 hj),Ev.zz1 (zz6 hj),Ev.kz0 (zsu (by omega)),Ev.zz1 (zab (by simp;omega)),wrk (by omega)]
       have e:r.cases[i].do_[k].items.take j++[yz7.mk r.cases[i].do_[k].items[j].kind r.cases[i].do_[k].items[j].name r.cases[i].do_[k].items[j].args]=r.cases[i].do_[k].items.take (j+1):=yzi hj;rw [e];exact ihj
     rw [zka,Ev.zz1 (zz6 hi),Ev.yz2 (by simpa using hk),Ev.zz1 (zz6 hi),Ev.zz1 (zz6 hk),Ev.kz0 (zsu (by omega))];exact l2 0 (Qbr _)
   rw [zk8,Ev.yz2 (by simpa using hi),Ev.zz1 (zz6 hi),Ev.zz1 (zz6 hi),yz1.zz4,Ev.kz0 (zly _ (by omega))];exact l1 0 (Qbr _)
 rw [zxo,Ev.zz1 (zab (by simp;omega))];exact l0 0 (Qbr _) _ _ _
theorem zvv {p:zz0} (hs:p.sz<=1048575):Ev (λn=>z6p n p) (p.attrs,p.rules):=by
 have h1:=@zl5 p;have h2:=@zhq p
 have l1:∀i,i<=p.rules.length->∀z1 z2,Ev (λn=>z1u n (i:Int) p p.attrs (p.rules.take i) z1 z2) (p.attrs,p.rules) :=
  down (λz1 z2=>by rw [zkw,Ev.zz2 (by simp),Ev.yz0,List.take_length]) λi hi ih z1 z2=>by
   have hr:=Qad hi;have:=zl6 hr;rw [zkw,Ev.yz2 (by simpa using hi),Ev.zz1 (zz6 hi),Ev.kz0 (zhu (by omega)),Ev.zz1 (zab (by simp;omega)),Ev.zz1 (zll _ _)];dsimp only;rw [zhw,wrk (by omega)];have e:p.rules.take i++[yz3.mk p.rules[i].name p.rules[i].params p.rules[i].cases]=p.rules.take (i+1):=yzi hi;rw [e];exact ih _ _
 have l0:∀i,i<=p.attrs.length->∀z0 z1 z2,z0=[]->Ev (λn=>z1y n (i:Int) p (p.attrs.take i) z0 z1 z2) (p.attrs,p.rules) :=
  down (λz0 z1 z2 hz=>by rw [zl3,Ev.zz2 (by simp),List.take_length,hz];exact l1 0 (Qbr _) _ _) λi hi ih z0 z1 z2 hz=>by
   have ht:=Qad hi;have:=zye ht;have:=@zxv p.attrs[i];rw [zl3,Ev.yz2 (by simpa using hi),Ev.zz1 (zz6 hi),Ev.zz1 (zz6 hi),yz1.zz4,Ev.kz0 (zly _ (by omega)),Ev.zz1 (zab (by simp;omega)),yz1.zz4,wrk (by omega)];have e:p.attrs.take i++[yz5.mk p.attrs[i].name p.attrs[i].value]=p.attrs.take (i+1):=yzi hi;rw [e];exact ih _ _ _ hz
 rw [y22];exact l0 0 (Qbr _) _ _ _ rfl
theorem yas {p:zz0} (hs:p.sz<=1048575):Ev (λn=>zah n p) p:=by
 have h1:=@zl5 p;have h2:=@zhq p
 have l1:∀i,i<=p.rules.length->∀z1 z2,Ev (λn=>z5p n (i:Int) p p.attrs (p.rules.take i) z1 z2) p :=
  down (λz1 z2=>by rw [zqx,Ev.zz2 (by simp),Ev.yz0,List.take_length]) λi hi ih z1 z2=>by
   have hr:=Qad hi;have:=zl6 hr;rw [zqx,Ev.yz2 (by simpa using hi),Ev.zz1 (zz6 hi),Ev.kz0 (zhu (by omega)),Ev.zz1 (zab (by simp;omega)),Ev.zz1 (zll _ _)];dsimp only;rw [zhw,wrk (by omega)];have e:p.rules.take i++[yz3.mk p.rules[i].name p.rules[i].params p.rules[i].cases]=p.rules.take (i+1):=yzi hi;rw [e];exact ih _ _
 have l0:∀i,i<=p.attrs.length->∀z0 z1 z2,z0=[]->Ev (λn=>z69 n (i:Int) p (p.attrs.take i) z0 z1 z2) p :=
  down (λz0 z1 z2 hz=>by rw [zqz,Ev.zz2 (by simp),List.take_length,hz];exact l1 0 (Qbr _) _ _) λi hi ih z0 z1 z2 hz=>by
   have ht:=Qad hi;have:=zye ht;have:=@zxv p.attrs[i];rw [zqz,Ev.yz2 (by simpa using hi),Ev.zz1 (zz6 hi),Ev.zz1 (zz6 hi),yz1.zz4,Ev.kz0 (zly _ (by omega)),Ev.zz1 (zab (by simp;omega)),yz1.zz4,wrk (by omega)];have e:p.attrs.take i++[yz5.mk p.attrs[i].name p.attrs[i].value]=p.attrs.take (i+1):=yzi hi;rw [e];exact ih _ _ _ hz
 rw [yhd];exact l0 0 (Qbr _) _ _ _ rfl
theorem yuf {l:List (List UInt8)} (h:l.length<=8388608):Ev (λn=>z7a n l) l:=⟨0,λ_ _=>Qbt h⟩
theorem y6r {p:zz0} (hs:p.sz<=1048575):Ev (λn=>z8e n p) (p.attrs,p.rules):=by
 have h1:=@zl5 p;have h2:=@zhq p
 have l1:∀m,m<=p.rules.length->∀z2 z3,Ev (λn=>z6q n (m:Int) p.rules (p.rules.length:Int) p.attrs (p.rules.take m) z2 z3) (p.attrs,p.rules) :=
  down (λz2 z3=>by rw [zpr,Ev.zz2 (by simp),Ev.yz0,List.take_length]) λm hm ihm z2 z3=>by
  have hr:=Qad hm;have:=zl6 hr;have hlp:=@zsq p.rules[m];have hlc:=@zni p.rules[m]
  have l2:∀i,i<=p.rules[m].cases.length->∀z1,Ev (λn=>z6i n (i:Int) p.rules[m].cases p.rules (p.rules.length:Int) (m:Int) (p.rules[m].cases.length:Int) p.rules[m].name p.rules[m].params (p.rules[m].cases.take i) p.attrs (p.rules.take m) z1 z3) (p.attrs,p.rules):=by
   refine down (λz1 => ?_) λi hi ih z1 => ?_
   ·rw [zpn,Ev.zz2 (by simp),Ev.zz1 (zab (by simp;omega)),Ev.zz1 (zll _ _)];dsimp only;rw [zhw,List.take_length,wrk (by omega)];have e:p.rules.take m++[yz3.mk p.rules[m].name p.rules[m].params p.rules[m].cases]=p.rules.take (m+1):=yzi hm;rw [e];exact ihm _ _
   ·have hc:=Qad hi;have:=zlx hc;have hcw:=@y8l p.rules[m].cases[i];have hca:=@zo4 p.rules[m].cases[i];generalize hC:p.rules[m].cases[i]=C at *
    have l3:∀k,k<=C.do_.length->Ev (λn=>z5n n (k:Int) C.do_ p.rules[m].cases p.rules (p.rules.length:Int) (m:Int) (p.rules[m].cases.length:Int) (i:Int) (C.do_.length:Int) C.weight C.when_.op C.when_.value.kind C.when_.value.num.num C.when_.value.num.den C.when_.value.truth C.when_.value.str C.when_.value.list C.when_.name C.when_.args p.rules[m].name p.rules[m].params (C.do_.take k) (p.rules[m].cases.take i) p.attrs (p.rules.take m) z1 z3) (p.attrs,p.rules):=by
     refine down ?_ λk hk ihk => ?_
     ·rw [zqy,Ev.zz2 (by simp),zyo,Ev.zz1 (zab (by simp;omega)),Ev.zz1 (zll _ _)];dsimp only;rw [yz1.zz4,zhw,List.take_length,wrk (by omega)];have e:p.rules[m].cases.take i++[yz4.mk C.weight C.when_ C.do_]=p.rules[m].cases.take (i+1):=by rw [<-yzi hi,hC]
      rw [e];exact ih _
     ·have ha:=Qad hk;have:=zr3 ha;have haa:=@y3a C.do_[k];have hal:=@zsp C.do_[k];generalize hA:C.do_[k]=A at *
      have l4:∀j,j<=A.items.length->Ev (λn=>z6f n (j:Int) A.items C.do_ p.rules[m].cases p.rules (p.rules.length:Int) (m:Int) (p.rules[m].cases.length:Int) (i:Int) (C.do_.length:Int) (k:Int) (A.items.length:Int) A.kind A.axis A.name A.args C.weight C.when_.op C.when_.value.kind C.when_.value.num.num C.when_.value.num.den C.when_.value.truth C.when_.value.str C.when_.value.list C.when_.name C.when_.args p.rules[m].name p.rules[m].params (A.items.take j) (C.do_.take k) (p.rules[m].cases.take i) p.attrs (p.rules.take m) z1 z3) (p.attrs,p.rules):=by
       refine down ?_ λj hj ihj => ?_
       ·rw [zqq,Ev.zz2 (by simp),Ev.zz1 (zab (by simp;omega)),Ev.zz1 (zll _ _)];dsimp only;rw [zhw,List.take_length,wrk (by omega)];have e:C.do_.take k++[zz3.mk A.kind A.axis A.name A.args A.items]=C.do_.take (k+1):=by rw [<-yzi hk,hA]
        rw [e];exact ihk
       ·have hx:=Qad hj;have:=y0i hx;have hxa:=@y3l A.items[j];rw [zqq,Ev.yz2 (by simpa using hj),Ev.zz1 (zz6 hj),Ev.kz0 (ztd (by omega)),Ev.zz1 (zab (by simp;omega)),wrk (by omega)];have e:A.items.take j++[yz7.mk A.items[j].kind A.items[j].name A.items[j].args]=A.items.take (j+1):=yzi hj;rw [e];exact ihj
      rw [zqy,Ev.yz2 (by simpa using hk),Ev.zz1 (zz6 hk),hA,Ev.kz0 (ztd (by omega))];exact l4 0 (Qbr _)
    rw [zpn,Ev.yz2 (by simpa using hi),Ev.zz1 (zz6 hi),hC,yz1.zz4,Ev.kz0 (zuj (by omega))];exact l3 0 (Qbr _)
  rw [zpr,Ev.yz2 (by simpa using hm),Ev.zz1 (zz6 hm),Ev.kz0 (yuf (by omega))];exact l2 0 (Qbr _) _
 have l0:∀i,i<=p.attrs.length->∀z0 z1 z2,z0=[]->Ev (λn=>z67 n (i:Int) p.attrs (p.attrs.length:Int) p (p.attrs.take i) z0 z1 z2) (p.attrs,p.rules) :=
  down (λz0 z1 z2 hz=>by rw [zqb,Ev.zz2 (by simp),List.take_length,hz];exact l1 0 (Qbr _) _ _) λi hi ih z0 z1 z2 hz=>by
   have ht:=Qad hi;have:=zye ht;have:=@zxv p.attrs[i];rw [zqb,Ev.yz2 (by simpa using hi),Ev.zz1 (zz6 hi),yz1.zz4,Ev.kz0 (zuj (by omega)),Ev.zz1 (zab (by simp;omega)),yz1.zz4,wrk (by omega)];have e:p.attrs.take i++[yz5.mk p.attrs[i].name p.attrs[i].value]=p.attrs.take (i+1):=yzi hi;rw [e];exact ih _ _ _ hz
 rw [ydt];exact l0 0 (Qbr _) _ _ _ rfl
theorem yiw {r:yz3} (hs:r.sz<=1048572):Ev (λn=>zc2 n r) (r.name,r.params,r.cases):=by
 have h:Ev (λn=>z8e n ⟨[],[r]⟩) ([],[r]):=y6r (p:=⟨[],[r]⟩) (by rw [zz0.zzr];simp;omega);have e:ix (([]:List yz5),[r]).2 0=some r:=rfl;rw [ynk,Ev.kz0 h,Ev.zz1 e,Ev.zz1 e,Ev.zz1 e,Ev.yz0]
section
variable {α : Type} {g : α → α} {l : List α} {k : Nat}
def upto (g:α->α) (l:List α) (k:Nat):List α:=(l.take k).map g++l.drop k
theorem zdr (h:k<=l.length):(upto g l k).length=l.length:=by simp [upto];omega
theorem zhe:upto g l 0=l:=by simp [upto]
theorem zkd:upto g l l.length=l.map g:=by simp [upto]
theorem yry (h:k<l.length):(upto g l k)[k]? = some l[k]:=by
 unfold upto;rw [Qav (by simp;omega)];simp [Nat.min_eq_left (Nat.le_of_lt h)]
theorem ypl (h:k<l.length) (x:α):(upto g l k).set k x=(l.take k).map g++x::l.drop (k+1):=by
 unfold upto;rw [List.set_append_right _ _ (by simp;omega)];simp only [List.length_map,Qay,Nat.min_eq_left (Nat.le_of_lt h),Nat.sub_self];rw [<-Qah (h:=h)];rfl
theorem zkb (h:k<l.length):(upto g l k).set k (g l[k])=upto g l (k+1):=by
 rw [ypl h,upto,<-yzi h,List.map_append,Qaz];rfl
theorem ywy (h:k<l.length):(upto g l k).set k l[k]=upto g l k:=by
 rw [ypl h,Qah (h:=h)];rfl
theorem znu (h:k<l.length):ix (upto g l k) (k:Int)=some l[k]:=by rw [yad,yry h]
theorem kzs (h:k<l.length) (x:α):ix (l.set k x) (k:Int)=some x:=by rw [yad,Qaq h]
theorem z3n (x:α):l.set (Int.toNat (k:Int)) x=l.set k x:=by rw [Qbm]
theorem zuh (i:Int):zsn i i=some ():=by simp [zsn]
end
theorem ztj {s f t:List UInt8}:Ev (λn=>z7c n s f t) (rn f t s):=by
 rw [y6v];unfold rn;by_cases h:s=f
 ·rw [Ev.yz2 (by simpa using h),Qbt h,Ev.yz0]
 ·rw [Ev.zz2 (by simpa using h),Qbu h,Ev.yz0]
theorem ybz {p:zz0} {f t:List UInt8} (hs:p.sz<=1048575):Ev (λn=>z6t n p f t) (y5g f t p):=by
 have h2:=@zhq p;obtain ⟨ats,rs⟩:=p;replace h2:rs.length<=(zz0.mk ats rs).sz:=h2
 have l0:∀i,i<=rs.length->∀z,Ev (λn=>z1t n t f (i:Int) z ats (upto (zla f t) rs i)) (y5g f t ⟨ats,rs⟩):=by
  refine down (λz => ?_) λi hi ih z => ?_
  ·rw [zl2,Ev.zz2 (by rw [zdr (Qbs _)];simp),Ev.yz0,zkd];rfl
  ·have hr:=Qad hi;have:=zl6 (p:=⟨ats,rs⟩) hr;have hlc:=@zni rs[i];have hA:i<(upto (zla f t) rs i).length:=by rw [zdr (Nat.le_of_lt hi)];exact hi
   have hn:upto (zla f t) rs (i+1)=(upto (zla f t) rs i).set i (zla f t rs[i]):=(zkb hi).symm;have hx:=znu (g:=zla f t) hi;rw [hn] at ih;generalize upto (zla f t) rs i=A at *;generalize rs[i]=r at *
   have l1:∀k,k<=r.cases.length->Ev (λn=>z1z n t f (k:Int) (i:Int) (i:Int) (A.set i ⟨rn f t r.name,r.params,upto (zp8 f t) r.cases k⟩) z ats) (y5g f t ⟨ats,rs⟩):=by
    refine down ?_ λk hk ihk => ?_
    ·rw [zky,Ev.zz1 (kzs hA _),Ev.zz1 (kzs hA _),Ev.zz2 (by rw [zdr (Qbs _)];simp),Ev.zz1 (kzs hA _)];dsimp only;rw [z3n,List.set_set,zkd,wrk (by omega)];exact ih _
    ·have hc:=Qad hk;have:=zlx hc;have hld:=@zo4 r.cases[k];have hC:k<(upto (zp8 f t) r.cases k).length:=by rw [zdr (Nat.le_of_lt hk)];exact hk
     have hn:upto (zp8 f t) r.cases (k+1)=(upto (zp8 f t) r.cases k).set k (zp8 f t r.cases[k]):=(zkb hk).symm;have hx:=znu (g:=zp8 f t) hk;have hw:=ywy (g:=zp8 f t) hk;have hlen:=zdr (g:=zp8 f t) (Nat.le_of_lt hk);rw [hn] at ihk;generalize upto (zp8 f t) r.cases k=C at *;generalize r.cases[k]=c at *
     have l2:∀m,m<=c.do_.length->Ev (λn=>z1s n t f (m:Int) (k:Int) (i:Int) (i:Int) (A.set i ⟨rn f t r.name,r.params,C.set k ⟨c.weight,c.when_,upto (zrp f t) c.do_ m⟩⟩) z ats) (y5g f t ⟨ats,rs⟩):=by
      refine down ?_ λm hm ihm => ?_
      ·rw [zkv,Ev.zz1 (kzs hA _),Ev.zz1 (kzs hA _),Ev.zz1 (kzs hC _),Ev.zz1 (kzs hC _),Ev.zz1 (kzs hC _),Ev.zz2 (by rw [zdr (Qbs _)];simp),Ev.zz1 (kzs hC _),Ev.zz1 (kzs hA _)];dsimp only;rw [z3n,z3n,List.set_set,List.set_set,zkd,yz1.zz4,wrk (by omega)];exact ihk
      ·have ha:=Qad hm;have:=zr3 ha;have hli:=@zsp c.do_[m];have hD:m<(upto (zrp f t) c.do_ m).length:=by rw [zdr (Nat.le_of_lt hm)];exact hm
       have hn:upto (zrp f t) c.do_ (m+1)=(upto (zrp f t) c.do_ m).set m (zrp f t c.do_[m]):=(zkb hm).symm;have hx:=znu (g:=zrp f t) hm;have hlen2:=zdr (g:=zrp f t) (Nat.le_of_lt hm);rw [hn] at ihm;generalize upto (zrp f t) c.do_ m=B at *;generalize c.do_[m]=a at *
       have l3:∀j,j<=a.items.length->Ev (λn=>z1x n (j:Int) t f (m:Int) (k:Int) (i:Int) (i:Int) (m:Int) (B.set m ⟨a.kind,a.axis,rn f t a.name,a.args,upto (zsw f t) a.items j⟩) (A.set i ⟨rn f t r.name,r.params,C.set k ⟨c.weight,c.when_,B⟩⟩) (i:Int) z (C.set k ⟨c.weight,c.when_,B⟩) (k:Int) ats) (y5g f t ⟨ats,rs⟩):=by
        refine down ?_ λj hj ihj => ?_
        ·rw [zl0,Ev.zz1 (kzs hD _),Ev.zz1 (kzs hD _),Ev.zz2 (by rw [zdr (Qbs _)];simp),Ev.zz1 (kzs hD _),Ev.zz1 (kzs hC _),Ev.zz1 (kzs hA _)];dsimp only;rw [z3n,z3n,z3n,List.set_set,List.set_set,List.set_set,zkd,yz1.zz4,wrk (by omega)];exact ihm
        ·have hn:upto (zsw f t) a.items (j+1)=(upto (zsw f t) a.items j).set j (zsw f t a.items[j]):=(zkb hj).symm;have hx:=znu (g:=zsw f t) hj;rw [zl0,Ev.zz1 (kzs hD _),Ev.zz1 (kzs hD _),Ev.yz2 (by rw [zdr (Nat.le_of_lt hj)];simpa using hj),Ev.zz1 (zuh _),Ev.zz1 (kzs hD _),Ev.zz1 (zuh _),Ev.zz1 (kzs hD _)];dsimp only;rw [Ev.zz1 hx,Ev.kz0 ztj,Ev.zz1 hx,Ev.zz1 (kzs hD _)];dsimp only
         rw [z3n,z3n,List.set_set,wrk (by omega)];rw [hn] at ihj;exact ihj
       rw [zkv,Ev.zz1 (kzs hA _),Ev.zz1 (kzs hA _),Ev.zz1 (kzs hC _),Ev.zz1 (kzs hC _),Ev.zz1 (kzs hC _),Ev.yz2 (by rw [hlen2];simpa using hm),Ev.zz1 (zuh _),Ev.zz1 (kzs hA _),Ev.zz1 (kzs hC _),Ev.zz1 (zuh _),Ev.zz1 (kzs hC _)];dsimp only;rw [Ev.zz1 hx,Ev.zz1 hx,Ev.kz0 ztj,Ev.zz1 hx,z3n];have:=l3 0 (Qbr _);rw [zhe] at this;exact this
     rw [zky,Ev.zz1 (kzs hA _),Ev.zz1 (kzs hA _),Ev.yz2 (by rw [hlen];simpa using hk),Ev.zz1 (kzs hA _)];dsimp only;rw [z3n,List.set_set];have:=l2 0 (Qbr _);rw [zhe] at this;rw [<-hw];exact this
   rw [zl2,Ev.yz2 (by simpa using hA),Ev.zz1 hx,Ev.zz1 hx,Ev.kz0 ztj,Ev.zz1 hx,z3n];have:=l1 0 (Qbr _);rw [zhe] at this;exact this
 rw [y0v,Ev.kz0 (zvv hs)];have:=l0 0 (Qbr _) ⟨[],[]⟩;rw [zhe] at this;exact this
section
variable {f t : List UInt8}
theorem z00m {l:List yz3} {i:Nat} (hi:i<l.length) {r:yz3} (hr:l[i]=r):Ev (λn=>z8v n (i:Int) f t l) (f,t,l.set i ⟨rn f t r.name,r.params,r.cases⟩):=by
 rw [y1p,Ev.zz1 (zz6 hi),hr];unfold rn;by_cases h:r.name=f
 ·rw [Ev.yz2 (by simpa using h),Ev.zz1 (zz6 hi),Ev.yz0,z3n,hr,Qbt h]
 ·rw [Ev.zz2 (by simpa using h),Ev.yz0,Qbu h]
  have e:l.set i ⟨r.name,r.params,r.cases⟩=l:=by
   show l.set i r=l;rw [<-hr,List.set_getElem_self]
  rw [e]
theorem yya {l:List zz3} {i:Nat} (hi:i<l.length) {r:zz3} (hr:l[i]=r):Ev (λn=>z58 n (i:Int) f t l) (f,t,l.set i ⟨r.kind,r.axis,rn f t r.name,r.args,r.items⟩):=by
 rw [zuz,Ev.zz1 (zz6 hi),hr];unfold rn;by_cases h:r.name=f
 ·rw [Ev.yz2 (by simpa using h),Ev.zz1 (zz6 hi),Ev.yz0,z3n,hr,Qbt h]
 ·rw [Ev.zz2 (by simpa using h),Ev.yz0,Qbu h]
  have e:l.set i ⟨r.kind,r.axis,r.name,r.args,r.items⟩=l:=by
   show l.set i r=l;rw [<-hr,List.set_getElem_self]
  rw [e]
theorem z01a {l:List yz7} {i:Nat} (hi:i<l.length) {r:yz7} (hr:l[i]=r):Ev (λn=>z5a n (i:Int) r f t l) (f,t,l.set i (zsw f t r)):=by
 rw [zv6];unfold zsw rn;by_cases h:r.name=f
 ·rw [Ev.yz2 (by simpa using h),Ev.yz0,z3n,Qbt h]
 ·rw [Ev.zz2 (by simpa using h),Ev.yz0,Qbu h]
  have e:l.set i ⟨r.kind,r.name,r.args⟩=l:=by
   show l.set i r=l;rw [<-hr,List.set_getElem_self]
  rw [e]
end
theorem y6h {α:Type} {g:α->α} {l:List α} {k:Nat} (h:k<l.length):∃h':k<(upto g l k).length,(upto g l k)[k]=l[k]:=by
 refine ⟨by rw [zdr (Nat.le_of_lt h)];exact h,?_⟩;have:=yry (g:=g) h;exact (Qaa.1 this).2
theorem ypn {p:zz0} {f t:List UInt8} (hs:p.sz<=1048575):Ev (λn=>z97 n f t p.attrs p.rules) ((y5g f t p).attrs,(y5g f t p).rules):=by
 have h2:=@zhq p;obtain ⟨ats,rs⟩:=p;replace h2:rs.length<=(zz0.mk ats rs).sz:=h2;show Ev (λn=>z97 n f t ats rs) (ats,rs.map (zla f t))
 have l0:∀i,i<=rs.length->Ev (λn=>z4x n (i:Int) (rs.length:Int) f t ats (upto (zla f t) rs i)) (ats,rs.map (zla f t)):=by
  refine down ?_ λi hi ih => ?_
  ·rw [zno,Ev.zz2 (by simp),Ev.yz0,zkd]
  ·have hr:=Qad hi;have:=zl6 (p:=⟨ats,rs⟩) hr;have hlc:=@zni rs[i];obtain ⟨hA,hat⟩:=y6h (g:=zla f t) hi;have hn:upto (zla f t) rs (i+1)=(upto (zla f t) rs i).set i (zla f t rs[i]):=(zkb hi).symm;have hx:=znu (g:=zla f t) hi;rw [hn] at ih;generalize upto (zla f t) rs i=A at *;generalize rs[i]=r at *
   have l1:∀k,k<=r.cases.length->Ev (λn=>z4y n (k:Int) (rs.length:Int) (i:Int) (r.cases.length:Int) f t (upto (zp8 f t) r.cases k) ats (A.set i ⟨rn f t r.name,r.params,r.cases⟩) (i:Int)) (ats,rs.map (zla f t)):=by
    refine down ?_ λk hk ihk => ?_
    ·rw [znn,Ev.zz2 (by simp),Ev.zz1 (kzs hA _)];dsimp only;rw [z3n,List.set_set,zkd,wrk (by omega)];exact ih
    ·have hc:=Qad hk;have:=zlx hc;have hld:=@zo4 r.cases[k];obtain ⟨hC,hcat⟩:=y6h (g:=zp8 f t) hk;have hn:upto (zp8 f t) r.cases (k+1)=(upto (zp8 f t) r.cases k).set k (zp8 f t r.cases[k]):=(zkb hk).symm;have hx:=znu (g:=zp8 f t) hk;rw [hn] at ihk;generalize upto (zp8 f t) r.cases k=C at *;generalize r.cases[k]=c at *
     have l2:∀m,m<=c.do_.length->Ev (λn=>z4o n (m:Int) (rs.length:Int) (i:Int) (r.cases.length:Int) (k:Int) (c.do_.length:Int) c.weight c.when_.op c.when_.value.kind c.when_.value.num.num c.when_.value.num.den c.when_.value.truth c.when_.value.str c.when_.value.list c.when_.name c.when_.args f t C (k:Int) ats (A.set i ⟨rn f t r.name,r.params,r.cases⟩) (i:Int) (upto (zrp f t) c.do_ m)) (ats,rs.map (zla f t)):=by
      refine down ?_ λm hm ihm => ?_
      ·rw [zol,Ev.zz2 (by simp),Ev.zz1 hx];rw [z3n,zkd,yz1.zz4,wrk (by omega)];exact ihk
      ·have ha:=Qad hm;have:=zr3 ha;have hli:=@zsp c.do_[m];obtain ⟨hD,hdat⟩:=y6h (g:=zrp f t) hm;have hn:upto (zrp f t) c.do_ (m+1)=(upto (zrp f t) c.do_ m).set m (zrp f t c.do_[m]):=(zkb hm).symm;have hx2:=znu (g:=zrp f t) hm;rw [hn] at ihm;generalize upto (zrp f t) c.do_ m=B at *;generalize c.do_[m]=a at *
       have l3:∀j,j<=a.items.length->Ev (λn=>z3u n (j:Int) (m:Int) (rs.length:Int) (i:Int) (r.cases.length:Int) (k:Int) (c.do_.length:Int) (m:Int) (a.items.length:Int) c.weight c.when_.op c.when_.value.kind c.when_.value.num.num c.when_.value.num.den c.when_.value.truth c.when_.value.str c.when_.value.list c.when_.name c.when_.args f t C (k:Int) ats (A.set i ⟨rn f t r.name,r.params,r.cases⟩) (i:Int) (B.set m ⟨a.kind,a.axis,rn f t a.name,a.args,upto (zsw f t) a.items j⟩)) (ats,rs.map (zla f t)):=by
        refine down ?_ λj hj ihj => ?_
        ·rw [zoq,Ev.zz2 (by simp),zkd,wrk (by omega)];exact ihm
        ·have hn:upto (zsw f t) a.items (j+1)=(upto (zsw f t) a.items j).set j (zsw f t a.items[j]):=(zkb hj).symm;have hx:=znu (g:=zsw f t) hj;obtain ⟨hI,hiat⟩:=y6h (g:=zsw f t) hj;rw [zoq,Ev.yz2 (by simpa using hj),Ev.zz1 (kzs hD _),Ev.zz1 (kzs hD _),Ev.zz1 (kzs hD _)];dsimp only;rw [Ev.zz1 hx,Ev.kz0 (z01a hI hiat),Ev.zz1 (kzs hD _)];dsimp only;rw [z3n,List.set_set,wrk (by omega)];rw [hn] at ihj
         exact ihj
       rw [zol,Ev.yz2 (by simpa using hm),Ev.zz1 hx2,Ev.kz0 (yya hD hdat),Ev.zz1 (kzs hD _),Ev.zz1 (kzs hD _),Ev.zz1 (kzs hD _),Ev.zz1 (kzs hD _)];dsimp only;rw [z3n,List.set_set];have:=l3 0 (Qbr _);rw [zhe] at this;exact this
     rw [znn,Ev.yz2 (by simpa using hk),Ev.zz1 hx,Ev.zz1 hx,Ev.zz1 hx];have:=l2 0 (Qbr _);rw [zhe] at this;exact this
   rw [zno,Ev.yz2 (by simpa using hi),Ev.zz1 hx,Ev.kz0 (z00m hA hat),Ev.zz1 (kzs hA _),Ev.zz1 (kzs hA _),Ev.zz1 (kzs hA _)];have:=l1 0 (Qbr _);rw [zhe] at this;exact this
 rw [y8j];have:=l0 0 (Qbr _);rw [zhe] at this;exact this
def zt2:yz1:=⟨0,⟨0,⟨0,0⟩,false,[],[]⟩,[],[]⟩
def zso (r:yz3):Bool:=r.name==[]&&((r.params.length:Int)==0&&(r.cases.length:Int)==0)
noncomputable def yb6 (e:yz6):Bool :=
 if e.kind==1||e.kind==3 then e.name==[]&&(e.to_==[]&&eqB e.value zt2)
 else if e.kind==2 then e.to_==[]&&(zso e.rule_&&eqB e.value zt2)
 else if e.kind==4 then zso e.rule_&&eqB e.value zt2
 else if e.kind==5 then e.to_==[]&&zso e.rule_
 else false
theorem ysy {r:yz3}:Ev (λn=>zcy n r) (zso r):=by
 rw [ye0];unfold zso;simp only [Ev.pif,Ev.yz0];cases r.name==[] <;> cases (r.params.length:Int)==0 <;> simp
theorem ypx {e:yz6} (hs:e.value.size<=8388608):Ev (λn=>zbh n e) (yb6 e):=by
 rw [yay,Ev.kz0 ysy,yz1.zz4,Ev.kz0 (ywc _ _ hs)];change Ev (λn=>pIf (e.kind==1) (z0w n (!eqB e.value zt2) (!zso e.rule_) e.kind true e.re) (z0w n (!eqB e.value zt2) (!zso e.rule_) e.kind (e.kind==3) e.re)) (yb6 e);rw [yz6.zz4];unfold yb6;generalize eqB e.value zt2=z;generalize zso e.rule_=o
 have l0:∀b,Ev (λn=>z0w n (!z) (!o) e.kind b e) (if b then e.name==[]&&(e.to_==[]&&z) else if e.kind==2 then e.to_==[]&&(o&&z) else if e.kind==4 then o&&z else if e.kind==5 then e.to_==[]&&o else false):=λb=>by
  rw [y06];simp only [Ev.pif,Ev.yz0];cases b <;> cases e.name==[] <;> cases e.to_==[] <;> cases o <;> cases z <;> cases e.kind==2 <;> cases e.kind==4 <;> cases e.kind==5 <;> rfl
 rw [Ev.pif];cases h:e.kind==1
 ·exact l0 _
 ·exact l0 _
theorem yt0 {e:yz1} (hs:e.size<=8388608):Ev (λn=>z8k n e) (eqB e zt2):=by
 rw [ydr,yz1.zz4,Ev.kz0 (zs8 _ _ hs),Ev.yz0];rfl
theorem z03p {α:Type} [BEq α] [LawfulBEq α] (l:List α):((l.length:Int)==0)=(l==[]):=by
 cases l with
 |nil=>rfl
 |cons x l=>simp;omega
theorem ym4 {e:yz6} (hs:e.value.size<=8388608):Ev (λn=>z9g n e) (yb6 e):=by
 have l1:∀o b,Ev (λn=>z39 n o e.kind b e) (if b then e.name==[]&&(e.to_==[]&&eqB e.value zt2) else if e.kind==2 then e.to_==[]&&(o&&eqB e.value zt2) else if e.kind==4 then o&&eqB e.value zt2 else if e.kind==5 then e.to_==[]&&o else false):=λo b=>by
  rw [zwl,yz1.zz4];simp only [Ev.kz0 (yt0 hs),Ev.pif,Ev.yz0,z03p];cases b <;> cases e.name==[] <;> cases e.to_==[] <;> cases o <;> cases eqB e.value zt2 <;> cases e.kind==2 <;> cases e.kind==4 <;> cases e.kind==5 <;> rfl
 have l0:∀o,o=zso e.rule_->Ev (λn=>z18 n o e) (yb6 e):=λo ho=>by
  rw [zwf,yz6.zz4];unfold yb6;rw [<-ho,Ev.pif];cases h:e.kind==1
  ·exact l1 _ _
  ·exact l1 _ _
 rw [y4m,yz6.zz4];simp only [Ev.pif];cases h1:e.rule_.name==[]
 ·exact l0 _ (by simp [zso,h1])
 ·cases h2:(e.rule_.params.length:Int)==0
  ·exact l0 _ (by simp [zso,h1,h2])
  ·exact l0 _ (by simp [zso,h1,h2])
end Go.Proofs.YtomdnlaakelghaaGreat
