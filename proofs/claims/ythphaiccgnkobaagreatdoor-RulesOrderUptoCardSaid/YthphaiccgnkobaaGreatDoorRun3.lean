/-
  PROGRAMS: SIZES, COMPARISONS.
-/
import Derived.Test.YthphaiccgnkobaaGreatDoorRun2
import Derived.Test.YthphaiccgnkobaaGreatDoorLib9
namespace Go.Proofs.YthphaiccgnkobaaGreatDoor
open Go Go.Ab
set_option linter.unusedVariables false
theorem zmj{α:Type}{f:α->Nat}:∀{l:List α}{x:α},x∈l->f x<=(l.map f).sum
 |y::l,x,h=>by
  simp only[List.map_cons,List.sum_cons]
  rcases Qbl.1 h with h|h
  subst h;omega;have:=zmj (f:=f) h;omega
theorem znf{α:Type}{f:α->Nat}(hf:∀x,1<=f x):∀l:List α,l.length<=(l.map f).sum
 |[]=>by simp
 |x::l=>by have:=znf hf l;have:=hf x;simp only[List.length_cons,List.map_cons,List.sum_cons];omega
def zge(l:zz7):kz0:=⟨18,⟨0,⟨0,0⟩,false,[],[]⟩,[],l⟩
theorem zmk(l:zz7):(zge l).size=(l.map kz0.size).sum+12:=by
 rw[kz0.size_eq];show 1+zz0.size _+0+1+((l.map kz0.size).sum+1)+1=_;rw[zz0.size_eq];show 1+(1+(1+1+1)+1+(0+1)+(0+1)+1)+0+1+((l.map kz0.size).sum+1)+1=_;omega
theorem ye8{l:zz7}(h:∀x∈l,x.wf):(zge l).wf:=by
 rw[kz0.z1e];refine⟨by show(IntKind.u8.min<=18∧18<=IntKind.u8.max);decide,?_,trivial,h⟩;rw[zz0.z1e];refine⟨by show(IntKind.u8.min<=0∧0<=IntKind.u8.max);decide,?_,trivial,trivial,by simp[zge]⟩;rw[yz4.z1e];exact⟨by show(IntKind.i64.min<=0∧0<=IntKind.i64.max);decide,by show(IntKind.i64.min<=0∧0<=IntKind.i64.max);decide⟩
section
variable {p : yz0} {t : kzh} {r : yz5} {c : kz6} {a : kz3} {x : zzj} {e : kz0}
theorem yhq(h:t∈p.attrs):t.size+2<=p.size:=by have:=zmj (f:=kzh.size) h;rw[yz0.size_eq];omega
theorem zuw(h:r∈p.rules):r.size+2<=p.size:=by have:=zmj (f:=yz5.size) h;rw[yz0.size_eq];omega
theorem yhz:t.value.size+t.name.length+2<=t.size:=by rw[kzh.size_eq];omega
theorem y2q(h:c∈r.cases):c.size+2<=r.size:=by have:=zmj (f:=kz6.size) h;rw[yz5.size_eq];omega
theorem sz_rn:r.name.length+2<=r.size:=by rw[yz5.size_eq];omega
theorem sz_rp{s:B8}(h:s∈r.params):s.length+2<=r.size:=by have:=zmj (f:=λs:B8=>s.length+1) h;rw[yz5.size_eq];omega
theorem yhr:c.when_.size+2<=c.size:=by rw[kz6.size_eq];omega
theorem y80(h:a∈c.do_):a.size+2<=c.size:=by have:=zmj (f:=kz3.size) h;rw[kz6.size_eq];omega
theorem sz_an:a.name.length+2<=a.size:=by rw[kz3.size_eq];omega
theorem ycn:(a.args.map kz0.size).sum+5<=a.size:=by rw[kz3.size_eq];omega
theorem yc6(h:x∈a.items):x.size+2<=a.size:=by have:=zmj (f:=zzj.size) h;rw[kz3.size_eq];omega
theorem sz_xn:x.name.length+2<=x.size:=by rw[zzj.size_eq];omega
theorem yd6:(x.args.map kz0.size).sum+4<=x.size:=by rw[zzj.size_eq];omega
theorem y79:p.attrs.length<=p.size:=by have:=znf (f:=kzh.size) (λx=>by rw[kzh.size_eq];omega) p.attrs;rw[yz0.size_eq];omega
theorem zso:p.rules.length<=p.size:=by have:=znf (f:=yz5.size) (λx=>by rw[yz5.size_eq];omega) p.rules;rw[yz0.size_eq];omega
theorem y85:r.params.length<=r.size:=by have:=znf (f:=λs:B8=>s.length+1) (λx=>by omega) r.params;rw[yz5.size_eq];omega
theorem y7i:r.cases.length<=r.size:=by have:=znf (f:=kz6.size) (λx=>by rw[kz6.size_eq];omega) r.cases;rw[yz5.size_eq];omega
theorem y7h:c.do_.length<=c.size:=by have:=znf (f:=kz3.size) (λx=>by rw[kz3.size_eq];omega) c.do_;rw[kz6.size_eq];omega
theorem ycg:a.items.length<=a.size:=by have:=znf (f:=zzj.size) (λx=>by rw[zzj.size_eq];omega) a.items;rw[kz3.size_eq];omega
theorem ln_aa:a.args.length<=a.size:=by have:=zdh a.args;have:=@ycn a;omega
theorem yqw:x.args.length<=x.size:=by have:=zdh x.args;have:=@yd6 x;omega
theorem yqk(h:p.wf)(ht:t∈p.attrs):t.value.wf:=by rw[yz0.z1e]at h;have:=h.1 t ht;rw[kzh.z1e]at this;exact this.2
theorem yqp(h:p.wf)(hr:r∈p.rules):r.wf:=by rw[yz0.z1e]at h;exact h.2 r hr
theorem yqt(h:r.wf)(hc:c∈r.cases):c.wf:=by rw[yz5.z1e]at h;exact h.2.2 c hc
theorem yqi(h:c.wf):c.when_.wf:=by rw[kz6.z1e]at h;exact h.2.1
theorem yqs(h:c.wf)(ha:a∈c.do_):a.wf:=by rw[kz6.z1e]at h;exact h.2.2 a ha
theorem wf_ak(h:a.wf):(0<=a.kind∧a.kind<=255)∧(0<=a.axis∧a.axis<=255):=by rw[kz3.z1e]at h;exact⟨h.1,h.2.1⟩
theorem wf_aa(h:a.wf):(zge a.args).wf:=by rw[kz3.z1e]at h;exact ye8 h.2.2.2.1
theorem wf_ae(h:a.wf)(he:e∈a.args):e.wf:=by rw[kz3.z1e]at h;exact h.2.2.2.1 e he
theorem yqr(h:a.wf)(hx:x∈a.items):x.wf:=by rw[kz3.z1e]at h;exact h.2.2.2.2 x hx
theorem wf_xa(h:x.wf):(zge x.args).wf:=by rw[zzj.z1e]at h;exact ye8 h.2.2
theorem wf_xe(h:x.wf)(he:e∈x.args):e.wf:=by rw[zzj.z1e]at h;exact h.2.2 e he
end
theorem yr3{α:Type}{a b:List α}(h:a.length=b.length):((a.length:Int) != (b.length:Int))=false:=by simp;omega
theorem zwe{α:Type}{L:Nat->Int->List α->Int->Option Int}{S:Nat->α->Option Bool}{l:List α}{p:α->Bool}
  (hL:∀n (k:Int),L (n+1) k l (l.length:Int)=pIf (decide (k<(l.length:Int))) ((ix l k).bind λx0=>(S n x0).bind λy1=>pIf y1 (some k) (L n (IntKind.i64.wrap (k+1)) l (l.length:Int))) (some (-1)))
  (hb:l.length<=8388608) (hS:∀x∈l,Ev (λn=>S n x) (p x)):∃i:Int,Ev (λn=>L n 0 l (l.length:Int)) i∧decide (i>=0)=l.any p:=by
 have:∀k,k<=l.length->∃i:Int,Ev (λn=>L n (k:Int) l (l.length:Int)) i∧decide (i>=0)=(l.drop k).any p :=
  down ⟨-1,by rw[Ev.zlu (λn=>hL n _),Ev.zz3 (by simp),Ev.zz1],by simp⟩ λk hk ⟨i,h1,h2⟩=>by
   cases hp:p l[k]with
   |true=>
    refine⟨k,?_,?_⟩;rw[Ev.zlu (λn=>hL n _),Ev.kz2 (by simpa using hk),Ev.yz3 (yze hk),Ev.yz1 (hS _ (Qad hk)),hp,Ev.kz2 rfl,Ev.zz1]
    rw[<-Qah (h:=hk),List.any_cons,hp];simp
   |false=>
    refine⟨i,?_,?_⟩;rw[Ev.zlu (λn=>hL n _),Ev.kz2 (by simpa using hk),Ev.yz3 (yze hk),Ev.yz1 (hS _ (Qad hk)),hp,Ev.zz3 rfl,wrk (by omega)];exact h1;rw[<-Qah (h:=hk),List.any_cons,hp,h2];simp
 simpa using this 0 (Qbv _)
theorem andF{c d:Bool}{A:Nat->Option Bool}(h:c=true->Ev A d):Ev (λn=>pIf c (A n) (some false)) (c&&d):=by
 cases c;exact Ev.pure rfl;exact h rfl
theorem ifB(c:Bool):(if c=true then true else false)=c:=by cases c <;> rfl
theorem yfp{c:kz6}(hs:c.size<=8000000):∃b,Ev (λn=>z4g n c) b:=by
 have:=@yhr c;have:=@y7h c;have list:∀l:zz7,Ev (λn=>z4s n l) (zge l):=λl=>by rw[zs8,Ev.zz1];rfl
 have l1:∃b,Ev (λn=>kzr n 0 c) b:=by
  refine zma (L:=λn k=>kzr n k c) (len:=c.do_.length) ⟨false,by rw[zev,Ev.zz3 (by simp),Ev.zz1]⟩ λk hk v hv =>?_
  have ha:=Qad hk;have hsa:=y80 ha;have:=@ycn c.do_[k];have:=@ycg c.do_[k]
  have l3:∃b,Ev (λn=>zzs n 0 (k:Int) c) b:=by
   refine zma (L:=λn j=>zzs n j (k:Int) c) (len:=c.do_[k].items.length) ⟨v,by rw[zf0,Ev.yz3 (yze hk),Ev.zz3 (by simp),wrk (by omega),kz6.yz6];exact hv⟩ λj hj w hw =>?_
   have:=yc6 (Qad hj);have:=@yd6 c.do_[k].items[j]
   have l4:∀b,∃d,Ev (λn=>z00 n (k:Int) (j:Int) b c) d:=λb=>by
    cases b;exact⟨w,by rw[zey,Ev.zz3 (by rfl),wrk (by omega),kz6.yz6];exact hw⟩;exact⟨true,by rw[zey,Ev.kz2 (by rfl),Ev.zz1]⟩
   obtain⟨g,hg⟩:=zjv (e:=zge c.do_[k].items[j].args) (by rw[zmk];omega);simp only[zf0,Ev.yz3 (yze hk)];simp only[Ev.kz2 (show decide ((j:Int)<(c.do_[k].items.length:Int))=true by simpa using hj),Ev.yz3 (yze hk),Ev.yz3 (yze hj),Ev.yz1 (list _),kz0.yz6,kz6.yz6,Ev.yz1 hg,Ev.pif];split <;> exact l4 _
  have l2:∀b,∃d,Ev (λn=>yzs n (k:Int) b c) d:=λb=>by
   cases b;obtain⟨d,hd⟩:=l3;exact⟨d,by rw[zeu,Ev.zz3 (by rfl),kz6.yz6];exact hd⟩;exact⟨true,by rw[zeu,Ev.kz2 (by rfl),Ev.zz1]⟩
  obtain⟨g,hg⟩:=zjv (e:=zge c.do_[k].args) (by rw[zmk];omega);simp only[zev,Ev.kz2 (show decide ((k:Int)<(c.do_.length:Int))=true by simpa using hk),Ev.yz3 (yze hk),Ev.yz1 (list _),kz0.yz6,kz6.yz6,Ev.yz1 hg,Ev.pif];split;exact l2 _;split <;> exact l2 _
 have l0:∀b,∃d,Ev (λn=>kzz n b c) d:=λb=>by
  cases b;obtain⟨d,hd⟩:=l1;exact⟨d,by rw[zew,Ev.zz3 (by rfl),kz6.yz6];exact hd⟩;exact⟨true,by rw[zew,Ev.kz2 (by rfl),Ev.zz1]⟩
 obtain⟨g,hg⟩:=zjv (e:=c.when_) (by omega);simp only[ztc,Ev.pif,kz6.yz6,kz0.yz6,Ev.yz1 hg];split <;> exact l0 _
theorem great{p:yz0}(hs:p.size<=8000000):∃b,Ev (λn=>z8o n p) b:=by
 have:=@y79 p;have:=@zso p
 have l3:∃b,Ev (λn=>z0x n 0 p) b:=by
  refine zma (L:=λn k=>z0x n k p) (len:=p.rules.length) ⟨false,by rw[zjq,Ev.zz3 (by simp),Ev.zz1]⟩ λk hk v hv =>?_
  have hsa:=zuw (Qad hk);have:=@y85 p.rules[k];have:=@y7i p.rules[k]
  have l6:∃b,Ev (λn=>z11 n 0 (k:Int) p.rules[k] p) b:=by
   refine zma (L:=λn j=>z11 n j (k:Int) p.rules[k] p) (len:=p.rules[k].cases.length) ⟨v,by rw[zke,Ev.zz3 (by simp),wrk (by omega)];exact hv⟩ λj hj w hw =>?_
   obtain⟨g,hg⟩:=yfp (c:=p.rules[k].cases[j]) (by have:=y2q (Qad hj);omega);simp only[zke (a:=(j:Int)),Ev.kz2 (show decide ((j:Int)<(p.rules[k].cases.length:Int))=true by simpa using hj),Ev.yz3 (yze hj),kz6.yz6,Ev.yz1 hg];simp only[Ev.pif];split;exact⟨true,Ev.pure rfl⟩;exact⟨w,by rw[wrk (by omega)];exact hw⟩
  have l5:∃b,Ev (λn=>z0z n 0 (k:Int) p.rules[k] p) b:=by
   obtain⟨d,hd⟩:=l6;refine zma (L:=λn j=>z0z n j (k:Int) p.rules[k] p) (len:=p.rules[k].params.length) ⟨d,by rw[zjr,Ev.zz3 (by simp)];exact hd⟩ λj hj w hw =>?_
   simp only[zjr (a:=(j:Int)),Ev.kz2 (show decide ((j:Int)<(p.rules[k].params.length:Int))=true by simpa using hj),Ev.yz3 (yze hj),Ev.pif];split;exact⟨true,Ev.pure rfl⟩;exact⟨w,by rw[wrk (by omega)];exact hw⟩
  have l4:∀b,∃d,Ev (λn=>z10 n (k:Int) b p.rules[k] p) d:=λb=>by
   cases b;obtain⟨d,hd⟩:=l5;exact⟨d,by rw[zj9,Ev.zz3 (by rfl)];exact hd⟩;exact⟨true,by rw[zj9,Ev.kz2 (by rfl),Ev.zz1]⟩
  simp only[zjq,Ev.kz2 (show decide ((k:Int)<(p.rules.length:Int))=true by simpa using hk),Ev.yz3 (yze hk),Ev.pif];split;exact l4 _;split <;> exact l4 _
 have l1:∃b,Ev (λn=>z18 n 0 p) b:=by
  obtain⟨d,hd⟩:=l3;refine zma (L:=λn k=>z18 n k p) (len:=p.attrs.length) ⟨d,by rw[zjj,Ev.zz3 (by simp)];exact hd⟩ λk hk v hv =>?_
  have:=yhq (Qad hk);have:=@yhz p.attrs[k]
  have l2:∀b,∃d,Ev (λn=>z2h n (k:Int) b p) d:=λb=>by
   cases b;exact⟨v,by rw[zk7,Ev.zz3 (by rfl),wrk (by omega)];exact hv⟩;exact⟨true,by rw[zk7,Ev.kz2 (by rfl),Ev.zz1]⟩
  obtain⟨g,hg⟩:=zjv (e:=p.attrs[k].value) (by omega);simp only[zjj,Ev.kz2 (show decide ((k:Int)<(p.attrs.length:Int))=true by simpa using hk),Ev.yz3 (yze hk),kz0.yz6,Ev.yz1 hg,Ev.pif];split <;> exact l2 _
 have l0:∀b,∃d,Ev (λn=>z2q n b p) d:=λb=>by
  cases b;obtain⟨d,hd⟩:=l1;exact⟨d,by rw[zjz,Ev.zz3 (by rfl)];exact hd⟩;exact⟨true,by rw[zjz,Ev.kz2 (by rfl),Ev.zz1]⟩
 simp only[y1p,Ev.pif];split <;> exact l0 _
def yba(c:kz6):Bool:=decide (10<c.do_.length)||c.do_.any λa=>decide (10<a.items.length)
def y93(r:yz5):Bool:=decide (4<r.params.length)||(decide (6<r.cases.length)||r.cases.any yba)
def zxx(p:yz0):Bool:=decide (20<p.attrs.length)||(decide (40<p.rules.length)||p.rules.any y93)
theorem gt4{k:Nat}:decide ((k:Int)>4)=decide (4<k):=decide_eq_decide.2 (by omega)
theorem gt6{k:Nat}:decide ((k:Int)>6)=decide (6<k):=decide_eq_decide.2 (by omega)
theorem gt10{k:Nat}:decide ((k:Int)>10)=decide (10<k):=decide_eq_decide.2 (by omega)
theorem gt20{k:Nat}:decide ((k:Int)>20)=decide (20<k):=decide_eq_decide.2 (by omega)
theorem gt40{k:Nat}:decide ((k:Int)>40)=decide (40<k):=decide_eq_decide.2 (by omega)
theorem orB{c d:Bool}{γ:Type}{x y:γ}:(if (c||d)=true then x else y)=if c=true then x else if d=true then x else y:=by cases c <;> rfl
theorem yfr{p:yz0}(hs:p.size<=8000000):Ev (λn=>z9u n p) (zxx p):=by
 have:=@y79 p;have:=@zso p
 have l1:Ev (λn=>z1v n 0 p.rules (p.rules.length:Int)) (if p.rules.any y93=true then true else false):=by
  refine yii (L:=λn k=>z1v n k p.rules (p.rules.length:Int)) (by rw[zld,Ev.zz3 (by simp),Ev.zz1]) λk hk v hv =>?_
  have:=zuw (Qad hk);have:=@y85 p.rules[k];have:=@y7i p.rules[k]
  have l3:Ev (λn=>z1x n 0 p.rules[k].cases p.rules (p.rules.length:Int) (k:Int) (p.rules[k].cases.length:Int)) (if p.rules[k].cases.any yba=true then true else v):=by
   refine yii (L:=λn j=>z1x n j p.rules[k].cases p.rules (p.rules.length:Int) (k:Int) (p.rules[k].cases.length:Int)) (by rw[zl6,Ev.zz3 (by simp),wrk (by omega)];exact hv) λj hj w hw =>?_
   have:=y2q (Qad hj);have:=@y7h p.rules[k].cases[j]
   have l4:∀b,Ev (λn=>z4a n p.rules[k].cases p.rules (p.rules.length:Int) (k:Int) (p.rules[k].cases.length:Int) (j:Int) b) (if b=true then true else w):=λb=>by
    cases b;rw[zmb,Ev.zz3 (by rfl),wrk (by omega)];exact hw;rw[zmb,Ev.kz2 (by rfl),Ev.zz1];rfl
   obtain⟨i,h1,h2⟩:=zwe (S:=λn x=>z73 n x) (l:=p.rules[k].cases[j].do_) (p:=λa=>decide (10<a.items.length)) (L:=λn k l m=>zza n k l m) (λn k=>zza.eq_2 _ _ _ n) (by omega) λx hx=>by
    rw[zyk,Ev.zz1];exact gt10
   have hc:Ev (λn=>kz9 n p.rules[k].cases[j].do_) (p.rules[k].cases[j].do_.any λa=>decide (10<a.items.length)):=by
    rw[z8p,Ev.yz1 (by rw[z9p];exact h1),Ev.zz1,h2]
   rw[zl6,Ev.kz2 (by simpa using hj),Ev.yz3 (yze hj),yba,orB,Ev.pif,gt10];split;exact l4 true;rw[Ev.yz1 hc];exact l4 _
  have l2:∀b,Ev (λn=>z3y n p.rules (p.rules.length:Int) (k:Int) b p.rules[k]) (if b=true then true else if p.rules[k].cases.any yba=true then true else v):=λb=>by
   cases b;rw[zlo,Ev.zz3 (by rfl)];exact l3;rw[zlo,Ev.kz2 (by rfl),Ev.zz1];rfl
  rw[zld,Ev.kz2 (by simpa using hk),Ev.yz3 (yze hk),y93,orB,orB,Ev.pif,gt4,gt6];split;exact l2 true;exact l2 _
 have l0:∀b,Ev (λn=>z41 n b p) (b||p.rules.any y93):=λb=>by
  cases b;rw[zm6,Ev.zz3 (by rfl),ifB]at *;exact l1;rw[zm6,Ev.kz2 (by rfl),Ev.zz1];rfl
 rw[y73,Ev.pif,gt20,gt40,zxx];split;rename_i h;rw[h];exact l0 true;rename_i h;simp only[h,Bool.false_or];exact l0 _
def kept:List B8:=[[116,114,117,101],[102,97,108,115,101],[115,120],[115,121],[115,122]]
def zfw(s:B8):Bool:=ztu s && !(kept.any λx=>s==x)
theorem zg2{s:B8}(hs:s.length<=8388608):Ev (λn=>z1b n s) (zfw s):=by
 obtain⟨i,h1,h2⟩:=zwe (S:=λn x=>some (s==x)) (l:=kept) (p:=λx=>s==x) (L:=λn k l m=>kza n k l s m) (λn k=>kza.eq_2 _ _ _ _ n) (by decide) λx hx=>Ev.pure rfl
 have hc:Ev (λn=>kzj n kept s) (kept.any λx=>s==x):=by
  rw[zef,Ev.yz1 (by rw[z8u];exact h1),Ev.zz1,h2]
 rw[y2z,Ev.yz1 (y4o hs),zfw];refine andF λ_ =>?_
 exact(Ev.yz1 hc).2 (Ev.pure rfl)
theorem ykj:zfw []=false:=rfl
theorem ynh{α:Type}{l:List α}:decide ((l.length:Int)>0) = !l.isEmpty:=by cases l <;> simp
theorem sc_t{α:Type}{k:Int}{l:List α}(h:¬(k=5↔l≠[])):(!((k==5)==decide ((l.length:Int)>0)))=true:=by
 rw[ynh];cases l <;> by_cases q:k=5 <;> simp_all
theorem sc_f{α:Type}{k:Int}{l:List α}(h:k=5↔l≠[]):(!((k==5)==decide ((l.length:Int)>0)))=false:=by
 rw[ynh];cases l <;> by_cases q:k=5 <;> simp_all
def own(k:Int):Int:=if k=2∨k=3 then 3 else if k=4∨k=6 then 1 else 0
theorem zwp{k:Int}:Ev (λn=>z7f n k) (own k):=by
 have l1:∀b,Ev (λn=>z5p n b) (if b=true then 1 else 0):=λb=>by cases b <;> rw[zys] <;> exact Ev.pure rfl
 have l0:∀b,Ev (λn=>z5n n k b) (if b=true then 3 else if k=4∨k=6 then 1 else 0):=λb=>by
  rw[zyw,Ev.pif];split;exact Ev.pure rfl;rw[Ev.pif];split;rename_i h;rw[Qbx (.inl (by simpa using h))];exact l1 true;rename_i h;have h:k≠4:=by simpa using h
  refine(l1 _).to ?_;by_cases q:k=6 <;> simp[q,h]
 rw[y9x,Ev.pif,own];split;rename_i h;rw[Qbx (.inl (by simpa using h))];exact l0 true;rename_i h;have h:k≠2:=by simpa using h
 refine(l0 _).to ?_;by_cases q:k=3 <;> simp[q,h]
noncomputable def yil(x:zzj):Bool:=decide (1<=x.kind)&&(decide (x.kind<=3)&&(zfw x.name&&(!x.args.isEmpty&&(zec (zge x.args)==0))))
def yks(a:kz3):Prop:=(1<=a.kind∧a.kind<=6)∧(a.axis<=if a.kind=4∨a.kind=5 then 2 else 0)∧(if a.kind<=4 then zfw a.name=true else a.name=[])∧zec (zge a.args)=0∧(own a.kind<=a.args.length)∧(4<a.kind->(a.args.length:Int)=own a.kind)∧(a.kind=5↔a.items≠[])∧a.items.all yil=true
noncomputable def zbb(a:kz3):Bool:=@decide (yks a) (Classical.propDecidable _)
theorem yc1{a:kz3}:zbb a=true↔yks a:=@decide_eq_true_iff _ (Classical.propDecidable _)
theorem zlk{a:kz3}(h:¬yks a):zbb a=false:=@decide_eq_false _ (Classical.propDecidable _) h
theorem y7c{l:zz7}(hw:(zge l).wf)(hs:(l.map kz0.size).sum<=8000000):Ev (λn=>yzy n (zge l)) (zec (zge l)):=zno hw (by rw[zmk];omega)
theorem neI{k:Int}:(k != 0) = !(k==0):=rfl
theorem yh9{a:kz3}(hw:a.wf)(hs:a.size<=8000000):Ev (λn=>z38 n a) (zbb a):=by
 have:=@ycn a;have:=@ycg a;have:=@sz_an a;have list:∀l:zz7,Ev (λn=>z26 n l) (zge l):=λl=>by rw[y74,Ev.zz1];rfl
 obtain⟨⟨hk0,hk1⟩,hx0,hx1⟩:=wf_ak hw
 have l6:Ev (λn=>zzp n 0 a.items (a.items.length:Int)) (if a.items.all yil=true then true else false):=by
  refine zur (L:=λn k=>zzp n k a.items (a.items.length:Int)) (by rw[zem,Ev.zz3 (by simp),Ev.zz1]) λk hk v hv =>?_
  have hx:=Qad hk;have:=yc6 hx;have:=@yd6 a.items[k];have:=@sz_xn a.items[k]
  have l7:∀b,Ev (λn=>yzi n a.items (a.items.length:Int) (k:Int) (!b)) (if b=true then v else false):=λb=>by
   cases b;rw[zdv,Ev.kz2 (by rfl),Ev.zz1];rfl;rw[zdv,Ev.zz3 (by rfl),wrk (by omega)];exact hv
  rw[zem,Ev.kz2 (by simpa using hk),Ev.yz3 (yze hk),yil];generalize a.items[k]=x at *;by_cases h1:1<=x.kind
  case neg=>rw[Ev.kz2 (by simp;omega),Qbs h1];exact l7 false
  rw[Ev.zz3 (by simp;omega),Qbt h1];by_cases h2:x.kind<=3
  case neg=>rw[Ev.kz2 (by simp;omega),Qbs h2];exact l7 false
  rw[Ev.zz3 (by simp;omega),Qbt h2,Ev.yz1 (zg2 (by omega))];cases h3:zfw x.name;exact l7 false;rw[Ev.zz3 (by rfl)];cases h4:x.args.isEmpty
  case true=>rw[Ev.kz2 (by rw[List.isEmpty_iff.1 h4];rfl)];exact l7 false
  have h4':x.args≠[]:=by intro h;rw[h]at h4;cases h4
  have h4':x.args.length≠0:=by intro h;exact h4' (List.length_eq_zero_iff.1 h)
  rw[Ev.zz3 (by simpa using h4'),Ev.yz1 (list _),kz0.yz6,Ev.yz1 (y7c (wf_xa (yqr hw hx)) (by omega)),neI];exact l7 _
 have l5:∀b,(b=false->((1<=a.kind∧a.kind<=6)∧(a.axis<=if a.kind=4∨a.kind=5 then 2 else 0)∧(if a.kind<=4 then zfw a.name=true else a.name=[])∧zec (zge a.args)=0∧(own a.kind<=a.args.length)∧(4<a.kind->(a.args.length:Int)=own a.kind)))->(b=true->¬yks a)->Ev (λn=>kzl n b a) (zbb a):=λb hf ht=>by
  cases b
  case true=>rw[ze4,Ev.kz2 (by rfl),Ev.zz1,zlk (ht rfl)]
  obtain⟨g1,g2,g3,g4,g5,g6⟩:=hf rfl;rw[ze4,Ev.zz3 (by rfl)];by_cases h:a.kind=5↔a.items≠[]
  case neg=>
   rw[Ev.kz2 (sc_t h),Ev.zz1,zlk (λq=>h q.2.2.2.2.2.2.1)]
  rw[Ev.zz3 (sc_f h)];refine l6.to ?_;by_cases q:a.items.all yil=true;rw[Qbx q,yc1.2 ⟨g1,g2,g3,g4,g5,g6,h,q⟩];rw[Qby q,zlk (λz=>q z.2.2.2.2.2.2.2)]
 have l4:∀c:Bool,(c=decide (1<=a.kind∧a.kind<=4))->((1<=a.kind∧a.kind<=6)∧(a.axis<=if a.kind=4∨a.kind=5 then 2 else 0))->∀b,(b=false->(if a.kind<=4 then zfw a.name=true else a.name=[]))->(b=true->¬yks a)->Ev (λn=>kzp n c b a) (zbb a):=λc hc hg b hf ht=>by
  cases b
  case true=>rw[ze5,Ev.kz2 (by rfl),Ev.zz1,zlk (ht rfl)]
  have g3:=hf rfl;rw[ze5,Ev.zz3 (by rfl),Ev.yz1 (list _),kz0.yz6,Ev.yz1 (y7c (wf_aa hw) (by omega))];by_cases h1:zec (zge a.args)=0
  case neg=>rw[Ev.kz2 (by simpa using h1)];exact l5 true (λh=>by cases h) λ_ q=>h1 q.2.2.2.1
  rw[Ev.zz3 (by simpa using h1),Ev.yz1 zwp];by_cases h2:own a.kind<=a.args.length
  case neg=>rw[Ev.kz2 (by simp;omega)];exact l5 true (λh=>by cases h) λ_ q=>h2 q.2.2.2.2.1
  rw[Ev.zz3 (by simp;omega)];cases hcc:c;rw[Ev.kz2 (by rfl),Ev.yz1 zwp];have hk4:4<a.kind:=by rw[hcc]at hc;have:=of_decide_eq_false hc.symm;omega
  refine l5 _ (λh=>⟨hg.1,hg.2,g3,h1,h2,λ_=>by simpa using h⟩) λh q =>?_
  have:=q.2.2.2.2.2.1 hk4;simp[this]at h;rw[Ev.zz3 (by rfl)];have hk4:a.kind<=4:=by rw[hcc]at hc;have:=Qac hc.symm;omega
  exact l5 _ (λh=>⟨hg.1,hg.2,g3,h1,h2,λh=>by omega⟩) λh=>by cases h
 have l3:∀c:Bool,(c=decide (1<=a.kind∧a.kind<=4))->∀b,(b=false->((1<=a.kind∧a.kind<=6)∧(a.axis<=if a.kind=4∨a.kind=5 then 2 else 0)))->(b=true->¬yks a)->Ev (λn=>yzp n c b a) (zbb a):=λc hc b hf ht=>by
  cases b
  case true=>rw[zdp,Ev.kz2 (by rfl),Ev.zz1,zlk (ht rfl)]
  have hg:=hf rfl;rw[zdp,Ev.zz3 (by rfl),Ev.yz1 (zg2 (by omega))];by_cases hk4:a.kind<=4;rw[Qbt (by omega)]at hc;subst hc;cases hn:zfw a.name;exact l4 true (by rw[Qbt (by omega)]) hg true (λh=>by cases h) λ_ q=>by have:=q.2.2.1;rw[Qbx hk4,hn]at this;cases this
  exact l4 true (by rw[Qbt (by omega)]) hg false (λ_=>by rw[Qbx hk4,hn]) λh=>by cases h
  rw[Qbs (by omega)]at hc;subst hc;cases hn:zfw a.name;rw[Ev.zz3 (by rfl),Ev.kz2 (by rfl)];refine l4 false (by rw[Qbs (by omega)]) hg _ (λh=>by rw[Qby hk4];simpa using h) λh q =>?_
  have:=q.2.2.1;rw[Qby hk4]at this;rw[this]at h;cases h
  exact l4 false (by rw[Qbs (by omega)]) hg true (λh=>by cases h) λ_ q=>by
   have:=q.2.2.1;rw[Qby hk4]at this;rw[this,ykj]at hn;cases hn
 have l2:∀c:Bool,(c=decide (1<=a.kind∧a.kind<=4))->∀x:Int,x=(if a.kind=4∨a.kind=5 then 2 else 0)->Ev (λn=>kzu n c x a) (zbb a):=λc hc x hx=>by
  rw[zn0];by_cases h1:1<=a.kind
  case neg=>rw[Ev.kz2 (by simp;omega)];exact l3 c hc true (λh=>by cases h) λ_ q=>h1 q.1.1
  rw[Ev.zz3 (by simp;omega)];by_cases h2:a.kind<=6
  case neg=>rw[Ev.kz2 (by simp;omega)];exact l3 c hc true (λh=>by cases h) λ_ q=>h2 q.1.2
  rw[Ev.zz3 (by simp;omega),hx];refine l3 c hc _ (λh=>⟨⟨h1,h2⟩,by have:=of_decide_eq_false h;omega⟩) λh q =>?_
  have:=Qac h;have:=q.2.1;omega
 have l1:∀c:Bool,(c=decide (1<=a.kind∧a.kind<=4))->∀b:Bool,b=decide (a.kind=4∨a.kind=5)->Ev (λn=>zzv n c 0 b a) (zbb a):=λc hc b hb=>by
  rw[zmm];by_cases h:a.kind=4∨a.kind=5;rw[hb,Qbt h,Ev.kz2 rfl];exact l2 c hc _ (by rw[Qbx h]);rw[hb,Qbs h,Ev.zz3 rfl];exact l2 c hc _ (by rw[Qby h])
 have l0:∀c:Bool,(c=decide (1<=a.kind∧a.kind<=4))->Ev (λn=>kzv n c a) (zbb a):=λc hc=>by
  rw[zng];by_cases h:a.kind=4;rw[Ev.kz2 (by simpa using h)];exact l1 c hc true (by rw[Qbt (.inl h)]);rw[Ev.zz3 (by simpa using h)];exact l1 c hc _ (by by_cases q:a.kind=5 <;> simp[q,h])
 rw[zrh];by_cases h:1<=a.kind;rw[Ev.kz2 (by simpa using h)];exact l0 _ (by simp[h]);rw[Ev.zz3 (by simpa using h)];exact l0 _ (by simp[h])
noncomputable def yio(c:kz6):Bool:=decide (1<=c.weight)&&(decide (c.weight<=1000000)&&((zec c.when_==0)&&c.do_.all zbb))
noncomputable def yd0(r:yz5):Bool:=zfw r.name&&(r.params.all zfw&&r.cases.all yio)
noncomputable def yi6(t:kzh):Bool:=zfw t.name&&(zec t.value==0)
noncomputable def zh7(p:yz0):Bool:=p.attrs.all yi6&&p.rules.all yd0
theorem ifA{c d:Bool}{γ:Type}{x y:γ}:(if (c&&d)=true then x else y)=if c=true then (if d=true then x else y)else y:=by cases c <;> rfl
theorem yad{p:yz0}(hw:p.wf)(hs:p.size<=8000000):Ev (λn=>z77 n p) (zh7 p):=by
 have:=@y79 p;have:=@zso p
 have l2:Ev (λn=>z0c n 0 p.rules (p.rules.length:Int)) (if p.rules.all yd0=true then true else false):=by
  refine zur (L:=λn k=>z0c n k p.rules (p.rules.length:Int)) (by rw[zi0,Ev.zz3 (by simp),Ev.zz1]) λk hk v hv =>?_
  have hr:=Qad hk;have:=zuw hr;have:=@y85 p.rules[k];have:=@y7i p.rules[k];have:=@sz_rn p.rules[k];have hwr:=yqp hw hr
  have l4:Ev (λn=>z0e n 0 p.rules[k].cases p.rules (p.rules.length:Int) (k:Int) (p.rules[k].cases.length:Int)) (if p.rules[k].cases.all yio=true then v else false):=by
   refine zur (L:=λn j=>z0e n j p.rules[k].cases p.rules (p.rules.length:Int) (k:Int) (p.rules[k].cases.length:Int)) (by rw[zie,Ev.zz3 (by simp),wrk (by omega)];exact hv) λj hj w hv =>?_
   have hc:=Qad hj;have:=y2q hc;have:=@yhr p.rules[k].cases[j];have:=@y7h p.rules[k].cases[j];have hwc:=yqt hwr hc
   have l6:Ev (λn=>z0i n 0 p.rules[k].cases[j].do_ p.rules[k].cases p.rules (p.rules.length:Int) (k:Int) (p.rules[k].cases.length:Int) (j:Int) (p.rules[k].cases[j].do_.length:Int)) (if p.rules[k].cases[j].do_.all zbb=true then w else false):=by
    refine zur (L:=λn i=>z0i n i p.rules[k].cases[j].do_ p.rules[k].cases p.rules (p.rules.length:Int) (k:Int) (p.rules[k].cases.length:Int) (j:Int) (p.rules[k].cases[j].do_.length:Int)) (by rw[zhq,Ev.zz3 (by simp),wrk (by omega)];exact hv) λi hi u hu =>?_
    have ha:=Qad hi;have:=y80 ha;rw[zhq,Ev.kz2 (by simpa using hi),Ev.yz3 (yze hi),Ev.yz1 (yh9 (yqs hwc ha) (by omega))];cases zbb p.rules[k].cases[j].do_[i];rw[Ev.kz2 (by rfl),Ev.zz1];rfl;rw[Ev.zz3 (by rfl),wrk (by omega)];exact hu
   have l5:∀b,Ev (λn=>z0h n p.rules[k].cases p.rules (p.rules.length:Int) (k:Int) (p.rules[k].cases.length:Int) (j:Int) (!b) p.rules[k].cases[j]) (if b=true then (if p.rules[k].cases[j].do_.all zbb=true then w else false)else false):=λb=>by
    cases b;rw[ziq,Ev.kz2 (by rfl),Ev.zz1];rfl;rw[ziq,Ev.zz3 (by rfl)];exact l6
   rw[zie,Ev.kz2 (by simpa using hj),Ev.yz3 (yze hj),kz6.yz6,yio,ifA,ifA,ifA];by_cases h1:1<=p.rules[k].cases[j].weight
   case neg=>rw[Ev.kz2 (by simp;omega),Qbs h1];exact l5 false
   rw[Ev.zz3 (by simp;omega),Qbt h1];by_cases h2:p.rules[k].cases[j].weight<=1000000
   case neg=>rw[Ev.kz2 (by simp;omega),Qbs h2];exact l5 false
   rw[Ev.zz3 (by simp;omega),Qbt h2,kz0.yz6,Ev.yz1 (zno (yqi hwc) (by omega)),neI];exact l5 _
  have l3:∀b,Ev (λn=>z1r n p.rules (p.rules.length:Int) (k:Int) (!b) p.rules[k]) (if b=true then (if p.rules[k].cases.all yio=true then v else false)else false):=λb=>by
   cases b;rw[ziu,Ev.kz2 (by rfl),Ev.zz1];rfl;rw[ziu,Ev.zz3 (by rfl)];exact l4
  obtain⟨i,h1,h2⟩:=zwe (S:=λn x=>z5d n x) (l:=p.rules[k].params) (p:=λs => !zfw s) (L:=λn k l m=>yzg n k l m) (λn k=>yzg.eq_2 _ _ _ n) (by omega) λx hx=>by
   have:=sz_rp hx;rw[zv6,Ev.yz1 (zg2 (by omega)),Ev.zz1]
  have hc:Ev (λn=>zzg n p.rules[k].params) (!p.rules[k].params.all zfw):=by
   rw[zcd,Ev.yz1 (by rw[zdm];exact h1),Ev.zz1,h2,<-List.not_all_eq_any_not]
  rw[zi0,Ev.kz2 (by simpa using hk),Ev.yz3 (yze hk),yd0,ifA,ifA,Ev.yz1 (zg2 (by omega))];cases zfw p.rules[k].name;rw[Ev.kz2 (by rfl)];exact l3 false;rw[Ev.zz3 (by rfl),Ev.yz1 hc];exact l3 _
 have l0:Ev (λn=>z0k n 0 p.attrs (p.attrs.length:Int) p) (if p.attrs.all yi6=true then p.rules.all yd0 else false):=by
  refine zur (L:=λn k=>z0k n k p.attrs (p.attrs.length:Int) p) (by rw[zi3,Ev.zz3 (by simp),<-ifB (p.rules.all yd0)];exact l2) λk hk v hv =>?_
  have ht:=Qad hk;have:=yhq ht;have:=@yhz p.attrs[k]
  have l1:∀b,Ev (λn=>z1p n p.attrs (p.attrs.length:Int) (k:Int) (!b) p) (if b=true then v else false):=λb=>by
   cases b;rw[zht,Ev.kz2 (by rfl),Ev.zz1];rfl;rw[zht,Ev.zz3 (by rfl),wrk (by omega)];exact hv
  rw[zi3,Ev.kz2 (by simpa using hk),Ev.yz3 (yze hk),yi6,ifA,Ev.yz1 (zg2 (by omega))];cases zfw p.attrs[k].name;rw[Ev.kz2 (by rfl)];exact l1 false;rw[Ev.zz3 (by rfl),kz0.yz6,Ev.yz1 (zno (yqk hw ht) (by omega)),neI];exact l1 _
 rw[zym];refine l0.to ?_;rw[zh7];cases p.attrs.all yi6 <;> rfl
def z0p(p:yz0):List B8:=p.attrs.map (·.name)
def kz4(p:yz0):List B8:=p.rules.map (·.name)
theorem yhh{α β:Type}{g:α->β}(l:List α)(s:List β):l.foldl (λs x=>s++[g x]) s=s++l.map g:=by
 induction l generalizing s with
 |nil=>simp
 |cons x l ih=>simp[ih]
def atI(l:List B8)(s:B8):Int:=match l.idxOf? s with
 |some i=>(i:Int)
 |none => -1
theorem yoj{l:List B8}{s:B8} : -1<=atI l s:=by unfold atI;split <;> omega
theorem zib(x:B8)(l:List B8)(s:B8):atI (x::l) s=if x=s then 0 else if atI l s = -1 then -1 else atI l s+1:=by
 unfold atI;rw[List.idxOf?_cons];by_cases h:x=s;subst h;simp;have:(x==s)=false:=by simpa using h
 rw[this,Qby h];simp only[Bool.false_eq_true,if_false];cases l.idxOf? s <;> simp
theorem yme{L:Nat->Int->Option Int}{l:List B8}{s:B8}{p:B8->Bool}(hp:∀x,p x=true↔x=s)(hb:l.length<=8388608)
  (hL:∀n (k:Int),L (n+1) k=pIf (decide (k<(l.length:Int))) ((ix l k).bind λx0=>pIf (p x0) (some k) (L n (IntKind.i64.wrap (k+1)))) (some (-1))):Ev (λn=>L n 0) (atI l s):=by
 have:∀k,k<=l.length->Ev (λn=>L n (k:Int)) (if atI (l.drop k) s = -1 then -1 else atI (l.drop k) s+k) :=
  down (by rw[Ev.zlu (λn=>hL n _),Ev.zz3 (by simp),Ev.zz1,List.drop_length];rfl) λk hk ih=>by
   rw[Ev.zlu (λn=>hL n _),Ev.kz2 (by simpa using hk),Ev.yz3 (yze hk),<-Qah (h:=hk),zib];by_cases h:l[k]=s;rw[Ev.kz2 ((hp _).2 h),Ev.zz1,Qbx h];simp;rw[Ev.zz3 (by rw[Bool.eq_false_iff];exact λq=>h ((hp _).1 q)),wrk (by omega),Qby h];refine ih.to ?_;by_cases q:atI (l.drop (k+1)) s = -1;simp[q];have h0:=@yoj (l.drop (k+1)) s;rw[Qby q,Qby q,Qby (by omega)];omega
 have:=this 0 (Qbv _);simp only[List.drop_zero]at this;refine Ev.to this ?_;split;rename_i h;exact h.symm;simp
theorem yk4{l:List B8}{s:B8}(hb:l.length<=8388608):Ev (λn=>kz8 n l s) (atI l s):=by
 rw[z8u];exact yme (L:=λn k=>kza n k l s (l.length:Int)) (p:=λx=>s==x) (λx=>by simp;exact eq_comm) hb λn k=>kza.eq_2 _ _ _ _ n
theorem y0t{l:List B8}{s:B8}:atI l s<0↔s∉l:=by
 induction l with
 |nil=>simp[atI]
 |cons x l ih=>
  rw[zib];by_cases h:x=s;subst h;simp;have:s∉x::l↔s∉l:=by simp[Ne.symm h]
  rw[Qby h,this,<-ih];split;rename_i q;simp[q];have : -1<=atI l s:=by unfold atI;split <;> omega
  omega
theorem zue{l:List B8}{s:B8}(h:s∈l):∃i:Nat,∃(hi:i<l.length),atI l s=(i:Int)∧l[i]=s∧∀j (hj:j<i),l[j]'(by omega)≠s:=by
 induction l with
 |nil=>cases h
 |cons x l ih=>
  rw[zib];by_cases q:x=s;exact⟨0,by simp,by simp[q],by simpa using q,λj hj=>by omega⟩
  have hm:s∈l:=by rcases Qbl.1 h with h|h;· exact(q h.symm).elim
                  exact h
  obtain⟨i,hi,h1,h2,h3⟩:=ih hm;refine⟨i+1,by simp;omega,?_,by simpa using h2,λj hj =>?_⟩;rw[Qby q,h1,Qby (by omega)];omega
  cases j with
  |zero=>simpa using q
  |succ j=>simpa using h3 j (by omega)
theorem zqi{α β γ:Type}{L:Nat->Int->List β->Option γ}{xs:List α}{g:α->List β}{v:γ}{s0:List β}{B:Nat}(hB:s0.length+(xs.flatMap g).length<=B)
  (he:Ev (λn=>L n (xs.length:Int) (s0++xs.flatMap g)) v)
  (hs:∀k (h:k<xs.length) s,s.length+(g xs[k]).length<=B->Ev (λn=>L n ((k+1:Nat):Int) (s++g xs[k])) v->Ev (λn=>L n (k:Int) s) v):Ev (λn=>L n 0 s0) v:=by
 have:∀m k,k+m=xs.length->∀s,s.length+((xs.drop k).flatMap g).length<=B->s++(xs.drop k).flatMap g=s0++xs.flatMap g->Ev (λn=>L n (k:Int) s) v:=λm=>by
  induction m with
  |zero=>
   intro k hk s hi hf;have hkl:k=xs.length:=by omega
   subst hkl;rw[List.drop_length]at hf;simp only[List.flatMap_nil,List.append_nil]at hf
   rw[hf];exact he
  |succ m ih=>
   intro k hk s hi hf;have hlt:k<xs.length:=by omega
   rw[<-Qah (h:=hlt),List.flatMap_cons,Qap]at hi;rw[<-Qah (h:=hlt),List.flatMap_cons,<-Qaz]at hf;exact hs k hlt s (by omega) (ih (k+1) (by omega) _ (by rw[Qap];omega) hf)
 simpa using this xs.length 0 (by omega) s0 (by simpa using hB) (by simp)
theorem zia{α β:Type}{f:α->Nat}{g:α->List β}:∀{l:List α},(∀x∈l,(g x).length<=f x)->(l.flatMap g).length<=(l.map f).sum
 |[],_=>by simp
 |x::l,h=>by
  have h1:=h x Qak;have h2:=zia (f:=f) (g:=g) (l:=l) λy hy=>h y (Qai _ hy)
  simp only[List.flatMap_cons,Qap,List.map_cons,List.sum_cons];omega
def y3t(x:zzj):List (B8×Int):=[(x.name,(x.args.length:Int)-1)]
def zmf(a:kz3):List (B8×Int):=(if a.name=[]then []else [(a.name,(a.args.length:Int)-own a.kind)])++a.items.flatMap y3t
def y2v(c:kz6):List (B8×Int):=c.do_.flatMap zmf
def zzd(r:yz5):List (B8×Int):=r.cases.flatMap y2v
theorem ygw(a:kz3):(zmf a).length<=a.size:=by
 have h:=zia (f:=zzj.size) (g:=y3t) (l:=a.items) λx _=>by rw[zzj.size_eq];show 1<=_;omega
 rw[kz3.size_eq,zmf,Qap];split <;> simp only[List.length_cons,Qcc] <;> omega
theorem yg0(c:kz6):(y2v c).length<=c.size:=by
 have h:=zia (f:=kz3.size) (g:=zmf) (l:=c.do_) λx _=>ygw x
 rw[kz6.size_eq];unfold y2v;omega
theorem zhw(r:yz5):(zzd r).length<=r.size:=by
 have h:=zia (f:=kz6.size) (g:=y2v) (l:=r.cases) λx _=>yg0 x
 rw[yz5.size_eq];unfold zzd;omega
def toT(x:B8×Int):yzq:=⟨x.1,x.2⟩
theorem own_b(k:Int):0<=own k∧own k<=3:=by unfold own;split <;> (try split) <;> omega
theorem ym3{a k:Int}(h0:0<=a)(h1:a<=8000000)(h2:0<=k)(h3:k<=3):IntKind.i64.wrap (a-k)=a-k:=wI (by omega)
theorem zoo{r:yz5}(hs:r.size<=8000000):Ev (λn=>z55 n r) ((zzd r).map toT):=by
 have hlen:=zhw r;have hmap:(zzd r).map toT=r.cases.flatMap λc=>c.do_.flatMap λa=>(zmf a).map toT:=by simp only[zzd,y2v,List.map_flatMap]
 have:=@y7i r;rw[y3i]
 refine zqi (L:=λn k s=>z2o n k r.cases (r.cases.length:Int) s) (xs:=r.cases) (g:=λc=>c.do_.flatMap λa=>(zmf a).map toT) (B:=8000000) (by rw[<-hmap];simp;omega) (by
  rw[zjg,Ev.zz3 (by simp),Ev.zz1,hmap];rfl) λk hk s hi hv =>?_
 have:=y2q (Qad hk);have:=@y7h r.cases[k];rw[zjg,Ev.kz2 (by simpa using hk),Ev.yz3 (yze hk)]
 refine zqi (L:=λn j s=>z16 n j r.cases[k].do_ r.cases (r.cases.length:Int) (k:Int) (r.cases[k].do_.length:Int) s) (xs:=r.cases[k].do_) (g:=λa=>(zmf a).map toT) (B:=8000000) hi (by
  rw[zji,Ev.zz3 (by simp),wrk (by omega)];exact hv) λj hj s hi hv =>?_
 have:=y80 (Qad hj);generalize hx:r.cases[k].do_[j]=a at *;have:=@ycg a;have:=@ln_aa a;have ho:=own_b a.kind;rw[zmf,List.map_append,Qap]at hi;rw[zmf,List.map_append,<-Qaz]at hv
 have l2:∀t:z5a,t.length+((a.items.flatMap y3t).map toT).length<=8000000->Ev (λn=>z16 n ((j+1:Nat):Int) r.cases[k].do_ r.cases (r.cases.length:Int) (k:Int) (r.cases[k].do_.length:Int) (t++(a.items.flatMap y3t).map toT)) ((zzd r).map toT)->Ev (λn=>z2n n r.cases[k].do_ r.cases (r.cases.length:Int) (k:Int) (r.cases[k].do_.length:Int) (j:Int) t a) ((zzd r).map toT):=λt ht hv=>by
  have hm:(a.items.flatMap y3t).map toT=a.items.flatMap λx=>[(⟨x.name,(x.args.length:Int)-1⟩:yzq)]:=by rw[List.map_flatMap];rfl
  rw[hm]at ht hv;rw[zu8]
  refine zqi (L:=λn i s=>z2m n i a.items r.cases[k].do_ r.cases (r.cases.length:Int) (k:Int) (r.cases[k].do_.length:Int) (j:Int) (a.items.length:Int) s) (xs:=a.items) (g:=λx=>[(⟨x.name,(x.args.length:Int)-1⟩:yzq)]) (B:=8000000) ht (by
   rw[zk9,Ev.zz3 (by simp),wrk (by omega)];exact hv) λi hi s hl hv =>?_
  have:=yc6 (Qad hi);have:=@yqw a.items[i];rw[zk9,Ev.kz2 (by simpa using hi),Ev.yz3 (yze hi),ym3 (by omega) (by omega) (by omega) (by omega),Ev.yz3 (z8c (by simp at hl ⊢;omega)),wrk (by omega)];exact hv
 rw[zji,Ev.kz2 (by simpa using hj),Ev.yz3 (yze hj),hx];by_cases hn:a.name=[];rw[Ev.zz3 (by simp[hn])];rw[Qbx hn]at hv hi;exact l2 s (by simpa using hi) (by simpa using hv);rw[Ev.kz2 (by simpa using hn),Ev.yz1 zwp,ym3 (by omega) (by omega) ho.1 ho.2];rw[Qby hn]at hv hi;rw[Ev.yz3 (z8c (by simp at hi ⊢;omega))];exact l2 _ (by simp at hi ⊢;omega) hv
def znd(a:kz3):zz7:=a.args++a.items.flatMap (·.args)
def znl(c:kz6):zz7:=c.when_::c.do_.flatMap znd
def zt1(r:yz5):zz7:=r.cases.flatMap znl
theorem yg1(a:kz3):(znd a).length<=a.size:=by
 have h:=zia (f:=zzj.size) (g:=λx:zzj=>x.args) (l:=a.items) λx _=>yqw
 have:=zdh a.args;rw[kz3.size_eq,znd,Qap];omega
theorem ygu(c:kz6):(znl c).length<=c.size:=by
 have h:=zia (f:=kz3.size) (g:=znd) (l:=c.do_) λx _=>yg1 x
 rw[kz6.size_eq,znl,List.length_cons];omega
theorem y2k(r:yz5):(zt1 r).length<=r.size:=by
 have h:=zia (f:=kz6.size) (g:=znl) (l:=r.cases) λx _=>ygu x
 rw[yz5.size_eq];unfold zt1;omega
theorem y4f{a:kz3}{e:kz0}(h:e∈znd a):e.size<=a.size∧(a.wf->e.wf):=by
 rcases Qbb.1 h with h|h
 have:=zwk h;have:=@ycn a;exact⟨by omega,λw=>wf_ae w h⟩;obtain⟨x,hx,he⟩:=List.mem_flatMap.1 h;have:=zwk he;have:=@yd6 x;have:=yc6 hx;exact⟨by omega,λw=>wf_xe (yqr w hx) he⟩
theorem y1g{c:kz6}{e:kz0}(h:e∈znl c):e.size<=c.size∧(c.wf->e.wf):=by
 rcases Qbl.1 h with h|h
 subst h;have:=@yhr c;exact⟨by omega,yqi⟩;obtain⟨a,ha,he⟩:=List.mem_flatMap.1 h;have:=y4f he;have:=y80 ha;exact⟨by omega,λw=>(y4f he).2 (yqs w ha)⟩
theorem y30{r:yz5}{e:kz0}(h:e∈zt1 r):e.size<=r.size∧(r.wf->e.wf):=by
 obtain⟨c,hc,he⟩:=List.mem_flatMap.1 h;have:=y1g he;have:=y2q hc;exact⟨by omega,λw=>(y1g he).2 (yqt w hc)⟩
theorem ye2{r:yz5}(hs:r.size<=8000000):Ev (λn=>z8g n r) (zt1 r):=by
 have hlen:=y2k r;have:=@y7i r;rw[y4g]
 refine zqi (L:=λn k s=>z2u n k r.cases (r.cases.length:Int) s) (xs:=r.cases) (g:=znl) (B:=8000000) (by show 0+(zt1 r).length<=_;omega) (by
  rw[zjf,Ev.zz3 (by simp),Ev.zz1];rfl) λk hk s hi hv =>?_
 have:=y2q (Qad hk);have:=@y7h r.cases[k];have e1:s++znl r.cases[k]=(s++[r.cases[k].when_])++r.cases[k].do_.flatMap znd:=by simp[znl]
 rw[e1]at hv;rw[znl,List.length_cons]at hi;rw[zjf,Ev.kz2 (by simpa using hk),Ev.yz3 (yze hk),kz0.yz6,Ev.yz3 (z8c (by simp only[List.length_cons,Qcc];omega))]
 refine zqi (L:=λn j s=>z2i n j r.cases[k].do_ r.cases (r.cases.length:Int) (k:Int) (r.cases[k].do_.length:Int) s) (xs:=r.cases[k].do_) (g:=znd) (B:=8000000) (by simp only[Qap,List.length_cons,Qcc];omega) (by
  rw[zjc,Ev.zz3 (by simp),wrk (by omega)];exact hv) λj hj s hi hv =>?_
 have:=y80 (Qad hj);generalize hx:r.cases[k].do_[j]=a at *;have:=@ycg a;rw[znd,Qap]at hi;rw[znd,<-Qaz]at hv;rw[zjc,Ev.kz2 (by simpa using hj),Ev.yz3 (yze hj),hx,Ev.yz3 (z8c (by omega))]
 refine zqi (L:=λn i s=>z2k n i a.items r.cases[k].do_ r.cases (r.cases.length:Int) (k:Int) (r.cases[k].do_.length:Int) (j:Int) (a.items.length:Int) s) (xs:=a.items) (g:=λx=>x.args) (B:=8000000) (by simp only[Qap];omega) (by
  rw[zk3,Ev.zz3 (by simp),wrk (by omega)];exact hv) λi hi s hl hv =>?_
 rw[zk3,Ev.kz2 (by simpa using hi),Ev.yz3 (yze hi),Ev.yz3 (z8c (by omega)),wrk (by omega)];exact hv
noncomputable def within(K:List B8)(e:kz0):Bool:=(zir e).1.all λs=>decide (s∈K)
theorem ygr(e:kz0)(hs:e.size<=8388608):(zir e).1.length<=8388608:=by
 unfold zir;split;simp;have h1:=ykw e [];have h2:=zqs e;simp only[Qcc]at h1;show(znz e []).length<=_;omega
def MK(m:List (B8×Bool))(K:List B8):Prop:=∀k,(z58 m k).getD false=decide (k∈K)
theorem y1w{α σ:Type}{L:Nat->Int->Option (Int×σ)}{l:List α}{p:α->Bool}{st:σ}
  (he:Ev (λn=>L n (l.length:Int)) (-1,st))
  (hs:∀k (h:k<l.length) v,(p l[k]=true->Ev (λn=>L n (k:Int)) ((k:Int),st))∧(p l[k]=false->Ev (λn=>L n ((k+1:Nat):Int)) v->Ev (λn=>L n (k:Int)) v)) :
  ∃i:Int,Ev (λn=>L n 0) (i,st)∧decide (i>=0)=l.any p:=by
 have:∀k,k<=l.length->∃i:Int,Ev (λn=>L n (k:Int)) (i,st)∧decide (i>=0)=(l.drop k).any p :=
  down ⟨-1,he,by simp⟩ λk hk ⟨i,h1,h2⟩=>by
   obtain⟨a1,a2⟩:=hs k hk (i,st)
   cases hp:p l[k]with
   |true=>exact⟨k,a1 hp,by rw[<-Qah (h:=hk),List.any_cons,hp];simp⟩
   |false=>exact⟨i,a2 hp h1,by rw[<-Qah (h:=hk),List.any_cons,hp,h2];simp⟩
 simpa using this 0 (Qbv _)
theorem y3o{e:kz0}{m:List (B8×Bool)}{K:List B8}(hm:MK m K)(hw:e.wf)(hs:e.size<=8388608):Ev (λn=>z81 n e (mks m) (mvs m)) (!within K e,mks m,mvs m):=by
 have hl:=ygr e hs
 obtain⟨i,h1,h2⟩:=y1w (L:=λn k=>yz9 n k (zir e).1 ((zir e).1.length:Int) (mks m) (mvs m)) (l:=(zir e).1) (p:=λs => !decide (s∈K)) (st:=(mks m,mvs m))
  (by rw[z09,Ev.zz3 (by simp),Ev.zz1,kz5]) λk hk v=>by
   have hf:Ev (λn=>z79 n (zir e).1[k] (mks m) (mvs m)) (!decide ((zir e).1[k]∈K),mks m,mvs m):=by
    rw[y03,Ev.zz1,kz5,hm]
   constructor;intro hp;rw[z09,Ev.kz2 (by simpa using hk),Ev.yz3 (yze hk),kz5,Ev.yz1 hf,Ev.kz2 hp,Ev.zz1,kz5];intro hp hv;rw[z09,Ev.kz2 (by simpa using hk),Ev.yz3 (yze hk),kz5,Ev.yz1 hf,Ev.zz3 hp,kz5,wrk (by omega)];exact hv
 have hc:Ev (λn=>zze n (zir e).1 (mks m) (mvs m)) (!within K e,mks m,mvs m):=by
  rw[zam,kz5,Ev.yz1 (by rw[zc5,kz5];exact h1),Ev.zz1,h2,kz5,within,<-List.not_all_eq_any_not]
 rw[y6j,kz0.yz6,Ev.yz1 (yg5 hw hs),kz5,Ev.yz1 hc,Ev.zz1,kz5]
theorem y2u{l:zz7}{m:List (B8×Bool)}{K:List B8}(hm:MK m K)(hw:∀e∈l,e.wf)(hs:∀e∈l,e.size<=8388608)(hl:l.length<=8388608):Ev (λn=>zzc n l (mks m) (mvs m)) (!l.all (within K),mks m,mvs m):=by
 obtain⟨i,h1,h2⟩:=y1w (L:=λn k=>yz7 n k l (l.length:Int) (mks m) (mvs m)) (l:=l) (p:=λe => !within K e) (st:=(mks m,mvs m))
  (by rw[z01,Ev.zz3 (by simp),Ev.zz1,kz5]) λk hk v=>by
   have hx:=Qad hk
   have hf:Ev (λn=>z6j n l[k] (mks m) (mvs m)) (!within K l[k],mks m,mvs m):=by
    rw[zww,kz5,kz0.yz6,Ev.yz1 (y3o hm (hw _ hx) (hs _ hx)),Ev.zz1,kz5]
   constructor;intro hp;rw[z01,Ev.kz2 (by simpa using hk),Ev.yz3 (yze hk),kz5,kz0.yz6,Ev.yz1 hf,Ev.kz2 hp,Ev.zz1,kz5];intro hp hv;rw[z01,Ev.kz2 (by simpa using hk),Ev.yz3 (yze hk),kz5,kz0.yz6,Ev.yz1 hf,Ev.zz3 hp,kz5,wrk (by omega)];exact hv
 rw[za4,kz5,Ev.yz1 (by rw[zb8,kz5];exact h1),Ev.zz1,h2,kz5,<-List.not_all_eq_any_not]
theorem ynx{l:List B8}:(∃k,∃h:k<l.length,atI l l[k]<(k:Int))↔¬l.Nodup:=by
 constructor
 rintro ⟨k,hk,h⟩ hn
 obtain⟨i,hi,h1,h2,_⟩:=zue (Qad hk);have:=(List.getElem_inj hn).1 h2;omega;intro h;rw[List.nodup_iff_pairwise_ne,List.pairwise_iff_getElem]at h;simp only[Classical.not_forall]at h;obtain⟨i,j,hi,hj,hij,h⟩:=h;have h:=Classical.not_not.1 h;refine⟨j,hj,?_⟩;obtain⟨a,ha,h1,h2,h3⟩:=zue (Qad hj);rw[h1];have:a<=i:=Nat.le_of_not_lt λq=>h3 i q (by rw[h])
 omega
noncomputable def dup(l:List B8):Bool:=@decide (¬l.Nodup) (Classical.propDecidable _)
theorem y84{l:List B8}:dup l=true↔¬l.Nodup:=@decide_eq_true_iff _ (Classical.propDecidable _)
theorem yic{l:List B8}:dup l=false↔l.Nodup:=by rw[<-Bool.not_eq_true,y84,Classical.not_not]
noncomputable def y9t(p:yz0):Bool:=dup (z0p p)||(dup (kz4 p)||p.rules.any λr=>dup (r.params++z0p p))
noncomputable def kA:List B8->zzx->Bool
 |_,[]=>true
 |pre,t::l=>within pre t.value&&kA (pre++[t.name]) l
def scope(p:yz0)(r:yz5):List B8:=([[115,120],[115,121],[115,122]]++z0p p)++r.params
noncomputable def kR(p:yz0)(r:yz5):Bool:=(zt1 r).all (within (scope p r))&&(zzd r).all λc=>decide (c.1∈kz4 p)
noncomputable def zx7(p:yz0):Bool:=kA [] p.attrs&&p.rules.all (kR p)
def ydl(p:yz0)(s:B8):Int:=match p.rules[(atI (kz4 p) s).toNat]? with
 |some r=>r.params.length
 |none => -1
def zat(p:yz0)(r:yz5):Bool:=(zzd r).any λc=>decide (c.1∈kz4 p)&&(c.2 != ydl p c.1)
def zq2(p:yz0):Bool:=p.rules.any (zat p)
noncomputable def z1o(p:yz0):Int:=if zxx p=true then 4 else if zh7 p=true then (if y9t p=true then 14 else if zx7 p=true then (if zq2 p=true then 2 else 0)else 6)else 8
theorem zj2{p:yz0}{k:Nat}(h:k<p.attrs.length):(z0p p).take (k+1)=(z0p p).take k++[p.attrs[k].name]:=by
 rw[List.take_add_one];simp only[z0p,Qan,Qab h,Qbr,Option.toList_some]
theorem zp3{p:yz0}{k:Nat}(h:k<p.rules.length):(kz4 p).take (k+1)=(kz4 p).take k++[p.rules[k].name]:=by
 rw[List.take_add_one];simp only[kz4,Qan,Qab h,Qbr,Option.toList_some]
theorem zqn{p:yz0}{s:B8}(h:s∈kz4 p):∃i:Nat,∃hi:i<p.rules.length,atI (kz4 p) s=(i:Int)∧p.rules[i].name=s∧ydl p s=(p.rules[i].params.length:Int):=by
 obtain⟨i,hi,h1,h2,_⟩:=zue h;have hi':i<p.rules.length:=by simpa[kz4]using hi
 refine⟨i,hi',h1,by simpa[kz4]using h2,?_⟩;unfold ydl;rw[h1,Int.toNat_natCast,Qab hi']
section
variable {T : Type}
theorem zhn(q:B8×T)(m:List (B8×T))(k:B8):z58 (q::m) k=if k=q.1 then some q.2 else z58 m k:=by
 unfold z58;rw[List.find?_cons];by_cases h:k=q.1;simp[h];have:(k==q.1)=false:=by simpa using h
 rw[this,Qby h]
theorem ykv(q:B8×T)(m:List (B8×T))(k:B8)(x:T):z8l (q::m) k x=if k=q.1 then (k,x)::m else q::z8l m k x:=by
 unfold z8l;rw[List.findIdx?_cons];by_cases h:k=q.1;simp[h];have:(k==q.1)=false:=by simpa using h
 rw[this,Qby h];simp only[Bool.false_eq_true,if_false];cases List.findIdx? (λp=>k==p.1) m <;> simp
theorem y37(m:List (B8×T))(k k':B8)(x:T):z58 (z8l m k x) k'=if k'=k then some x else z58 m k':=by
 induction m with
 |nil=>show z58 [(k,x)] k'=_;rw[zhn]
 |cons q m ih=>
  rw[ykv];by_cases h:k=q.1;rw[Qbx h,zhn,zhn];by_cases h2:k'=k;simp[h2];rw[Qby h2,Qby h2,Qby (λz=>h2 (z.trans h.symm))];rw[Qby h,zhn,ih,zhn];by_cases h2:k'=q.1;rw[Qbx h2,Qbx h2,Qby (λz=>h (z.symm.trans h2))];rw[Qby h2,Qby h2]
theorem y83{m:List (B8×T)}{k:B8}:z58 m k=none↔k∉mks m:=by
 induction m with
 |nil=>simp[z58,mks]
 |cons q m ih=>
  rw[zhn];show _↔k∉q.1::mks m;by_cases h:k=q.1;simp[h];rw[Qby h,ih];simp[h]
end
theorem yho{T:Type}:∀{es:List (B8×T)}{i:Nat}(h:i<es.length) (s:B8),s∈mks es↔s=es[i].1∨s∈mks (es.eraseIdx i)
 |[],_,h,_=>by cases h
 |q::es,0,_,s=>by show s∈q.1::mks es↔_;rw[Qbl];exact Iff.rfl
 |q::es,i+1,h,s=>by
  show s∈q.1::mks es↔s=(es[i]'(by simpa using h)).1∨s∈q.1::mks (es.eraseIdx i);rw[Qbl,Qbl,yho (es:=es) (i:=i) (by simpa using h) s];exact or_left_comm
def TM(m:List (B8×Bool))(K:List B8):Prop:=∀k,z58 m k=if k∈K then some true else none
theorem TM.mk{m:List (B8×Bool)}{K:List B8}(h:TM m K):MK m K:=λk=>by
 rw[h k];by_cases q:k∈K <;> simp[q]
theorem TM.nil:TM [] []:=λk=>by simp[z58]
theorem TM.put{m:List (B8×Bool)}{K:List B8}(h:TM m K)(s:B8):TM (z8l m s true) (K++[s]):=λk=>by
 rw[y37,h k];by_cases q:k=s <;> simp[q]
theorem TM.keys{m:List (B8×Bool)}{K:List B8}(h:TM m K)(s:B8):s∈mks m↔s∈K:=by
 have:=h s;by_cases q:s∈K;rw[Qbx q]at this;exact⟨λ_=>q,λ_=>Classical.byContradiction λz=>by rw[y83.2 z]at this;cases this⟩;rw[Qby q]at this;exact⟨λz=>(y83.1 this z).elim,λz=>(q z).elim⟩
theorem MK.put{m:List (B8×Bool)}{K:List B8}(h:MK m K)(s:B8):MK (z8l m s true) (K++[s]):=λk=>by
 rw[y37];by_cases q:k=s;simp[q];rw[Qby q,h k];simp[q]
theorem MK.ext{m:List (B8×Bool)}{K J:List B8}(h:MK m K)(e:∀s,s∈K↔s∈J):MK m J:=λk=>by rw[h k];exact decide_eq_decide.2 (e k)
def RM(m:List (B8×Int))(K:List B8):Prop:=∀k,z58 m k=if k∈K then some (atI K k)else none
theorem RM.nil:RM [] []:=λk=>by simp[z58]
theorem yn8{K:List B8}{s:B8}(h:s∉K)(k:B8):atI (K++[s]) k=if k=s then (K.length:Int)else atI K k:=by
 induction K with
 |nil=>show atI [s] k=_;rw[zib];by_cases q:s=k
       simp[q]
       rw[Qby q,Qby (Ne.symm q)];simp[atI]
 |cons x K ih=>
  have hx:x≠s:=λe=>h (by rw[e];exact Qak)
  have:=ih λz=>h (Qai _ z)
  rw[List.cons_append,zib,zib,this];by_cases q:k=s;subst q;rw[Qby hx,Qbx rfl,Qbx rfl,Qby (by omega)];simp;simp only[Qby q]
theorem RM.put{m:List (B8×Int)}{K:List B8}(h:RM m K){s:B8}(hs:s∉K):RM (z8l m s (K.length:Int)) (K++[s]):=λk=>by
 rw[y37,h k,yn8 hs];by_cases q:k=s;simp[q];simp[q]
theorem Ev.pick{α R:Type}{es:List (B8×α)}{f:Nat->B8->α->List (B8×α)->Option R}{g:Nat->Option R}{r:R}
  (h0:es=[]->Ev g r) (h1:∀i (h:i<es.length),Ev (λn=>f n es[i].1 es[i].2 (es.eraseIdx i)) r):Ev (λn=>zxw es (f n) (g n)) r:=by
 have hz:∃N,∀m,N<=m->(es=[]->g m=some r):=by
  by_cases he:es=[];obtain⟨N,hN⟩:=h0 he;exact⟨N,λm hm _=>hN m hm⟩;exact⟨0,λ_ _ h=>(he h).elim⟩
 have hb:∀k,k<=es.length->∃N,∀m,N<=m->∀i (h:i<es.length),i<k->f m es[i].1 es[i].2 (es.eraseIdx i)=some r:=λk=>by
  induction k with
  |zero=>intro _;exact⟨0,λ_ _ _ _ h=>by omega⟩
  |succ k ih=>
   intro hk;obtain⟨N,hN⟩:=ih (by omega);obtain⟨M,hM⟩:=h1 k (by omega);refine⟨max N M,λm hm i hi hik =>?_⟩;by_cases h:i=k;subst h;exact hM m (by omega);exact hN m (by omega) i hi (by omega)
 obtain⟨N,hN⟩:=hz;obtain⟨M,hM⟩:=hb es.length (Qbw _);refine⟨max N M,λm hm=>yln (hN m (by omega)) λi p hp =>?_⟩;obtain⟨hi,rfl⟩:=Qaa.1 hp;exact hM m (by omega) i hi hi
theorem yla{γ:Type}{L:Nat->Int->Option γ}{len:Nat}{p:Nat->Bool}{got r:γ}{b:Bool}(hb:b=true↔∃j,j<len∧p j=true)
  (he:Ev (λn=>L n (len:Int)) r)
  (hs:∀k (h:k<len) v,Ev (λn=>L n ((k+1:Nat):Int)) v->Ev (λn=>L n (k:Int)) (if p k=true then got else v)):Ev (λn=>L n 0) (if b=true then got else r):=by
 have:∀k,k<=len->∀b:Bool,(b=true↔∃j,k<=j∧j<len∧p j=true)->Ev (λn=>L n (k:Int)) (if b=true then got else r) :=
  down (λb hb=>by rw[Qby λh=>by obtain⟨j,h1,h2,_⟩:=hb.1 h;omega];exact he) λk hk ih b hb=>by
   cases h:p k with
   |true=>
    rw[Qbx (hb.2 ⟨k,Qbw _,hk,h⟩)];have:=hs k hk _ (ih (@decide _ (Classical.propDecidable _)) (@decide_eq_true_iff _ (Classical.propDecidable _)))
    rwa[Qbx h]at this
   |false=>
    have hb':b=true↔∃j,k+1<=j∧j<len∧p j=true:=by
     rw[hb];constructor
     rintro ⟨j,h1,h2,h3⟩
     refine⟨j,?_,h2,h3⟩
     rcases Nat.lt_or_ge k j with q|q
     exact q;have e:j=k:=by omega
     subst e;rw[h]at h3;cases h3
     rintro ⟨j,h1,h2⟩
     exact⟨j,by omega,h2⟩
    have:=hs k hk _ (ih b hb');rwa[Qby (by simp[h])]at this
 have:=this 0 (Qbv _) b (by rw[hb];exact⟨λ⟨j,h⟩=>⟨j,Qbv _,h⟩,λ⟨j,_,h⟩=>⟨j,h⟩⟩);simpa using this
noncomputable def yj0(p:yz0)(r:yz5)(k:Nat):Bool:=if h:k<r.params.length then decide (r.params[k]∈z0p p)||decide (atI r.params r.params[k]<(k:Int))else false
noncomputable def ykq(p:yz0)(r:yz5):Bool:=dup (r.params++z0p p)
theorem ymg{p:yz0}{r:yz5}(ha:(z0p p).Nodup):ykq p r=true↔∃j,j<r.params.length∧yj0 p r j=true:=by
 unfold ykq;rw[y84,List.nodup_append];constructor;intro h;by_cases hp:r.params.Nodup;have:¬∀a∈r.params,∀b∈z0p p,a≠b:=λz=>h ⟨hp,ha,z⟩
 simp only[Classical.not_forall,Classical.not_not]at this;obtain⟨a,h1,b,h2,h3⟩:=this;obtain⟨j,hj,e⟩:=List.mem_iff_getElem.1 h1;refine⟨j,hj,?_⟩;unfold yj0;rw[dif_pos hj,e,h3,Qbt h2];rfl;obtain⟨k,hk,h⟩:=ynx.2 hp;refine⟨k,hk,?_⟩;unfold yj0;rw[dif_pos hk,Qbt h,Bool.or_true]
 rintro ⟨j,hj,h⟩ ⟨h1,_,h3⟩
 unfold yj0 at h;rw[dif_pos hj,Bool.or_eq_true]at h
 rcases h with h|h
 exact h3 _ (Qad hj) _ (Qac h) rfl;exact(ynx.1 ⟨j,hj,Qac h⟩) h1
theorem y1s{l:List B8}{k:Nat}(h:l.Nodup):(l.take k).Nodup:=h.sublist (List.take_sublist k l)
theorem ygi{p:yz0}(hw:p.wf)(hs:p.size<=4000000){m:List (B8×Bool)}{m2:List (B8×Int)}(hm:TM m (z0p p))(hm2:RM m2 (kz4 p))(u:Bool) :
  Ev (λn=>z15 n false 0 u (mks m) (mvs m) p.rules (p.rules.length:Int) p (mks m2) (mvs m2)) (if (u || !p.rules.all (kR p))=true then 6 else if zq2 p=true then 2 else 0):=by
 have:=@y79 p;have:=@zso p;have hr:(kz4 p).length=p.rules.length:=by simp[kz4]
 have main:∀k,k<=p.rules.length->∀w u:Bool,Ev (λn=>z15 n w (k:Int) u (mks m) (mvs m) p.rules (p.rules.length:Int) p (mks m2) (mvs m2)) (if (u || !(p.rules.drop k).all (kR p))=true then 6 else if (w||(p.rules.drop k).any (zat p))=true then 2 else 0) :=
  down (λw u=>by
   rw[zjb,Ev.zz3 (by simp),List.drop_length,Ev.pif,Ev.pif,Ev.zz1,Ev.zz1,Ev.zz1]
   cases u <;> cases w <;> simp) λk hk ih w u=>by
   have hmem:=Qad hk;have:=zuw hmem;have hwr:=yqp hw hmem;have:=@y85 p.rules[k];have hcl:=zhw p.rules[k];have hxl:=y2k p.rules[k]
   have l9:∀u:Bool,Ev (λn=>z2z n w u (mks m) (mvs m) p.rules (p.rules.length:Int) (k:Int) p (mks m2) (mvs m2) p.rules[k]) (if ((u || !(zzd p.rules[k]).all λc=>decide (c.1∈kz4 p)) || !(p.rules.drop (k+1)).all (kR p))=true then 6 else if ((w||zat p p.rules[k])||(p.rules.drop (k+1)).any (zat p))=true then 2 else 0):=λu=>by
    have hT:((zzd p.rules[k]).map toT).length=(zzd p.rules[k]).length:=by simp
    rw[zvq,Ev.yz1 (zoo (by omega)),kz5,kz5]
    have loop:∀j,j<=(zzd p.rules[k]).length->∀w u:Bool,Ev (λn=>z32 n (j:Int) w u ((zzd p.rules[k]).map toT) (mks m) (mvs m) p.rules (p.rules.length:Int) (k:Int) (((zzd p.rules[k]).map toT).length:Int) p (mks m2) (mvs m2)) (if ((u || !((zzd p.rules[k]).drop j).all λc=>decide (c.1∈kz4 p)) || !(p.rules.drop (k+1)).all (kR p))=true then 6 else if ((w||((zzd p.rules[k]).drop j).any λc=>decide (c.1∈kz4 p)&&(c.2 != ydl p c.1))||(p.rules.drop (k+1)).any (zat p))=true then 2 else 0) :=
     down (λw u=>by
      rw[zjm,Ev.zz3 (by simp),wrk (by omega),kz5,kz5,List.drop_length]
      simpa using ih w u) λj hj ihj w u=>by
      have hj':j<((zzd p.rules[k]).map toT).length:=by simpa using hj
      have l11:∀w u:Bool,Ev (λn=>z0j n w u ((zzd p.rules[k]).map toT) (mks m) (mvs m) p.rules (p.rules.length:Int) (k:Int) (((zzd p.rules[k]).map toT).length:Int) (j:Int) p (mks m2) (mvs m2)) _:=λw u=>by
       rw[zt4,wrk (by omega),kz5,kz5];exact ihj w u
      have hget:=hm2 (zzd p.rules[k])[j].1
      have l10:∀u:Bool,Ev (λn=>z1q n u ((zzd p.rules[k]).map toT) (mks m) (mvs m) p.rules (p.rules.length:Int) (k:Int) (((zzd p.rules[k]).map toT).length:Int) (j:Int) (Option.getD (z58 m2 (zzd p.rules[k])[j].1) 0) (Option.isSome (z58 m2 (zzd p.rules[k])[j].1)) w p (mks m2) (mvs m2) (toT (zzd p.rules[k])[j])) (if ((u || !((zzd p.rules[k]).drop (j+1)).all λc=>decide (c.1∈kz4 p)) || !(p.rules.drop (k+1)).all (kR p))=true then 6 else if (((w||(decide ((zzd p.rules[k])[j].1∈kz4 p)&&((zzd p.rules[k])[j].2 != ydl p (zzd p.rules[k])[j].1)))||((zzd p.rules[k]).drop (j+1)).any λc=>decide (c.1∈kz4 p)&&(c.2 != ydl p c.1))||(p.rules.drop (k+1)).any (zat p))=true then 2 else 0):=λu=>by
       rw[ztp,kz5,kz5]
       cases w with
       |true=>rw[Ev.kz2 rfl,Bool.true_or];exact l11 true u
       |false=>
        rw[Ev.zz3 rfl,Bool.false_or];by_cases hin:(zzd p.rules[k])[j].1∈kz4 p;obtain⟨i,hi,h1,h2,h3⟩:=zqn hin;rw[hget,Qbx hin,Qbt hin,Bool.true_and,h3,h1];show Ev (λn=>pIf true ((ix p.rules (i:Int)).bind _) _) _;rw[Ev.kz2 rfl,Ev.yz3 (yze hi)];exact l11 _ u;rw[hget,Qby hin,Qbs hin,Bool.false_and];show Ev (λn=>pIf false _ _) _;rw[Ev.zz3 rfl];exact l11 false u
      rw[zjm,Ev.kz2 (by simpa using hj),Ev.yz3 (yze hj'),List.getElem_map,kz5,kz5,<-Qah (h:=hj),List.all_cons,List.any_cons]
      cases u with
      |true=>rw[Ev.kz2 rfl];exact(l10 true).to (by simp)
      |false=>
       rw[Ev.zz3 rfl]
       have e:Option.isSome (z58 m2 (toT (zzd p.rules[k])[j]).name)=decide ((zzd p.rules[k])[j].1∈kz4 p):=by
        show Option.isSome (z58 m2 (zzd p.rules[k])[j].1)=_;rw[hget];by_cases q:(zzd p.rules[k])[j].1∈kz4 p <;> simp[q]
       have:=l10 (!decide ((zzd p.rules[k])[j].1∈kz4 p));have e2:Option.isSome (z58 m2 (zzd p.rules[k])[j].1)=decide ((zzd p.rules[k])[j].1∈kz4 p):=e;rw[e2]at this;rw[Bool.false_or,e];exact this.to (by rw[Bool.not_and,Bool.or_assoc w])
    have:=loop 0 (Qbv _) w u;rw[List.drop_zero]at this;exact this
   have l7:∀d,MK d ([[115,120],[115,121],[115,122]]++z0p p)->Ev (λn=>z1a n 0 p.rules[k].params w (mks m) (mvs m) p.rules (p.rules.length:Int) (k:Int) u (p.rules[k].params.length:Int) p (mks m2) (mvs m2) p.rules[k] (mks d) (mvs d)) (if ((u || !kR p p.rules[k]) || !(p.rules.drop (k+1)).all (kR p))=true then 6 else if ((w||zat p p.rules[k])||(p.rules.drop (k+1)).any (zat p))=true then 2 else 0):=λd hd=>by
    have loop:∀j,j<=p.rules[k].params.length->∀d,MK d (([[115,120],[115,121],[115,122]]++z0p p)++p.rules[k].params.take j)->Ev (λn=>z1a n (j:Int) p.rules[k].params w (mks m) (mvs m) p.rules (p.rules.length:Int) (k:Int) u (p.rules[k].params.length:Int) p (mks m2) (mvs m2) p.rules[k] (mks d) (mvs d)) (if ((u || !kR p p.rules[k]) || !(p.rules.drop (k+1)).all (kR p))=true then 6 else if ((w||zat p p.rules[k])||(p.rules.drop (k+1)).any (zat p))=true then 2 else 0) :=
     down (λd hd=>by
      rw[List.take_length]at hd;rw[zjd,Ev.zz3 (by simp),kz5,kz5,kz5]
      cases u with
      |true=>rw[Ev.kz2 rfl];have:=l9 true;simpa using this
      |false=>
       rw[Ev.zz3 rfl,Ev.yz1 (ye2 (by omega)),Ev.yz1 (y2u (K:=scope p p.rules[k]) hd (λe he=>(y30 he).2 hwr) (λe he=>by have:=(y30 he).1;omega) (by omega))];have:=l9 (!(zt1 p.rules[k]).all (within (scope p p.rules[k])));rw[<-Bool.not_and]at this;rw[Bool.false_or,kR]
       exact this) λj hj ihj d hd=>by
      rw[zjd,Ev.kz2 (by simpa using hj),Ev.yz3 (yze hj),wrk (by omega),kz5,kz5,kz5];refine ihj _ ((hd.put p.rules[k].params[j]).ext λs =>?_);rw[Qaz,z29 hj]
    exact loop 0 (Qbv _) d (by simpa using hd)
   have l6:∀len,∀es:List (B8×Bool),es.length=len->∀d D,MK d D->(∀s,(s∈D∨s∈mks es)↔s∈[[115,120],[115,121],[115,122]]++z0p p)->Ev (λn=>z2v n w (mks m) (mvs m) p.rules (p.rules.length:Int) (k:Int) u (mks es) (mvs es) p (mks m2) (mvs m2) p.rules[k] (mks d) (mvs d)) (if ((u || !kR p p.rules[k]) || !(p.rules.drop (k+1)).all (kR p))=true then 6 else if ((w||zat p p.rules[k])||(p.rules.drop (k+1)).any (zat p))=true then 2 else 0):=λlen=>by
    induction len with
    |zero=>
     intro es he d D hd hD;have he:=List.length_eq_zero_iff.1 he;subst he;rw[zkf];refine Ev.pick (λ_ =>?_) λi hi=>by cases hi
     rw[kz5,kz5,kz5]
     exact l7 d (hd.ext λs=>by rw[<-hD s];simp[mks])
    |succ len ihl=>
     intro es he d D hd hD;rw[zkf,kz5,kz5,kz5,kz5];refine Ev.pick (λh=>by rw[h]at he;cases he) λi hi =>?_
     refine ihl (es.eraseIdx i) (by rw[List.length_eraseIdx_of_lt hi];omega) _ _ (hd.put es[i].1) λs =>?_
     rw[<-hD s,Qbb,Qbc];rw[yho hi s,or_assoc]
   rw[zjb,Ev.kz2 (by simpa using hk),Ev.yz3 (yze hk),kz5,kz5,<-Qah (h:=hk),List.all_cons,List.any_cons,Bool.not_and,<-Bool.or_assoc,<-Bool.or_assoc];refine l6 m.length m rfl _ [[115,120],[115,121],[115,122]] ?_ λs =>?_
   have h0:MK [] []:=λk=>by simp[z58]
   exact((h0.put _).put _).put _;rw[hm.keys,Qbb]
 have:=main 0 (Qbv _) false u;rw[List.drop_zero,Bool.false_or]at this;exact this
theorem zjy{p:yz0}(hw:p.wf)(hs:p.size<=4000000):Ev (λn=>z1d n p) (z1o p):=by
 have:=@y79 p;have:=@zso p;have hal:(z0p p).length=p.attrs.length:=by simp[z0p]
 have hrl:(kz4 p).length=p.rules.length:=by simp[kz4]
 have l2:∀(m:List (B8×Bool)) (u:Bool),TM m (z0p p)->(z0p p).Nodup->∀k,k<=p.rules.length->∀m2,RM m2 ((kz4 p).take k)->((kz4 p).take k).Nodup->Ev (λn=>z2j n (k:Int) p.rules u (p.rules.length:Int) (mks m) (mvs m) (mks m2) (mvs m2) p) (if (dup (kz4 p)||(p.rules.drop k).any (ykq p))=true then 14 else if (u || !p.rules.all (kR p))=true then 6 else if zq2 p=true then 2 else 0):=λm u hm hn=>
  down (λm2 hm2 hn2=>by
   rw[<-hrl,List.take_length]at hm2 hn2;rw[zk2,Ev.zz3 (by simp),kz5,kz5,List.drop_length,yic.2 hn2]
   exact ygi hw hs hm hm2 u) λk hk ih m2 hm2 hn2=>by
   have hmem:=Qad hk;have:=zuw hmem;have:=@y85 p.rules[k];have hget:=hm2 p.rules[k].name;rw[zk2,Ev.kz2 (by simpa using hk),Ev.yz3 (yze hk),kz5,kz5];by_cases hin:p.rules[k].name∈(kz4 p).take k;rw[hget,Qbx hin,Ev.kz2 (by rfl),Ev.zz1]
   have:dup (kz4 p)=true:=by
    rw[y84];intro hd;have h:=y1s (k:=k+1) hd;rw[zp3 hk,List.nodup_append]at h;exact h.2.2 _ hin _ (Qbc.2 rfl) rfl
   rw[this];rfl;rw[hget,Qby hin,Ev.zz3 (by rfl)];have hlen:((kz4 p).take k).length=k:=by rw[Qay];omega
   have hput:=hm2.put hin;rw[hlen,<-zp3 hk]at hput
   have hnn:((kz4 p).take (k+1)).Nodup:=by
    rw[zp3 hk,List.nodup_append];exact⟨hn2,by simp,λa ha b hb e=>hin (by rw[<-Qbc.1 hb,<-e];exact ha)⟩
   have hv:=ih _ hput hnn
   have l3:=yla (L:=λn j=>z2d n j p.rules[k].params p.rules u (p.rules.length:Int) (k:Int) (p.rules[k].params.length:Int) p.rules[k] (mks m) (mvs m) (mks (z8l m2 p.rules[k].name (k:Int))) (mvs (z8l m2 p.rules[k].name (k:Int))) p) (len:=p.rules[k].params.length) (p:=yj0 p p.rules[k]) (got:=14) (ymg (r:=p.rules[k]) hn) (by
    rw[zja,Ev.zz3 (by simp),wrk (by omega),kz5,kz5];exact hv) λj hj w hw'=>by
    have l4:∀b:Bool,Ev (λn=>z2y n p.rules[k].params p.rules u (p.rules.length:Int) (k:Int) (p.rules[k].params.length:Int) (j:Int) b p.rules[k] (mks m) (mvs m) (mks (z8l m2 p.rules[k].name (k:Int))) (mvs (z8l m2 p.rules[k].name (k:Int))) p) (if b=true then 14 else w):=λb=>by
     cases b;rw[zj7,Ev.zz3 (by rfl),wrk (by omega),kz5,kz5];exact hw';rw[zj7,Ev.kz2 (by rfl),Ev.zz1];rfl
    rw[zja,Ev.kz2 (by simpa using hj),Ev.yz3 (yze hj),kz5,kz5,hm.mk,yj0,dif_pos hj];by_cases h:p.rules[k].params[j]∈z0p p;rw[Qbt h,Ev.kz2 rfl];exact l4 true;rw[Qbs h,Ev.zz3 rfl,Ev.yz1 (yk4 (by omega))];exact l4 _
   refine l3.to ?_;rw[<-Qah (h:=hk),List.any_cons];cases ykq p p.rules[k] <;> cases dup (kz4 p) <;> rfl
 have l0:∀k,k<=p.attrs.length->∀(u:Bool) (m:List (B8×Bool)),TM m ((z0p p).take k)->((z0p p).take k).Nodup->Ev (λn=>z2p n (k:Int) u p.attrs (p.attrs.length:Int) (mks m) (mvs m) (mks ([]:List (B8×Int))) (mvs ([]:List (B8×Int))) p) (if dup (z0p p)=true then 14 else if (dup (kz4 p)||p.rules.any (ykq p))=true then 14 else if ((u || !kA ((z0p p).take k) (p.attrs.drop k)) || !p.rules.all (kR p))=true then 6 else if zq2 p=true then 2 else 0) :=
  down (λu m hm hn=>by
   rw[<-hal,List.take_length]at hm hn;rw[zjh,Ev.zz3 (by simp),kz5,kz5,List.drop_length,yic.2 hn,kA,Qby (by simp)];have:=l2 m u hm hn 0 (Qbv _) [] (by rw[List.take_zero];exact RM.nil) (by rw[List.take_zero];exact List.nodup_nil);rw[List.drop_zero]at this
   simpa using this) λk hk ih u m hm hn=>by
   have hmem:=Qad hk;have:=yhq hmem;have:=@yhz p.attrs[k]
   have l1:∀u:Bool,Ev (λn=>z2f n u p.attrs (p.attrs.length:Int) (k:Int) (mks m) (mvs m) (mks ([]:List (B8×Int))) (mvs ([]:List (B8×Int))) p p.attrs[k]) (if dup (z0p p)=true then 14 else if (dup (kz4 p)||p.rules.any (ykq p))=true then 14 else if ((u || !kA ((z0p p).take (k+1)) (p.attrs.drop (k+1))) || !p.rules.all (kR p))=true then 6 else if zq2 p=true then 2 else 0):=λu=>by
    rw[zvf,kz5,kz5,hm p.attrs[k].name];by_cases hin:p.attrs[k].name∈(z0p p).take k;rw[Qbx hin];show Ev (λn=>pIf true _ _) _;rw[Ev.kz2 rfl,Ev.zz1]
    have:dup (z0p p)=true:=by
     rw[y84];intro hd;have h:=y1s (k:=k+1) hd;rw[zj2 hk,List.nodup_append]at h;exact h.2.2 _ hin _ (Qbc.2 rfl) rfl
    rw[this];rfl;rw[Qby hin];show Ev (λn=>pIf false _ _) _;rw[Ev.zz3 rfl,wrk (by omega)];refine ih u _ ?_ ?_;rw[zj2 hk];exact hm.put _;rw[zj2 hk,List.nodup_append];exact⟨hn,by simp,λa ha b hb e=>hin (by rw[<-Qbc.1 hb,<-e];exact ha)⟩
   rw[zjh,Ev.kz2 (by simpa using hk),Ev.yz3 (yze hk),kz5,kz5,kzh.yz6,kz0.yz6,<-Qah (h:=hk),kA,<-zj2 hk]
   cases u with
   |true=>rw[Ev.kz2 rfl];exact(l1 true).to (by simp)
   |false=>
    rw[Ev.zz3 rfl,Ev.yz1 (y3o hm.mk (yqk hw hmem) (by omega)),kz5];exact(l1 _).to (by rw[Bool.false_or,Bool.not_and])
 have h0:=l0 0 (Qbv _) false [] (by rw[List.take_zero];exact TM.nil) (by rw[List.take_zero];exact List.nodup_nil);rw[y27,Ev.yz1 (yfr (by omega)),z1o];cases zxx p
 case true=>rw[Ev.kz2 (by rfl),Ev.zz1];rfl
 rw[Ev.zz3 (by rfl),Ev.yz1 (yad hw (by omega)),Qby (by simp)];cases zh7 p
 case false=>rw[Ev.kz2 (by rfl),Ev.zz1];rfl
 rw[Ev.zz3 (by rfl),Qbx rfl];refine Ev.to h0 ?_;rw[List.take_zero,List.drop_zero,y9t,zx7];show(if dup (z0p p)=true then _ else if (dup (kz4 p)||p.rules.any λr=>dup (r.params++z0p p))=true then _ else _)=_;cases dup (z0p p) <;> cases (dup (kz4 p)||p.rules.any λr=>dup (r.params++z0p p)) <;> cases kA [] p.attrs <;> cases p.rules.all (kR p) <;> rfl
def zmo(l acc:List B8):List B8:=l.foldl ins acc
theorem ygd{l:List B8}:∀{acc:List B8}{x:B8},x∈zmo l acc↔x∈acc∨x∈l:=by
 induction l with
 |nil=>intro acc x;simp[zmo]
 |cons y l ih=>
  intro acc x;show x∈zmo l (ins acc y)↔_;rw[ih,zuy,Qbl,or_assoc]
theorem y72{l:List B8}:∀{acc:List B8},z89 acc->z89 (zmo l acc):=by
 induction l with
 |nil=>intro acc h;exact h
 |cons y l ih=>intro acc h;exact ih (zmv h)
theorem yb9{l:List B8}(h:z89 l):l.Nodup:=by
 refine List.Pairwise.imp (λ{a b} hab e =>?_) h;subst e;rw[zlb]at hab;cases hab
theorem y2r{l:List B8}(h:l.Pairwise λx y=>Op.bytesLess y x=false):z89 (Lib.compact l)∧∀x,x∈Lib.compact l↔x∈l:=by
 have hd:∀j (hj:j<l.length),l.toArray[j]! = l[j]:=λj hj=>by simp[hj]
 have main:∀m,m<=l.length->z89 (Lib.compactUpTo l.toArray m)∧∀x,x∈Lib.compactUpTo l.toArray m↔x∈l.take m:=λm=>by
  induction m with
  |zero=>intro _;simp[Lib.compactUpTo,z89]
  |succ m ih=>
   intro hm;obtain⟨h1,h2⟩:=ih (by omega);have hlt:m<l.length:=by omega
   rw[Lib.compactUpTo_succ,hd m hlt,<-z29 hlt]
   have hlt':∀x,x∈l.take m->Op.bytesLess l[m] x=false:=λx hx=>by
    rw[<-List.take_append_drop m l]at h;have:=(List.pairwise_append.1 h).2.2 x hx l[m] (by rw[<-Qah (h:=hlt)];exact Qak);exact this
   by_cases hk:Lib.keeps l.toArray m=true;rw[Qbx hk];refine⟨?_,λx=>by rw[Qbb,Qbb,h2]⟩;unfold z89;rw[List.pairwise_append];refine⟨h1,by simp,λx hx y hy =>?_⟩;rw[Qbc.1 hy];have hx:=(h2 x).1 hx;cases hb:Op.bytesLess x l[m];have e:=zln hb (hlt' x hx)
   exfalso
   have hm0:0<m:=by
    rcases Nat.eq_zero_or_pos m with q|q
    subst q;simp at hx;exact q
   have hp:l[m-1]∈l.take m:=List.mem_take_iff_getElem.2 ⟨m-1,by omega,rfl⟩
   have e1:l[m-1]=l[m]:=by
    have a1:=hlt' _ hp;refine zln ?_ a1;obtain⟨i,hi,rfl⟩:=List.mem_take_iff_getElem.1 hx
    have a2:i=m-1∨Op.bytesLess l[m-1] l[i]=false:=by
     rcases Nat.lt_or_ge i (m-1)with q|q
     exact .inr (List.pairwise_iff_getElem.1 h i (m-1) (by omega) (by omega) q);exact .inl (by omega)
    rcases a2 with a2|a2
    subst a2;exact hb;rw[e]at a2;exact a2
   have:Lib.keeps l.toArray m=false:=Lib.keeps_neg hm0 (by rw[hd m hlt,hd (m-1) (by omega),e1]);rw[this]at hk;cases hk;rfl;rw[Qby hk,List.append_nil];refine⟨h1,λx =>?_⟩;rw[h2,Qbb,Qbc];refine⟨.inl,λq=>q.elim id λq =>?_⟩;subst q
   have hm0:0<m:=by
    rcases Nat.eq_zero_or_pos m with q|q
    subst q;exact(hk (Lib.keeps_lt_one _ 0 (by omega))).elim;exact q
   have e:l.toArray[m]! = l.toArray[m-1]! := Classical.byContradiction λz=>hk (Lib.keeps_pos z)
   rw[hd m hlt,hd (m-1) (by omega)]at e;rw[e];exact List.mem_take_iff_getElem.2 ⟨m-1,by omega,rfl⟩
 have:=main l.length (Qbw _);rw[List.take_length]at this;exact this
theorem yky(l:List B8):(z14 l).Pairwise λx y=>Op.bytesLess y x=false:=by
 have hp:(z14 l).Pairwise λx y=>decide (x<=y)=true:=List.pairwise_mergeSort (λa b c h1 h2=>by
  rw[zya,Bool.not_eq_true']at *
  exact y7x h2 h1) (λa b=>by
  rw[zya,zya];cases h:Op.bytesLess b a;rfl
  rw[y4l h];rfl) l
 refine List.Pairwise.imp (λ{x y} h =>?_) hp;rw[zya,Bool.not_eq_true']at h;exact h
theorem yb8(l:List B8):zms (z14 l)=zmo l []:=by
 obtain⟨h1,h2⟩:=y2r (yky l);refine zfc h1 (y72 (by simp[z89])) λx =>?_
 rw[h2,ygd,(z98 l).mem_iff];simp
theorem yp3{α σ:Type}{L:Nat->Int->Option (Int×σ)}{xs:List α}{f:α->B8}{s:B8}{st:σ}(he:Ev (λn=>L n (xs.length:Int)) (-1,st))
  (hs:∀k (h:k<xs.length) v,(f xs[k]=s->Ev (λn=>L n (k:Int)) ((k:Int),st))∧(f xs[k]≠s->Ev (λn=>L n ((k+1:Nat):Int)) v->Ev (λn=>L n (k:Int)) v)):Ev (λn=>L n 0) (atI (xs.map f) s,st):=by
 have:∀k,k<=xs.length->Ev (λn=>L n (k:Int)) (if atI ((xs.drop k).map f) s = -1 then -1 else atI ((xs.drop k).map f) s+k,st) :=
  down (by rw[List.drop_length];exact he) λk hk ih=>by
   obtain⟨h1,h2⟩:=hs k hk (if atI ((xs.drop (k+1)).map f) s = -1 then -1 else atI ((xs.drop (k+1)).map f) s+((k+1:Nat):Int),st);rw[<-Qah (h:=hk),List.map_cons,zib];by_cases q:f xs[k]=s;rw[Qbx q];refine(h1 q).to ?_;simp;rw[Qby q];refine(h2 q ih).to ?_;have h0:=@yoj ((xs.drop (k+1)).map f) s;by_cases z:atI ((xs.drop (k+1)).map f) s = -1;rw[Qbx z,Qbx z,Qbx rfl]
   rw[Qby z,Qby z,Qby (by omega)];have:atI ((xs.drop (k+1)).map f) s+((k+1:Nat):Int)=atI ((xs.drop (k+1)).map f) s+1+(k:Int):=by omega
   rw[this]
 have:=this 0 (Qbv _);rw[List.drop_zero]at this;refine Ev.to this ?_;split;rename_i h;rw[h];simp
theorem y36{p:yz0}{s:B8}(hs:p.size<=4000000):Ev (λn=>z8x n p s) (atI (kz4 p) s):=by
 have:=@zso p
 have h:Ev (λn=>zzf n p.rules s) (atI (kz4 p) s,s):=by
  rw[zb9];refine yp3 (L:=λn k=>kz7 n k p.rules (p.rules.length:Int) s) (xs:=p.rules) (f:=(·.name)) (by rw[yzz,Ev.zz3 (by simp),Ev.zz1]) λk hk v =>?_
  have hf:Ev (λn=>z9t n p.rules[k] s) (p.rules[k].name==s,s):=by rw[y5a,Ev.zz1]
  constructor;intro q;rw[yzz,Ev.kz2 (by simpa using hk),Ev.yz3 (yze hk),Ev.yz1 hf,Ev.kz2 (by simpa using q),Ev.zz1];intro q hv;rw[yzz,Ev.kz2 (by simpa using hk),Ev.yz3 (yze hk),Ev.yz1 hf,Ev.zz3 (by simpa using q),wrk (by omega)];exact hv
 rw[yew,Ev.yz1 h,Ev.zz1]
def zca(r:yz5):List B8:=(zzd r).map (·.1)
def nx(p:yz0)(s:B8):List B8:=match p.rules[(atI (kz4 p) s).toNat]? with
 |some r=>zca r
 |none=>[]
theorem zm0{p:yz0}(h:z1o p=0):zh7 p=true∧(kz4 p).Nodup∧(∀r∈p.rules,∀c∈zca r,c∈kz4 p):=by
 unfold z1o at h;by_cases h1:zxx p=true;rw[Qbx h1]at h;cases h;rw[Qby h1]at h;by_cases h2:zh7 p=true
 case neg=>rw[Qby h2]at h;cases h
 rw[Qbx h2]at h;by_cases h3:y9t p=true;rw[Qbx h3]at h;cases h;rw[Qby h3]at h;by_cases h4:zx7 p=true
 case neg=>rw[Qby h4]at h;cases h
 refine⟨h2,?_,λr hr c hc =>?_⟩;unfold y9t at h3;simp only[Bool.or_eq_true,not_or]at h3;exact yic.1 (by simpa using h3.2.1);have h5:=Qat.1 (Bool.and_eq_true_iff.1 h4).2 r hr;obtain⟨q,hq,rfl⟩:=Qbg.1 hc;exact Qac (Qat.1 (Bool.and_eq_true_iff.1 h5).2 q hq)
theorem yhn{p:yz0}(hn:(kz4 p).Nodup){r:yz5}(hr:r∈p.rules):nx p r.name=zca r:=by
 obtain⟨j,hj,e⟩:=List.mem_iff_getElem.1 hr;have hj':j<(kz4 p).length:=by simpa[kz4]using hj
 have hx:(kz4 p)[j]=r.name:=by simp[kz4,e]
 obtain⟨i,hi,h1,h2,_⟩:=zue (l:=kz4 p) (s:=r.name) (by rw[<-hx];exact Qad hj');have hij:i=j:=(List.getElem_inj hn).1 (by rw[h2,hx]);unfold nx;rw[h1,Int.toNat_natCast,hij,Qab hj,e]
inductive Rch (p:yz0) (root:B8):B8->Prop
 |refl:Rch p root root
 |step {x y:B8}:Rch p root x->y∈nx p x->Rch p root y
theorem zpu{p:yz0}{root:B8}(hc:∀r∈p.rules,∀c∈zca r,c∈kz4 p)(hr:root∈kz4 p){x:B8}(h:Rch p root x):x∈kz4 p:=by
 induction h with
 |refl=>exact hr
 |step _ hy _=>
  unfold nx at hy;split at hy;rename_i r hr;exact hc r (Qax hr) _ hy;cases hy
theorem yi4{p:yz0}{root:B8}{l:List B8}(h0:root∈l)(hc:∀x∈l,∀y∈nx p x,y∈l){x:B8}(h:Rch p root x):x∈l:=by
 induction h with
 |refl=>exact h0
 |step _ hy ih=>exact hc _ ih _ hy
theorem zvr{l m:List B8}(hn:l.Nodup)(h:∀x∈l,x∈m):l.length<=m.length:=hn.length_le_of_subset h
noncomputable def zsu(p:yz0)(s:B8):List B8×Int:=if z1o p≠0 then ([],z1o p)else if s∈kz4 p then (zmo (nx p s) [],0)else ([],6)
theorem ynf{p:yz0}{s:B8}{i:Nat}(hi:i<p.rules.length)(h:atI (kz4 p) s=(i:Int)):nx p s=zca p.rules[i]:=by
 unfold nx;rw[h,Int.toNat_natCast,Qab hi]
theorem y8i{l:List B8}(h:l.length<=8000000):Ev (λn=>kzd n l) (z14 l):=Ev.pure (by show(if l.length<4611686018427387904 then _ else _)=_;rw[Qbx (by omega),y2m])
theorem yh6{l:List B8}(h:l.length<=8000000):Ev (λn=>z3e n l) (zms l):=Ev.pure (by show(if l.length<=9223372036854775807 then _ else _)=_;rw[Qbx (by omega)])
theorem yk9(l:List B8):(z14 l).length=l.length:=(z98 l).length_eq
theorem zy6{p:yz0}{s:B8}(hw:p.wf)(hs:p.size<=4000000):Ev (λn=>z4x n p s) (zsu p s):=by
 rw[y3z,Ev.yz1 (zjy hw hs),zsu];by_cases hc:z1o p=0
 case neg=>rw[Ev.kz2 (by simpa using hc),Ev.zz1,Qbx hc]
 rw[Ev.zz3 (by simpa using hc),Ev.yz1 (y36 hs),Qby (by simp[hc])];by_cases hin:s∈kz4 p
 case neg=>rw[Ev.kz2 (Qbt (y0t.2 hin)),Ev.zz1,Qby hin]
 obtain⟨i,hi,h1,h2,h3⟩:=zqn hin;have:=zuw (Qad hi);have hcl:=zhw p.rules[i];rw[Ev.zz3 (Qbs λq=>y0t.1 q hin),Qbx hin,h1,Ev.yz3 (yze hi),Ev.yz1 (zoo (by omega)),ynf hi h1];have hml:((zzd p.rules[i]).map toT).length=(zzd p.rules[i]).length:=by simp
 refine yms (L:=λn k s=>z2w n k ((zzd p.rules[i]).map toT) (((zzd p.rules[i]).map toT).length:Int) s) (xs:=(zzd p.rules[i]).map toT) (f:=λs x=>s++[x.name]) (I:=λk s=>s.length=k) rfl (λhI =>?_) λk hk s hI=>⟨by simp[hI],λh =>?_⟩
 have hl:((zzd p.rules[i]).map toT).foldl (λs x=>s++[x.name]) []=zca p.rules[i]:=by
  rw[yhh,List.nil_append,List.map_map];rfl
 rw[hl]at hI ⊢;rw[zj6,Ev.zz3 (by simp),Ev.yz1 (y8i (by omega)),Ev.yz1 (yh6 (by rw[yk9];omega)),Ev.zz1,yb8];rw[zj6,Ev.kz2 (by simpa using hk),Ev.yz3 (yze hk),Ev.yz3 (z8c (by simp only[List.length_cons,Qcc];omega)),wrk (by omega)];exact h
theorem yrf(l acc:List B8):(zmo l acc).length<=acc.length+l.length:=by
 induction l generalizing acc with
 |nil=>simp[zmo]
 |cons x l ih=>
  have h1:=ih (ins acc x);have h2:=zuo x acc;show(zmo l (ins acc x)).length<=_;rw[List.length_cons];omega
def Set(p:yz0)(root:B8)(r:List B8×Int):Prop:=r.2=0∧z89 r.1∧∀x,x∈r.1↔Rch p root x
theorem ypz{p:yz0}{root:B8}{a b:List B8×Int}(ha:Set p root a)(hb:Set p root b):a=b:=by
 obtain⟨a1,a2⟩:=a;obtain⟨b1,b2⟩:=b;have h1:a1=b1:=zfc ha.2.1 hb.2.1 λx=>by rw[ha.2.2,hb.2.2]
 have h2:a2=b2:=by have:=ha.1;have:=hb.1;simp only at *;omega
 rw[h1,h2]
theorem zxj{p:yz0}{root:B8}(hw:p.wf)(hs:p.size<=4000000):∃r,Ev (λn=>z34 n p root) r∧(if z1o p≠0 then r=([],z1o p)else if root∈kz4 p then Set p root r else r=([],6)):=by
 have hpl:=@zso p;have hrl:(kz4 p).length=p.rules.length:=by simp[kz4]
 simp only[y2d,Ev.yz1 (zjy hw hs)];by_cases hc:z1o p=0
 case neg=>exact⟨([],z1o p),by rw[Ev.kz2 (by simpa using hc),Ev.zz1],by rw[Qbx hc]⟩
 obtain⟨hf,hnd,hcn⟩:=zm0 hc;simp only[Qby (show ¬z1o p≠0 by simp[hc]),Ev.zz3 (show(z1o p != 0)=false by simpa using hc),Ev.yz1 (y36 hs)];by_cases hin:root∈kz4 p
 case neg=>exact⟨([],6),by rw[Ev.kz2 (Qbt (y0t.2 hin)),Ev.zz1],by rw[Qby hin]⟩
 simp only[Qbx hin,Ev.zz3 (show decide (atI (kz4 p) root<0)=false from Qbs λq=>y0t.1 q hin)]
 have main:∀d i (out:List B8) m,(kz4 p).length-i=d->i<=out.length->out.Nodup->TM m out->root∈out->(∀x∈out,Rch p root x)->(∀j x,j<i->out[j]? = some x->∀y∈nx p x,y∈out)->∃r,Ev (λn=>z2a n (i:Int) out (mks m) (mvs m) p) r∧Set p root r:=λd=>by
  induction d with
  |zero=>
   intro i out m hd hi hn hm h0 hr hcl;have hsub:=zvr hn λx hx=>zpu hcn hin (hr x hx)
   have hil:i=out.length:=by omega
   refine⟨(z14 out,0),?_,rfl,zmu hn,λx =>?_⟩;rw[zdr,Ev.zz3 (by simp;omega),Ev.yz1 (y8i (by omega)),Ev.zz1];rw[(z98 out).mem_iff];refine⟨hr x,yi4 h0 λx hx y hy =>?_⟩;obtain⟨j,hj,e⟩:=List.mem_iff_getElem.1 hx
   exact hcl j x (by omega) (by rw[Qab hj,e]) y hy
  |succ d ih=>
   intro i out m hd hi hn hm h0 hr hcl;have hsub:=zvr hn λx hx=>zpu hcn hin (hr x hx)
   by_cases hil:i=out.length;refine⟨(z14 out,0),?_,rfl,zmu hn,λx =>?_⟩;rw[zdr,Ev.zz3 (by simp;omega),Ev.yz1 (y8i (by omega)),Ev.zz1];rw[(z98 out).mem_iff];refine⟨hr x,yi4 h0 λx hx y hy =>?_⟩;obtain⟨j,hj,e⟩:=List.mem_iff_getElem.1 hx;exact hcl j x (by omega) (by rw[Qab hj,e]) y hy;have hlt:i<out.length:=by omega
   have hrx:=hr _ (Qad hlt);obtain⟨a,ha,h1,h2,h3⟩:=zqn (zpu hcn hin hrx);have:=zuw (Qad ha);have hca:=zhw p.rules[a];have hnx:=ynf ha h1;have hml:((zzd p.rules[a]).map toT).length=(zzd p.rules[a]).length:=by simp
   have inner:∀j,j<=(zzd p.rules[a]).length->∀(o:List B8) m,o.Nodup->TM m o->out <+: o->(∀x∈o,Rch p root x)->(∀y∈(zca p.rules[a]).take j,y∈o)->∃r,Ev (λn=>z30 n (j:Int) ((zzd p.rules[a]).map toT) (i:Int) (((zzd p.rules[a]).map toT).length:Int) o (mks m) (mvs m) p) r∧Set p root r :=
    down (λo m hn hm hpre hr hall=>by
     have hsub':=zvr hn λx hx=>zpu hcn hin (hr x hx)
     have hol:=hpre.length_le;have e:(zca p.rules[a]).length=(zzd p.rules[a]).length:=by simp[zca]
     rw[<-e,List.take_length]at hall
     obtain⟨r,hr1,hr2⟩:=ih (i+1) o m (by omega) (by omega) hn hm (hpre.subset h0) hr λj x hj hx y hy=>by
      obtain⟨t,rfl⟩:=hpre;rw[Qal (by omega)]at hx;by_cases q:j<i;exact List.mem_append_left _ (hcl j x q hx y hy);have:j=i:=by omega
      subst this;rw[Qab hlt]at hx;injection hx with hx;rw[<-hx,hnx]at hy;exact hall y hy
     exact⟨r,by rw[zdz,Ev.zz3 (by simp),wrk (by omega),kz5];exact hr1,hr2⟩) λj hj ihj o m hn hm hpre hr hall=>by
     have hsub':=zvr hn λx hx=>zpu hcn hin (hr x hx)
     have hj':j<((zzd p.rules[a]).map toT).length:=by simpa using hj
     have hjc:j<(zca p.rules[a]).length:=by simpa[zca]using hj
     have hcj:(zca p.rules[a])[j]=(zzd p.rules[a])[j].1:=by simp[zca]
     have htk:(zca p.rules[a]).take (j+1)=(zca p.rules[a]).take j++[(zzd p.rules[a])[j].1]:=by rw[<-hcj,z29 hjc]
     have hmj:=hm.mk (zzd p.rules[a])[j].1;by_cases q:(zzd p.rules[a])[j].1∈o
     obtain⟨r,hr1,hr2⟩:=ihj o m hn hm hpre hr λy hy=>by
      rw[htk,Qbb,Qbc]at hy
      rcases hy with hy|hy
      exact hall y hy;rw[hy];exact q
     refine⟨r,?_,hr2⟩;rw[zdz,Ev.kz2 (by simpa using hj),Ev.yz3 (yze hj'),List.getElem_map,kz5];show Ev (λn=>pIf (!Option.getD (z58 m (zzd p.rules[a])[j].1) false) _ _) _;rw[hmj,Qbt q,Ev.zz3 (by rfl),zkd,wrk (by omega),kz5];exact hr1;have hrc:Rch p root (zzd p.rules[a])[j].1:=.step hrx (by rw[hnx,<-hcj];exact Qad hjc)
     obtain⟨r,hr1,hr2⟩:=ihj (o++[(zzd p.rules[a])[j].1]) _ (by
      rw[List.nodup_append]
      exact⟨hn,by simp,λx hx y hy e=>q (by rw[<-Qbc.1 hy,<-e];exact hx)⟩) (hm.put _) (hpre.trans (List.prefix_append _ _)) (λx hx=>by
      rcases Qbb.1 hx with hx|hx
      exact hr x hx
      rw[Qbc.1 hx];exact hrc) λy hy=>by
      rw[htk,Qbb]at hy
      rcases hy with hy|hy
      exact List.mem_append_left _ (hall y hy);exact List.mem_append_right _ hy
     refine⟨r,?_,hr2⟩;rw[zdz,Ev.kz2 (by simpa using hj),Ev.yz3 (yze hj'),List.getElem_map,kz5];show Ev (λn=>pIf (!Option.getD (z58 m (zzd p.rules[a])[j].1) false) ((ext o [(zzd p.rules[a])[j].1]).bind _) _) _;rw[hmj,Qbs q,Ev.kz2 (by rfl),Ev.yz3 (z8c (by simp only[List.length_cons,Qcc];omega)),zkd,wrk (by omega),kz5];exact hr1
   obtain⟨r,hr1,hr2⟩:=inner 0 (Qbv _) out m hn hm (List.prefix_refl _) hr (by simp);refine⟨r,?_,hr2⟩;rw[zdr,Ev.kz2 (by simpa using hlt),Ev.yz3 (yze hlt),Ev.yz1 (y36 hs),h1,Ev.yz3 (yze ha),Ev.yz1 (zoo (by omega)),kz5];exact hr1
 exact main _ 0 [root] _ rfl (Qbv _) (by simp) (TM.nil.put root) (by simp) (λx hx=>by rw[Qbc.1 hx];exact .refl) λj x hj=>by omega
theorem yct{a:List B8}(hl:a.length<=8000000):Ev (λn=>zzm n a a) true:=by
 rw[zq7,Ev.zz3 (yr3 rfl)]
 have:=yrc (L:=λn k=>kzt n k a a) (xs:=a) (ys:=a) (fail:=false) (r:=true) rfl (by rw[zdd,Ev.zz3 (by simp),Ev.zz1]) λk hk _ v hv=>by
  rw[zr1,Qbx rfl,zdd,Ev.kz2 (by simpa using hk),Ev.yz3 (yze hk),Ev.yz3 (yze hk),Ev.zz3 (by simp),wrk (by omega)];exact hv
 rw[zr1]at this;exact this
theorem yf3{p:yz0}{s:B8}(hs:p.size<=4000000):(zsu p s).1.length<=8000000:=by
 unfold zsu;split;simp;split;rename_i h;obtain⟨i,hi,h1,_⟩:=zqn h;have:=yrf (nx p s) [];have:=zuw (Qad hi);have hl:=zhw p.rules[i];have e:(nx p s).length=(zzd p.rules[i]).length:=by rw[ynf hi h1];simp[zca]
 simp only[Qcc]at *;omega;simp
theorem yjn{p:yz0}{s:B8}{r:List B8×Int}(hs:p.size<=4000000)(h:if z1o p≠0 then r=([],z1o p)else if s∈kz4 p then Set p s r else r=([],6)):r.1.length<=8000000:=by
 have hpl:=@zso p;have hrl:(kz4 p).length=p.rules.length:=by simp[kz4]
 by_cases hc:z1o p=0
 case neg=>rw[Qbx hc]at h;rw[h];simp
 rw[Qby (by simp[hc])]at h;by_cases hin:s∈kz4 p
 case neg=>rw[Qby hin]at h;rw[h];simp
 rw[Qbx hin]at h;have:=zvr (yb9 h.2.1) λx hx=>zpu (zm0 hc).2.2 hin ((h.2.2 x).1 hx)
 omega
theorem ynq{p:yz0}(hn:(kz4 p).Nodup){r s:yz5}(hr:r∈p.rules)(hs:s∈p.rules)(e:r.name=s.name):r=s:=by
 obtain⟨i,hi,rfl⟩:=List.mem_iff_getElem.1 hr;obtain⟨j,hj,rfl⟩:=List.mem_iff_getElem.1 hs;have hi':i<(kz4 p).length:=by simpa[kz4]using hi
 have hj':j<(kz4 p).length:=by simpa[kz4]using hj
 have h:(kz4 p)[i]=(kz4 p)[j]:=by simpa[kz4]using e
 have:=(List.getElem_inj hn).1 h;subst this;rfl
theorem yg8{p q:yz0}(hp:(kz4 p).Nodup)(hq:(kz4 q).Nodup)(h:∀r∈p.rules,r∈q.rules){s:B8}(hs:s∈kz4 p):nx q s=nx p s:=by
 obtain⟨r,hr,rfl⟩:=Qbg.1 hs;rw[yhn hp hr,yhn hq (h r hr)]
theorem yq5{p q:yz0}(hp:z1o p=0)(hq:z1o q=0)(h:∀r∈p.rules,r∈q.rules){root:B8}(hr:root∈kz4 p){x:B8}:Rch p root x↔Rch q root x:=by
 obtain⟨_,p2,p3⟩:=zm0 hp;obtain⟨_,q2,q3⟩:=zm0 hq;constructor;intro k
 induction k with
 |refl=>exact .refl
 |step hx hy ih=>exact .step ih (by rw[yg8 p2 q2 h (zpu p3 hr hx)];exact hy)
 intro k
 induction k with
 |refl=>exact .refl
 |step hx hy ih=>exact .step ih (by rw[<-yg8 p2 q2 h (zpu p3 hr ih)];exact hy)
theorem yki{p q:yz0}(hp:z1o p=0)(hq:z1o q=0)(h:∀r∈p.rules,r∈q.rules){root:B8}(hr:root∈kz4 p){a b:List B8×Int}(ha:Set p root a)(hb:Set q root b):a=b :=
 ypz ha ⟨hb.1,hb.2.1,λx=>(hb.2.2 x).trans (yq5 hp hq h hr).symm⟩
theorem y3v{α:Type}{l m:List α}(h:l.Perm m)(f:α->Bool):l.any f=m.any f:=by
 rw[Bool.eq_iff_iff,List.any_eq_true,List.any_eq_true];exact⟨λ⟨x,a,b⟩=>⟨x,h.mem_iff.1 a,b⟩,λ⟨x,a,b⟩=>⟨x,h.mem_iff.2 a,b⟩⟩
theorem yer{α:Type}{l m:List α}(h:l.Perm m)(f:α->Bool):l.all f=m.all f:=by
 rw[Bool.eq_iff_iff,Qat,Qat];exact⟨λz x a=>z x (h.mem_iff.2 a),λz x a=>z x (h.mem_iff.1 a)⟩
theorem yjf{p q:yz0}(hn:(kz4 p).Nodup)(h:p.rules.Perm q.rules){s:B8}(hs:s∈kz4 p):ydl p s=ydl q s:=by
 have hs':s∈kz4 q:=(h.map _).mem_iff.1 hs;obtain⟨i,hi,_,a1,a2⟩:=zqn hs;obtain⟨j,hj,_,b1,b2⟩:=zqn hs';have:p.rules[i]=q.rules[j]:=ynq hn (Qad hi) (h.mem_iff.2 (Qad hj)) (a1.trans b1.symm);rw[a2,b2,this]
theorem yg9{p q:yz0}(hn:(kz4 p).Nodup)(h:p.rules.Perm q.rules):zq2 p=zq2 q:=by
 have e:∀r,zat p r=zat q r:=λr=>by
  unfold zat;refine congrArg (λf=>(zzd r).any f) (funext λc =>?_);have hm:c.1∈kz4 p↔c.1∈kz4 q:=(h.map _).mem_iff;by_cases hc:c.1∈kz4 p;rw[Qbt hc,Qbt (hm.1 hc),yjf hn h hc];rw[Qbs hc,Qbs λz=>hc (hm.2 z)];rfl
 unfold zq2;rw[y3v h,show zat p=zat q from funext e]
theorem zq3{p q:yz0}(ha:p.attrs=q.attrs)(h:p.rules.Perm q.rules):z1o p=z1o q:=by
 have hm:∀s,s∈kz4 p↔s∈kz4 q:=λs=>(h.map _).mem_iff
 have e1:zxx p=zxx q:=by unfold zxx;rw[ha,h.length_eq,y3v h]
 have e2:zh7 p=zh7 q:=by unfold zh7;rw[ha,yer h]
 have ea:z0p p=z0p q:=by unfold z0p;rw[ha]
 have e0:dup (kz4 p)=dup (kz4 q):=by rw[Bool.eq_iff_iff,y84,y84];exact not_congr (h.map _).nodup_iff
 have e3:y9t p=y9t q:=by unfold y9t;rw[ea,e0,y3v h]
 have ek:kR p=kR q:=funext λr=>by
  unfold kR scope;rw[ea,show(λc:B8×Int=>decide (c.1∈kz4 p))=λc=>decide (c.1∈kz4 q)from funext λc=>decide_eq_decide.2 (hm c.1)]
 have e4:zx7 p=zx7 q:=by unfold zx7;rw[ha,yer h,ek]
 unfold z1o;rw[e1,e2,e3,e4]
 cases hd:y9t q with
 |true=>rfl
 |false=>
  have hn:(kz4 p).Nodup:=by
   rw[<-e3]at hd;unfold y9t at hd;simp only[Bool.or_eq_false_iff]at hd;exact yic.1 hd.2.1
  rw[yg9 hn h]
theorem yem{p q:yz0}(ha:p.attrs=q.attrs)(h:p.rules.Perm q.rules)(s:B8):zsu p s=zsu q s:=by
 have hm:s∈kz4 p↔s∈kz4 q:=(h.map _).mem_iff;have hc:=zq3 ha h;unfold zsu;by_cases h0:z1o p=0;have h1:=h0;rw[hc]at h1;rw[Qby (show ¬z1o p≠0 by simp[h0]),Qby (show ¬z1o q≠0 by simp[h1])];by_cases hs:s∈kz4 p;rw[Qbx hs,Qbx (hm.1 hs),yg8 (zm0 h0).2.1 (zm0 h1).2.1 (λr hr=>h.mem_iff.1 hr) hs];rw[Qby hs,Qby λz=>hs (hm.2 z)];rw[Qbx h0,Qbx (by rw[<-hc];exact h0),hc]
theorem yf2{p q:yz0}(ha:p.attrs=q.attrs)(h:p.rules.Perm q.rules){s:B8}{a b:List B8×Int}
  (h1:if z1o p≠0 then a=([],z1o p)else if s∈kz4 p then Set p s a else a=([],6)) (h2:if z1o q≠0 then b=([],z1o q)else if s∈kz4 q then Set q s b else b=([],6)):a=b:=by
 have hm:s∈kz4 p↔s∈kz4 q:=(h.map _).mem_iff;have hc:=zq3 ha h;by_cases h0:z1o p=0;have h3:=h0;rw[hc]at h3;rw[Qby (by simp[h0])]at h1;rw[Qby (by simp[h3])]at h2;by_cases hs:s∈kz4 p;rw[Qbx hs]at h1;rw[Qbx (hm.1 hs)]at h2;exact yki h0 h3 (λr hr=>h.mem_iff.1 hr) hs h1 h2;rw[Qby hs]at h1;rw[Qby λz=>hs (hm.2 z)]at h2;rw[h1,h2];rw[Qbx h0]at h1;rw[Qbx (by rw[<-hc];exact h0),<-hc]at h2;rw[h1,h2]
theorem ycj(e:kz0):kz0.mk e.op (zz0.mk e.value.kind (yz4.mk e.value.num.num e.value.num.den) e.value.truth e.value.str e.value.list) e.name e.args=e:=by
 cases e with|mk o v n a=>cases v;rfl
theorem yg3:∀v:zz0,v.size<=8388608->Ev (λn=>z7w n v) v:=y8n λv ih hs=>by
 have hsl:=zbz v;have hlen:=zm4 v.list
 have loop:∀k,k<=v.list.length->∀b1 b2 b3 b4 b5 b7,Ev (λn=>z4f n (k:Int) v.kind v.num.num v.num.den v.truth v.str v b1 b2 b3 b4 b5 (v.list.take k) b7) v :=
  down (λb1 b2 b3 b4 b5 b7=>by
   rw[zm2,Ev.zz3 (by simp),List.take_length,Ev.zz1];exact zz0.yz6 v) λk hk ihk b1 b2 b3 b4 b5 b7=>by
   have hx:=Qad hk;have hsx:=zqq hx;rw[zm2,Ev.kz2 (by simpa using hk),Ev.yz3 (yze hk),zz0.yz6,Ev.yz1 (ih _ hx (by omega)),zz0.yz6,Ev.yz3 (z8c (by simp only[Qay,List.length_cons,Qcc];omega)),wrk (by omega),zz0.yz6,z29 hk];exact ihk _ _ _ _ _ _
 rw[y4x,zz0.yz6];exact loop 0 (Qbv _) _ _ _ _ _ _
theorem zth:∀e:kz0,e.size<=8388608->Ev (λn=>z4l n e) e:=zyo λe ih hs=>by
 have hsl:=zav e;have hlen:=zdh e.args;have hve:e.value.size<=e.size:=by rw[kz0.size_eq];omega
 have loop:∀k,k<=e.args.length->∀b1 b2 b3 b4 b5 b6 b7 b8 b9,Ev (λn=>z4d n (k:Int) e.op e.value.kind e.value.num.num e.value.num.den e.value.truth e.value.str e.value.list e.name e b1 b2 b3 b4 b5 b6 b7 b8 (e.args.take k) b9) e :=
  down (λb1 b2 b3 b4 b5 b6 b7 b8 b9=>by
   rw[zl5,Ev.zz3 (by simp),List.take_length,ycj,Ev.zz1]) λk hk ihk b1 b2 b3 b4 b5 b6 b7 b8 b9=>by
   have hx:=Qad hk;have hsx:=zph hx;rw[zl5,Ev.kz2 (by simpa using hk),Ev.yz3 (yze hk),kz0.yz6,Ev.yz1 (ih _ hx (by omega)),kz0.yz6,Ev.yz3 (z8c (by simp only[Qay,List.length_cons,Qcc];omega)),wrk (by omega),kz0.yz6,z29 hk];exact ihk _ _ _ _ _ _ _ _ _
 rw[y5t,zz0.yz6,Ev.yz1 (yg3 e.value (by omega)),kz0.yz6];exact loop 0 (Qbv _) _ _ _ _ _ _ _ _ _
theorem znt{l:zz7}(hs:(l.map kz0.size).sum<=8000000):Ev (λn=>z1k n l) l:=by
 have e1:Ev (λn=>z4s n l) (zge l):=by rw[zs8,Ev.zz1];rfl
 rw[ztm,Ev.yz1 e1,kz0.yz6,Ev.yz1 (zth _ (by rw[zmk];omega)),Ev.zz1];rfl
theorem yia{α:Type}(l:List α)(x:α):ix (l++[x]) (l.length:Int)=some x:=by rw[yfv];simp
theorem ybx{α:Type}(l:List α)(x y:α):(l++[x]).set (Int.toNat (l.length:Int)) y=l++[y]:=by simp
theorem y4a{r:yz5}(hs:r.size<=8000000):Ev (λn=>z5j n r) r:=by
 have hlp:=@y85 r;have hlc:=@y7i r
 have l0:∀i,i<=r.cases.length->∀z1 z2 z3,Ev (λn=>z0l n (i:Int) r r.name r.params z1 (r.cases.take i) z2 z3) r :=
  down (λz1 z2 z3=>by rw[zfx,Ev.zz3 (by simp),Ev.zz1,List.take_length]) λi hi ih z1 z2 z3=>by
   have hc:=Qad hi;have:=y2q hc;have hcw:=@yhr r.cases[i];have hca:=@y7h r.cases[i]
   have l1:∀k,k<=r.cases[i].do_.length->Ev (λn=>z0f n (k:Int) (i:Int) r.cases[i].weight r.cases[i].when_.op r.cases[i].when_.value.kind r.cases[i].when_.value.num.num r.cases[i].when_.value.num.den r.cases[i].when_.value.truth r.cases[i].when_.value.str r.cases[i].when_.value.list r.cases[i].when_.name r.cases[i].when_.args r r.name r.params z1 (r.cases[i].do_.take k) (r.cases.take i) z2 z3) r :=
    down (by
     have hlt:(r.cases.take i).length=i:=by simp;omega
     rw[zg6,Ev.yz3 (yze hi),Ev.zz3 (by simp),ycj,Ev.yz3 (z8c (by simp only[Qay,List.length_cons,Qcc];omega)),Ev.yz3 (yia _ _)];dsimp only;rw[kz0.yz6,ybx,List.take_length,wrk (by omega)];have e:r.cases.take i++[kz6.mk r.cases[i].weight r.cases[i].when_ r.cases[i].do_]=r.cases.take (i+1):=z29 hi;rw[e]
     exact ih _ _ _) λk hk ihk=>by
     have ha:=Qad hk;have:=y80 ha;have haa:=@ycn r.cases[i].do_[k];have hal:=@ycg r.cases[i].do_[k]
     have l2:∀j,j<=r.cases[i].do_[k].items.length->Ev (λn=>z0b n (j:Int) (i:Int) (k:Int) r.cases[i].do_[k].kind r.cases[i].do_[k].axis r.cases[i].do_[k].name r.cases[i].do_[k].args r.cases[i].do_[k] r.cases[i].weight r.cases[i].when_.op r.cases[i].when_.value.kind r.cases[i].when_.value.num.num r.cases[i].when_.value.num.den r.cases[i].when_.value.truth r.cases[i].when_.value.str r.cases[i].when_.value.list r.cases[i].when_.name r.cases[i].when_.args r r.name r.params z1 (r.cases[i].do_[k].items.take j) (r.cases[i].do_.take k) (r.cases.take i) z2 z3) r :=
      down (by
       rw[zgb,Ev.zz3 (by simp),Ev.yz3 (z8c (by simp only[Qay,List.length_cons,Qcc];omega)),Ev.yz3 (yia _ _)];dsimp only;rw[ybx,List.take_length,wrk (by omega)];have e:r.cases[i].do_.take k++[kz3.mk r.cases[i].do_[k].kind r.cases[i].do_[k].axis r.cases[i].do_[k].name r.cases[i].do_[k].args r.cases[i].do_[k].items]=r.cases[i].do_.take (k+1):=z29 hk;rw[e]
       exact ihk) λj hj ihj=>by
       have hx:=Qad hj;have:=yc6 hx;have hxa:=@yd6 r.cases[i].do_[k].items[j];rw[zgb,Ev.kz2 (by simpa using hj),Ev.yz3 (yze hj),Ev.yz3 (yze hj),Ev.yz3 (yze hj),Ev.yz1 (znt (by omega)),Ev.yz3 (z8c (by simp only[Qay,List.length_cons,Qcc];omega)),wrk (by omega)]
       have e:r.cases[i].do_[k].items.take j++[zzj.mk r.cases[i].do_[k].items[j].kind r.cases[i].do_[k].items[j].name r.cases[i].do_[k].items[j].args]=r.cases[i].do_[k].items.take (j+1):=z29 hj;rw[e];exact ihj
     rw[zg6,Ev.yz3 (yze hi),Ev.kz2 (by simpa using hk),Ev.yz3 (yze hi),Ev.yz3 (yze hk),Ev.yz1 (znt (by omega))];exact l2 0 (Qbv _)
   rw[zfx,Ev.kz2 (by simpa using hi),Ev.yz3 (yze hi),Ev.yz3 (yze hi),kz0.yz6,Ev.yz1 (zth _ (by omega))];exact l1 0 (Qbv _)
 rw[zvb,Ev.yz3 (z8c (by simp only[Qcc];omega))];exact l0 0 (Qbv _) _ _ _
theorem yf6{p:yz0}(hs:p.size<=8000000):Ev (λn=>za0 n p) (p.attrs,p.rules):=by
 have h1:=@y79 p;have h2:=@zso p
 have l1:∀i,i<=p.rules.length->∀z1 z2,Ev (λn=>z3t n (i:Int) p p.attrs (p.rules.take i) z1 z2) (p.attrs,p.rules) :=
  down (λz1 z2=>by rw[zlf,Ev.zz3 (by simp),Ev.zz1,List.take_length]) λi hi ih z1 z2=>by
   have hr:=Qad hi;have:=zuw hr;rw[zlf,Ev.kz2 (by simpa using hi),Ev.yz3 (yze hi),Ev.yz1 (y4a (by omega)),Ev.yz3 (z8c (by simp only[Qay,List.length_cons,Qcc];omega)),wrk (by omega),z29 hi];exact ih _ _
 have l0:∀i,i<=p.attrs.length->∀z0 z1 z2,z0=[]->Ev (λn=>z44 n (i:Int) p (p.attrs.take i) z0 z1 z2) (p.attrs,p.rules) :=
  down (λz0 z1 z2 hz=>by rw[zla,Ev.zz3 (by simp),List.take_length,hz];exact l1 0 (Qbv _) _ _) λi hi ih z0 z1 z2 hz=>by
   have ht:=Qad hi;have:=yhq ht;have:=@yhz p.attrs[i];rw[zla,Ev.kz2 (by simpa using hi),Ev.yz3 (yze hi),Ev.yz3 (yze hi),kz0.yz6,Ev.yz1 (zth _ (by omega)),Ev.yz3 (z8c (by simp only[Qay,List.length_cons,Qcc];omega)),kz0.yz6,wrk (by omega)];have e:p.attrs.take i++[kzh.mk p.attrs[i].name p.attrs[i].value]=p.attrs.take (i+1):=z29 hi;rw[e];exact ih _ _ _ hz
 rw[y63];exact l0 0 (Qbv _) _ _ _ rfl
theorem yl0{p:yz0}{k:Int}(hw:p.wf)(hs:p.size<=1048576)(alive:Ev (λn=>zzz n) true):Ev (λn=>kzi n p k) true:=by
 have hpr:=@zso p
 have out:∀k:Int,Ev (λn=>kzf n k true p) true:=λk=>by
  rw[z8y,Ev.kz2 rfl,Ev.yz1 alive,Ev.zz1]
 obtain⟨b,hb⟩:=great (p:=p) (by omega);rw[zii,Ev.yz1 hb]
 cases b with
 |true=>rw[Ev.kz2 rfl];exact out k
 |false=>
 rw[Ev.zz3 rfl];by_cases hk0:k<0;rw[Ev.kz2 (Qbt hk0)];exact out k;rw[Ev.zz3 (Qbs hk0),wI (x:=(p.rules.length:Int)-1) (by omega)];by_cases hk1:k>=(p.rules.length:Int)-1;rw[Qbt hk1];exact out k;rw[Qbs hk1];obtain⟨i,rfl⟩:∃i:Nat,k=(i:Int):=⟨k.toNat,by omega⟩;have hi:i<p.rules.length:=by omega
 have hj:i+1<p.rules.length:=by omega
 have hperm:((p.rules.set i p.rules[i+1]).set (i+1) p.rules[i]).Perm p.rules:=List.set_set_perm hi hj;obtain⟨q,hq⟩:∃q:yz0,q=⟨p.attrs,(p.rules.set i p.rules[i+1]).set (i+1) p.rules[i]⟩:=⟨_,rfl⟩;have ha:p.attrs=q.attrs:=by rw[hq]
 have hpq:p.rules.Perm q.rules:=by rw[hq];exact hperm.symm
 have hwq:q.wf:=by
  rw[yz0.z1e]at hw ⊢;exact⟨λt ht=>hw.1 t (by rw[ha];exact ht),λr hr=>hw.2 r (hpq.mem_iff.2 hr)⟩
 have hsq:q.size<=4000000:=by
  have h1:=hs;rw[yz0.size_eq]at h1 ⊢;have e:(q.rules.map yz5.size).sum=(p.rules.map yz5.size).sum:=(hpq.map yz5.size).sum_nat.symm;rw[e,<-ha];omega
 have hset:(p.rules.set i p.rules[i+1])[i+1]? = some p.rules[i+1]:=by
  rw[Qam (by omega),Qab hj]
 obtain⟨a,hra,hsa⟩:=zxj (root:=p.rules[i].name) hw (by omega:p.size<=4000000);obtain⟨a',hra',hsa'⟩:=zxj (root:=p.rules[i].name) hwq hsq;obtain rfl:=yf2 ha hpq hsa hsa';have hla:=yjn (by omega:p.size<=4000000) hsa;have hlc:=yf3 (p:=p) (s:=p.rules[i].name) (by omega);rw[z8y,Ev.zz3 rfl,Ev.yz1 (yf6 (by omega))];dsimp only
 rw[wrk (by omega),Ev.yz3 (yze hj),Ev.yz3 (yze hi),Ev.yz3 (yze hi),Int.toNat_natCast,Int.toNat_natCast,
  Ev.yz3 (show ix (p.rules.set i p.rules[i+1]) ((i+1:Nat):Int)=some p.rules[i+1] by rw[yfv];exact hset),Ev.yz1 (zjy hw (by omega)),<-hq,Ev.yz1 (zjy hwq hsq),<-zq3 ha hpq,Ev.zz3 (by simp),
  Ev.yz3 (yze hi),Ev.yz1 (zy6 hw (by omega)),Ev.yz3 (yze hi),Ev.yz1 (zy6 hwq hsq),<-yem ha hpq,Ev.yz3 (yze hi),Ev.yz1 hra,Ev.yz3 (yze hi),Ev.yz1 hra',
  Ev.yz1 (yct hlc),Ev.kz2 rfl,Ev.kz2 (by simp),Ev.yz1 (yct hla),Ev.kz2 rfl,Ev.kz2 (by simp),Ev.yz1 alive,Ev.zz1]
theorem ydk(p:yz0)(k:Int)(hw:p.wf){Q:Prop}(_:Q)(hs:p.size+0<=1048576):∃n,kzi n p k=some true:=Ev.get (yl0 hw (by omega) yoe)
end Go.Proofs.YthphaiccgnkobaaGreatDoor
