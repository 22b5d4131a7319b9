/-
  RATIOS: OPERATIONS.
-/
import Derived.Test.YtcaehabdaleamaaGreatRun1
import Derived.Test.YtcaehabdaleamaaGreatLib8
namespace Go.Proofs.YtcaehabdaleamaaGreat
open Go Go.Ab
set_option linter.unusedVariables false
set_option linter.unusedSimpArgs false
theorem ys5{x y:Int}:Ev (λn=>z1z n [x,y]) (if x=0 then y else x):=by
 rw[znp,z7k,Ev.zz2 (by rfl),Ev.zz3 (show ix [x,y] 0=some x from rfl)];by_cases hx:x=0;subst hx;rw[Ev.kz1 (by simp),Qbo rfl,z7k,Ev.zz2 (by rfl),Ev.zz3 (show ix [0,y] (IntKind.i64.wrap (0+1))=some y from rfl)];by_cases hy:y=0;subst hy;rw[Ev.kz1 (by simp),z7k,Ev.kz1 (by rfl),Ev.yz0];rw[Ev.zz2 (by simpa using hy),Ev.yz0];rw[Ev.zz2 (by simpa using hx),Ev.yz0,Qbp hx]
def wfR(r:yz1):Prop:=I64 r.num∧I64 r.den
theorem y8n{r:yz1}(h:rok r=true):wfR r:=by
 rw[z7s]at h;unfold wfR I64;omega
theorem ygn{a b:yz1}(ha:wfR a)(hb:wfR b):Ev (λn=>z0g n a b) ⟨a,b,⟨0,0⟩,if rok a&&rok b then 0 else 8⟩:=by
 rw[y79,Ev.kz0 (zgl ha.1),Ev.kz0 (zgl hb.1),Ev.kz0 ys5,Ev.yz0];cases rok a <;> cases rok b <;> rfl
theorem z7n{a b:yz1}(ha:wfR a)(hb:wfR b){k:Int}(hk:k=if rok a&&rok b then 0 else 8):Ev (λn=>z0g n a b) ⟨a,b,⟨0,0⟩,k⟩:=by subst hk;exact ygn ha hb
def z6n(f:yz1->yz1->Int×Int)(a b:yz1):Int×yz1:=if rok a&&rok b then zfu (f a b).1 (f a b).2 else (8,⟨0,0⟩)
def zrn(a b:yz1):Int×Int:=(a.num * b.den+b.num * a.den,a.den * b.den)
def yfk(a b:yz1):Int×Int:=(a.num * b.den-b.num * a.den,a.den * b.den)
def ygt(a b:yz1):Int×Int:=(a.num * b.num,a.den * b.den)
def fdiv(a b:yz1):Int×Int:=(a.num * b.den,a.den * b.num)
theorem z8k{x y:Int}(hx : -1000000000<=x∧x<=1000000000)(hy : -1000000000<=y∧y<=1000000000) : -1000000000000000000<=x * y∧x * y<=1000000000000000000:=by
 have h:(x * y).natAbs<=1000000000 * 1000000000:=by
  rw[Int.natAbs_mul];exact Nat.mul_le_mul (by omega) (by omega)
 omega
theorem z94{r:yz1}(h:rok r=true):(-1000000000<=r.num∧r.num<=1000000000)∧(-1000000000<=r.den∧r.den<=1000000000)∧1<=r.den:=by
 rw[z7s]at h;omega
theorem zqm{num den:Int}{c:z02}(hn:I64 num)(hd:I64 den)(he:c.e=0):Ev (λn=>yzs n num den c) ⟨c.a,c.b,(zfu num den).2,(zfu num den).1⟩:=by
 rw[zqi,Ev.zz2 (by simp[he]),Ev.kz0 (zpv hn hd),Ev.yz0]
theorem ybz{a b:yz1}(ha:wfR a)(hb:wfR b):Ev (λn=>z5u n a b) ((z6n zrn a b).2,(z6n zrn a b).1):=by
 unfold z6n;cases h:rok a&&rok b;rw[zkf,Ev.kz0 (z7n ha hb (k:=8) (by rw[h];rfl))];simp[Ev.pif,Ev.yz0,zz9];simp only[Qag]at h;obtain⟨a1,a2,_⟩:=z94 h.1;obtain⟨b1,b2,_⟩:=z94 h.2;have m1:=z8k a1 b2;have m2:=z8k b1 a2;have m3:=z8k a2 b2;rw[zkf,Ev.kz0 (z7n ha hb (k:=0) (by rw[h.1,h.2];rfl))]
 have hf:Ev (λn=>z74 n a b) (zrn a b):=by
  rw[y0b,Ev.yz0,wI (x:=a.num * b.den) (by omega),wI (x:=b.num * a.den) (by omega),wI (by omega),wI (by omega)];rfl
 rw[Ev.zz2 (by rfl),Ev.kz0 hf,Ev.kz0 (zqm (by unfold I64 zrn;simp only;omega) (by unfold I64 zrn;simp only;omega) rfl)];simp[Ev.yz0,zz9]
theorem ymn{a b:yz1}(ha:wfR a)(hb:wfR b):Ev (λn=>z9q n a b) ((z6n yfk a b).2,(z6n yfk a b).1):=by
 unfold z6n;cases h:rok a&&rok b;rw[zqg,Ev.kz0 (z7n ha hb (k:=8) (by rw[h];rfl))];simp[Ev.pif,Ev.yz0,zz9];simp only[Qag]at h;obtain⟨a1,a2,_⟩:=z94 h.1;obtain⟨b1,b2,_⟩:=z94 h.2;have m1:=z8k a1 b2;have m2:=z8k b1 a2;have m3:=z8k a2 b2;rw[zqg,Ev.kz0 (z7n ha hb (k:=0) (by rw[h.1,h.2];rfl))]
 have hf:Ev (λn=>z7e n a b) (yfk a b):=by
  rw[y1d,Ev.yz0,wI (x:=a.num * b.den) (by omega),wI (x:=b.num * a.den) (by omega),wI (by omega),wI (by omega)];rfl
 rw[Ev.zz2 (by rfl),Ev.kz0 hf,Ev.kz0 (zqm (by unfold I64 yfk;simp only;omega) (by unfold I64 yfk;simp only;omega) rfl)];simp[Ev.yz0,zz9]
theorem ya4{a b:yz1}(ha:wfR a)(hb:wfR b):Ev (λn=>z5m n a b) ((z6n ygt a b).2,(z6n ygt a b).1):=by
 unfold z6n;cases h:rok a&&rok b;rw[zkd,Ev.kz0 (z7n ha hb (k:=8) (by rw[h];rfl))];simp[Ev.pif,Ev.yz0,zz9];simp only[Qag]at h;obtain⟨a1,a2,_⟩:=z94 h.1;obtain⟨b1,b2,_⟩:=z94 h.2;have m1:=z8k a1 b1;have m3:=z8k a2 b2;rw[zkd,Ev.kz0 (z7n ha hb (k:=0) (by rw[h.1,h.2];rfl))]
 have hf:Ev (λn=>z7a n a b) (ygt a b):=by
  rw[zxr,Ev.yz0,wI (by omega),wI (by omega)];rfl
 rw[Ev.zz2 (by rfl),Ev.kz0 hf,Ev.kz0 (zqm (by unfold I64 ygt;simp only;omega) (by unfold I64 ygt;simp only;omega) rfl)];simp[Ev.yz0,zz9]
theorem ya6{a b:yz1}(ha:wfR a)(hb:wfR b):Ev (λn=>z5p n a b) ((z6n fdiv a b).2,(z6n fdiv a b).1):=by
 unfold z6n;cases h:rok a&&rok b;rw[zke,Ev.kz0 (z7n ha hb (k:=8) (by rw[h];rfl))];simp[Ev.pif,Ev.yz0,zz9];simp only[Qag]at h;obtain⟨a1,a2,_⟩:=z94 h.1;obtain⟨b1,b2,_⟩:=z94 h.2;have m1:=z8k a1 b2;have m3:=z8k a2 b1;rw[zke,Ev.kz0 (z7n ha hb (k:=0) (by rw[h.1,h.2];rfl))]
 have hf:Ev (λn=>z6r n a b) (fdiv a b):=by
  rw[y0s,Ev.yz0,wI (by omega),wI (by omega)];rfl
 rw[Ev.zz2 (by rfl),Ev.kz0 hf,Ev.kz0 (zqm (by unfold I64 fdiv;simp only;omega) (by unfold I64 fdiv;simp only;omega) rfl)];simp[Ev.yz0,zz9]
theorem ynq{a b:yz1}(ha:wfR a)(hb:wfR b):Ev (λn=>zaa n a b) (z6n zrn a b):=by
 rw[ya5,Ev.kz0 (ybz ha hb),Ev.yz0]
theorem ym9{a b:yz1}(ha:wfR a)(hb:wfR b):Ev (λn=>z9o n a b) (z6n yfk a b):=by
 rw[ydn,Ev.kz0 (ymn ha hb),Ev.yz0]
theorem yof{a b:yz1}(ha:wfR a)(hb:wfR b):Ev (λn=>z9k n a b) (z6n ygt a b):=by
 rw[yd8,Ev.kz0 (ya4 ha hb),Ev.yz0]
theorem yoe{a b:yz1}(ha:wfR a)(hb:wfR b):Ev (λn=>z9j n a b) (z6n fdiv a b):=by
 rw[y9n,Ev.kz0 (ya6 ha hb),Ev.yz0]
theorem z7m{a b:yz1}:Ev (λn=>kzg n a b) (if rok a&&rok b then 0 else 8):=by
 rw[y4a,Ev.kz0 z8r];cases ha:rok a;rw[Ev.zz2 (by rfl),Ev.kz0 z8r,Ev.yz0,ha];rfl;rw[Ev.kz1 (by rfl),Ev.kz0 z8r,Ev.yz0];rfl
theorem yok{a b:yz1}:Ev (λn=>z9g n a b) (z6n zrn a b):=by
 rw[ybc,Ev.kz0 z7m];unfold z6n;cases h:rok a&&rok b;rw[Ev.zz2 (by rfl),Ev.kz0 z7m,h,Ev.yz0];rfl;simp only[Qag]at h;obtain⟨a1,a2,_⟩:=z94 h.1;obtain⟨b1,b2,_⟩:=z94 h.2;have m1:=z8k a1 b2;have m2:=z8k b1 a2;have m3:=z8k a2 b2
 rw[Ev.kz1 (by rfl),wI (x:=a.num * b.den) (by omega),wI (x:=b.num * a.den) (by omega),wI (x:=_+_) (by omega),wI (x:=a.den * b.den) (by omega),Ev.kz0 (zjf (by omega) (by omega)),Ev.yz0];rfl
theorem yno{a b:yz1}:Ev (λn=>z9z n a b) (z6n yfk a b):=by
 rw[yc1,Ev.kz0 z7m];unfold z6n;cases h:rok a&&rok b;rw[Ev.zz2 (by rfl),Ev.kz0 z7m,h,Ev.yz0];rfl;simp only[Qag]at h;obtain⟨a1,a2,_⟩:=z94 h.1;obtain⟨b1,b2,_⟩:=z94 h.2;have m1:=z8k a1 b2;have m2:=z8k b1 a2;have m3:=z8k a2 b2
 rw[Ev.kz1 (by rfl),wI (x:=a.num * b.den) (by omega),wI (x:=b.num * a.den) (by omega),wI (x:=_-_) (by omega),wI (x:=a.den * b.den) (by omega),Ev.kz0 (zjf (by omega) (by omega)),Ev.yz0];rfl
theorem yo0{a b:yz1}:Ev (λn=>z9l n a b) (z6n ygt a b):=by
 rw[ydh,Ev.kz0 z7m];unfold z6n;cases h:rok a&&rok b;rw[Ev.zz2 (by rfl),Ev.kz0 z7m,h,Ev.yz0];rfl;simp only[Qag]at h;obtain⟨a1,a2,_⟩:=z94 h.1;obtain⟨b1,b2,_⟩:=z94 h.2;have m1:=z8k a1 b1;have m3:=z8k a2 b2;rw[Ev.kz1 (by rfl),wI (x:=a.num * b.num) (by omega),wI (x:=a.den * b.den) (by omega),Ev.kz0 (zjf (by omega) (by omega)),Ev.yz0];rfl
theorem ynw{a b:yz1}:Ev (λn=>z9e n a b) (z6n fdiv a b):=by
 rw[y8z,Ev.kz0 z7m];unfold z6n;cases h:rok a&&rok b;rw[Ev.zz2 (by rfl),Ev.kz0 z7m,h,Ev.yz0];rfl;simp only[Qag]at h;obtain⟨a1,a2,_⟩:=z94 h.1;obtain⟨b1,b2,_⟩:=z94 h.2;have m1:=z8k a1 b2;have m3:=z8k a2 b1;rw[Ev.kz1 (by rfl),wI (x:=a.num * b.den) (by omega),wI (x:=a.den * b.num) (by omega),Ev.kz0 (zjf (by omega) (by omega)),Ev.yz0];rfl
def yk2(a b:yz1):Int:=if a.num * b.den<b.num * a.den then -1 else if a.num * b.den>b.num * a.den then 1 else 0
theorem ymk{a b:yz1}(h1:rok a=true)(h2:rok b=true):Ev (λn=>z9i n a b) (yk2 a b,0):=by
 obtain⟨a1,a2,_⟩:=z94 h1;obtain⟨b1,b2,_⟩:=z94 h2;have m1:=z8k a1 b2;have m2:=z8k b1 a2;have hnan:∀x,Ev (λn=>z0v n x) false:=λx=>by rw[zpi,Ev.yz0];simp
 have hc:Ev (λn=>z0w n (a.num * b.den) (b.num * a.den)) (yk2 a b):=by
  rw[zmf,Ev.kz0 (hnan _),Ev.kz0 (hnan _),Ev.kz1 (by rfl),Ev.kz1 (by rfl)];unfold yk2;simp only[Ev.pif,Ev.yz0,Qaq];split <;> (try rfl)
  split <;> rfl
 rw[yac,Ev.kz0 (z7n (y8n h1) (y8n h2) (k:=0) (by rw[h1,h2];rfl)),Ev.kz1 (by rfl),wI (by omega),wI (by omega),Ev.kz0 hc,Ev.yz0]
theorem ynj{a b:yz1}(h1:rok a=true)(h2:rok b=true):Ev (λn=>zac n a b) (yk2 a b,0):=by
 obtain⟨a1,a2,_⟩:=z94 h1;obtain⟨b1,b2,_⟩:=z94 h2;have m1:=z8k a1 b2;have m2:=z8k b1 a2;rw[yas,Ev.kz0 z7m,h1,h2,Ev.kz1 (by rfl),wI (by omega),wI (by omega)];unfold yk2;simp only[Ev.pif,Ev.yz0,Qaq];split <;> (try rfl)
 split <;> rfl
def ze6(a:yz1):Int×Int:=if rok a then (a.num / a.den,0)else (0,8)
theorem ztp{a b:Int}(ha : -1000000000<=a∧a<=1000000000)(hb:1<=b) : -1000000000<=a / b∧a / b<=1000000000:=by
 constructor;rw[Int.le_ediv_iff_mul_le (by omega)];omega;have:=Int.ediv_le_self b (a:=a);by_cases h:0<=a;have:=Int.ediv_le_self b h;omega;have:=Int.ediv_neg_of_neg_of_pos (a:=a) (b:=b) (by omega) (by omega);omega
theorem yep{a:yz1}(h:wfR a):Ev (λn=>z7b n a) (ze6 a):=by
 have l0:∀q,Ev (λn=>z1t n q) q:=λq=>by rw[zsb,Ev.yz0]
 rw[zxy,Ev.kz0 (zgl h.1)];unfold ze6;cases hr:rok a;rw[Ev.zz2 (by decide),Ev.yz0];rfl;rw[Ev.kz1 (by decide)];obtain⟨a1,a2,a3⟩:=z94 hr
 have hq:a.num.tdiv a.den=if 0<=a.num∨a.den ∣ a.num then a.num / a.den else a.num / a.den+1:=by
  rw[Int.tdiv_eq_ediv];have:a.den.sign=1:=Int.sign_eq_one_of_pos (by omega);split <;> simp_all
 have hm:a.num.tmod a.den<0↔¬(0<=a.num∨a.den ∣ a.num):=by
  constructor;intro hlt hh
  rcases hh with hh|hh
  have:=Int.tmod_nonneg a.den hh;omega;rw[Int.tmod_eq_zero_of_dvd hh]at hlt;omega;intro hh;have h0:a.num<0:=by omega
  have h1:a.num.tmod a.den<=0:=by
   have e:a.num = -(-a.num):=by omega
   rw[e,Int.neg_tmod];have:=Int.tmod_nonneg a.den (show 0 <= -a.num by omega);omega
  have h2:a.num.tmod a.den≠0:=λhz=>hh (.inr (Int.dvd_of_tmod_eq_zero hz))
  omega
 have hb:=ztp a1 a3
 have hf:Ev (λn=>z7c n a.num a.den) (a.num / a.den):=by
  have hq1:quo .i64 a.num a.den=some (a.num.tdiv a.den):=by
   unfold quo;rw[Qbp (by omega),wI (by rw[hq];split <;> omega)]
  have hr1:rem .i64 a.num a.den=some (a.num.tmod a.den):=by unfold rem;rw[Qbp (by omega)]
  rw[zyw,Ev.zz3 hq1,Ev.zz3 hr1];by_cases hh:0<=a.num∨a.den ∣ a.num;rw[Ev.kz1 (by rw[decide_eq_false_iff_not,hm];exact not_not_intro hh),hq,Qbo hh];exact l0 _;rw[Ev.zz2 (by rw[Qaq,hm];exact hh),hq,Qbp hh,wI (by omega)];exact(l0 _).to (by omega)
 rw[Ev.kz0 hf,Ev.yz0];rfl
theorem yfz{a:yz1}:Ev (λn=>z6v n a) (ze6 a):=by
 have l0:∀q,Ev (λn=>z1e n q) (q,0):=λq=>by rw[zrp,Ev.yz0]
 rw[y0z,Ev.kz0 z8r];unfold ze6;cases hr:rok a;rw[Ev.zz2 (by decide),Ev.kz0 z8r,hr,Ev.yz0];rfl;rw[Ev.kz1 (by decide)];obtain⟨a1,a2,a3⟩:=z94 hr
 have hq:a.num.tdiv a.den=if 0<=a.num∨a.den ∣ a.num then a.num / a.den else a.num / a.den+1:=by
  rw[Int.tdiv_eq_ediv];have:a.den.sign=1:=Int.sign_eq_one_of_pos (by omega);split <;> simp_all
 have hb:=ztp a1 a3
 have hq1:quo .i64 a.num a.den=some (a.num.tdiv a.den):=by
  unfold quo;rw[Qbp (by omega),wI (by rw[hq];split <;> omega)]
 rw[Ev.zz3 hq1];have e1:a.num / a.den * a.den=a.num-a.num % a.den:=by have:=Int.ediv_mul_add_emod a.num a.den;omega
 have e2:=Int.emod_nonneg a.num (show a.den≠0 by omega);have e3:=Int.emod_lt_of_pos a.num (show 0<a.den by omega);by_cases hh:0<=a.num∨a.den ∣ a.num;rw[hq,Qbo hh,wI (by rw[e1];omega),Ev.kz1 (by rw[e1];simp;omega)];exact l0 _;rw[hq,Qbp hh];have e4:(a.num / a.den+1) * a.den=a.num-a.num % a.den+a.den:=by rw[Int.add_mul,e1];omega
 rw[wI (by rw[e4];omega),Ev.zz2 (by rw[e4];simp;omega),wI (by omega)];exact(l0 _).to (by simp)
theorem zeu{P:zz0->Prop}(h:∀v:zz0,(∀x,x∈v.list->P x)->P v)(v:zz0):P v:=h v λx hx=>zeu h x
termination_by v
decreasing_by exact zz0.zqu hx
mutual
def kzi:zz0->Nat
 |⟨k,_,_,_,l⟩=>if k=4 then 1+kz7 l else 1
def kz7:kz2->Nat
 |[]=>0
 |x::l=>kzi x+kz7 l
end
mutual
def z5j:zz0->Nat
 |⟨k,_,_,_,l⟩=>if k=4 then max 1 (z08 l)else 1
def z08:kz2->Nat
 |[]=>0
 |x::l=>max (1+z5j x) (z08 l)
end
theorem kzb(v:zz0):kzi v=if v.kind=4 then 1+kz7 v.list else 1:=by cases v;rw[kzi]
theorem z1x(v:zz0):z5j v=if v.kind=4 then max 1 (z08 v.list)else 1:=by cases v;rw[z5j]
theorem yru{l:kz2}{x:zz0}(h:x∈l):x.size<=(l.map zz0.size).sum:=by
 induction l with
 |nil=>cases h
 |cons y l ih=>
  rcases Qbf.1 h with rfl|h
  simp;have:=ih h;simp;omega
theorem zzc(v:zz0):(v.list.map zz0.size).sum+v.str.length+4<=v.size:=by rw[zz0.size_eq];omega
theorem z5h{v x:zz0}(h:x∈v.list):x.size<=v.size:=by have:=yru h;have:=zzc v;omega
theorem kzw(l:kz2):l.length<=(l.map zz0.size).sum:=by
 induction l with
 |nil=>simp
 |cons x l ih=>have:=zzc x;simp;omega
theorem znc:∀v:zz0,kzi v<=v.size:=zeu λv ih=>by
 have:∀l:kz2,(∀x,x∈l->x∈v.list)->kz7 l<=(l.map zz0.size).sum:=λl=>by
  induction l with
  |nil=>intro _;simp[kz7]
  |cons x l ihl=>
   intro hl;have:=ih x (hl x Qak);have:=ihl λy hy=>hl y (Qai _ hy)
   simp[kz7];omega
 have:=this v.list λ_ h=>h
 have:=zzc v;rw[kzb];split <;> omega
theorem yft:∀v:zz0,z5j v<=kzi v:=zeu λv ih=>by
 have:∀l:kz2,(∀x,x∈l->x∈v.list)->z08 l<=1+kz7 l:=λl=>by
  induction l with
  |nil=>intro _;simp[kz7,z08]
  |cons x l ihl=>
   intro hl;have:=ih x (hl x Qak);have:=ihl λy hy=>hl y (Qai _ hy)
   simp[kz7,z08];omega
 have:=this v.list λ_ h=>h
 rw[kzb,z1x];split <;> omega
theorem zyo(l:kz2):kz7 l<=(l.map zz0.size).sum:=by
 induction l with
 |nil=>simp[kz7]
 |cons x l ih=>have:=znc x;simp[kz7];omega
theorem zhb:∀v:zz0,v.size<=8388608->Ev (λn=>kzz n v) ((kzi v:Int),(z5j v:Int)):=zeu λv ih hs=>by
 have l1:∀d p,Ev (λn=>z05 n d p) (p,d):=λd p=>by rw[znj,Ev.yz0]
 have hsl:=zzc v;have hlen:=kzw v.list
 have loop:∀k,k<=v.list.length->∀d p:Nat,p+kz7 (v.list.drop k)<=8388609->d<=8388609->Ev (λn=>z0c n (k:Int) (d:Int) (p:Int) v.list (v.list.length:Int)) (((p+kz7 (v.list.drop k):Nat):Int),((max d (z08 (v.list.drop k)):Nat):Int)) :=
  down (λd p hp hd=>by
   rw[zea,Ev.kz1 (by simp)];refine(l1 _ _).to ?_
   simp[kz7,z08]) λk hk ihk d p hp hd=>by
   have hx:=Qad hk;have hsx:=z5h hx;rw[<-Qah (h:=hk)]at hp ⊢;simp only[kz7,z08]at hp ⊢;have hpl:=znc v.list[k];have hdl:=yft v.list[k];rw[zea,Ev.zz2 (by simpa using hk),Ev.zz3 (zzb hk),zz0.yz2,Ev.kz0 (ih _ hx (by omega)),wI (x:=_+1) (by omega),wI (x:=(z5j _:Int)+1) (by omega),wI (x:=(p:Int)+_) (by omega)];have e1:(k:Int)+1=((k+1:Nat):Int):=by omega
   have e2:(z5j v.list[k]:Int)+1=((1+z5j v.list[k]:Nat):Int):=by omega
   have e3:(p:Int)+(kzi v.list[k]:Int)=((p+kzi v.list[k]:Nat):Int):=by omega
   rw[e1,e2,e3,zxh];refine(ihk (max d (1+z5j v.list[k])) (p+kzi v.list[k]) (by omega) (by omega)).to ?_
   congr 2 <;> omega
 rw[ztj];by_cases hk:v.kind=4;rw[Ev.zz2 (by simpa using hk)];have hv:=zyo v.list;have:=loop 0 (Qbm _) 1 1 (by simp;omega) (by omega);refine this.to ?_;rw[kzb,z1x,Qbo hk,Qbo hk,List.drop_zero];rw[Ev.kz1 (by simpa using hk)];refine(l1 1 1).to ?_;rw[kzb,z1x,Qbp hk,Qbp hk];rfl
theorem zli:∀v:zz0,v.size<=8388608->Ev (λn=>z1i n v) (kzi v:Int):=zeu λv ih hs=>by
 have hsl:=zzc v;have hlen:=kzw v.list;rw[y0g,zz0.yz2,kzb];by_cases hk:v.kind=4;rw[Qbo hk];have hkk:(v.kind==4)=true:=by simpa using hk
 have loop:∀k,k<=v.list.length->∀p:Nat,p+kz7 (v.list.drop k)<=8388609->Ev (λn=>z1k n (k:Int) (p:Int) v) ((p+kz7 (v.list.drop k):Nat):Int) :=
  down (λp hp=>by
   rw[zce,Ev.kz1 (by simp),zbs,Ev.kz1 (by rfl),Ev.yz0]
   simp[kz7]) λk hk ihk p hp=>by
   have hx:=Qad hk;have hsx:=z5h hx;rw[<-Qah (h:=hk)]at hp ⊢;simp only[kz7]at hp ⊢;have hpl:=znc v.list[k];rw[zce,Ev.zz2 (by simpa using hk),hkk,zz0.yz2,zbs,Ev.zz2 (by rfl),Ev.zz3 (zzb hk),zz0.yz2,Ev.kz0 (ih _ hx (by omega)),wI (x:=_+1) (by omega),wI (x:=(p:Int)+_) (by omega)];have e1:(k:Int)+1=((k+1:Nat):Int):=by omega
   have e3:(p:Int)+(kzi v.list[k]:Int)=((p+kzi v.list[k]:Nat):Int):=by omega
   rw[e1,e3,zz0.yz2];refine(ihk (p+kzi v.list[k]) (by omega)).to ?_
   congr 1;omega
 have hv:=zyo v.list;exact loop 0 (Qbm _) 1 (by simp;omega);rw[Qbp hk];have hkk:(v.kind==4)=false:=by simpa using hk
 have l1:Ev (λn=>z1u n 0 1 false v) 1:=by rw[zbs,Ev.kz1 (by rfl),Ev.yz0]
 rw[zce,hkk,zz0.yz2,Ev.pif];split <;> exact l1
theorem yil:∀v:zz0,v.size<=8388608->Ev (λn=>z6k n v) (z5j v:Int):=zeu λv ih hs=>by
 have hsl:=zzc v;have hlen:=kzw v.list;rw[y5n,zz0.yz2,z1x];by_cases hk:v.kind=4;rw[Qbo hk];have hkk:(v.kind==4)=true:=by simpa using hk
 have loop:∀k,k<=v.list.length->∀p:Nat,p<=8388609->Ev (λn=>z34 n (k:Int) (p:Int) v) ((max p (z08 (v.list.drop k)):Nat):Int) :=
  down (λp hp=>by
   rw[zct,Ev.kz1 (by simp),zcw,Ev.kz1 (by rfl),Ev.yz0]
   simp[z08]) λk hk ihk p hp=>by
   have hx:=Qad hk;have hsx:=z5h hx;rw[<-Qah (h:=hk)];simp only[z08];have hpl:=znc v.list[k];have hdl:=yft v.list[k];rw[zct,Ev.zz2 (by simpa using hk),hkk,zz0.yz2,zcw,Ev.zz2 (by rfl),Ev.zz3 (zzb hk),zz0.yz2,Ev.kz0 (ih _ hx (by omega)),wI (x:=_+1) (by omega),wI (x:=1+_) (by omega)];have e1:(k:Int)+1=((k+1:Nat):Int):=by omega
   have e3:1+(z5j v.list[k]:Int)=((1+z5j v.list[k]:Nat):Int):=by omega
   rw[e1,e3,zz0.yz2,zxh];refine(ihk (max p (1+z5j v.list[k])) (by omega)).to ?_
   congr 1;omega
 exact loop 0 (Qbm _) 1 (by omega);rw[Qbp hk];have hkk:(v.kind==4)=false:=by simpa using hk
 have l1:Ev (λn=>z2c n 0 1 false v) 1:=by rw[zcw,Ev.kz1 (by rfl),Ev.yz0]
 rw[zct,hkk,zz0.yz2,Ev.pif];split <;> exact l1
def v0:zz0:=⟨0,⟨0,0⟩,false,[],[]⟩
def zi3(c:UInt8):Bool:=decide (32<=c.toNat)&&decide (c.toNat<=126)
def nul(v:yz1):Bool:=v.num==0&&v.den==0
mutual
def z4s:zz0->Bool
 |⟨k,q,t,s,l⟩ =>
  if k=1 then rok q&&(!t&&(s.isEmpty&&l.isEmpty))
  else if k=2 then nul q&&(s.isEmpty&&l.isEmpty)
  else if k=3 then nul q&&(!t&&(l.isEmpty&&(decide (s.length<=60)&&s.all zi3)))
  else if k=4 then nul q&&(!t&&(s.isEmpty&&zc8 l))
  else false
def zc8:kz2->Bool
 |[]=>true
 |x::l=>z4s x&&zc8 l
end
theorem z80(v:zz0):z4s v =
 if v.kind=1 then rok v.num&&(!v.truth&&(v.str.isEmpty&&v.list.isEmpty))
 else if v.kind=2 then nul v.num&&(v.str.isEmpty&&v.list.isEmpty)
 else if v.kind=3 then nul v.num&&(!v.truth&&(v.list.isEmpty&&(decide (v.str.length<=60)&&v.str.all zi3)))
 else if v.kind=4 then nul v.num&&(!v.truth&&(v.str.isEmpty&&zc8 v.list))
 else false:=by cases v;rw[z4s]
theorem y18(l:kz2):zc8 l=l.all z4s:=by
 induction l with
 |nil=>rfl
 |cons x l ih=>simp[zc8,ih]
def yz5(v:zz0):Int:=if 100<kzi v∨6<z5j v then 4 else if z4s v then 0 else 8
theorem zhd{v:zz0}(h:v.wf):wfR v.num:=by
 rw[zz0.zbe]at h;have:=h.2.1;rw[yz1.zbe]at this;simpa[wfR,I64,IntKind.min,IntKind.max,IntKind.signed,IntKind.bits]using this
theorem ysg{v:zz0}(h:v.wf):∀x∈v.list,x.wf:=by
 rw[zz0.zbe]at h;exact h.2.2.2.2
theorem zdg{v:zz0}:Ev (λn=>yzz n v) (nul v.num&&(!v.truth&&(v.str.isEmpty&&v.list.isEmpty))):=by
 rw[zu2];obtain⟨k,⟨p,q⟩,t,s,l⟩:=v;simp only[Ev.pif,Ev.yz0,nul,Bool.and_true];cases p==0 <;> cases q==0 <;> cases t <;> cases s <;> cases l <;> simp <;> omega
theorem yje:∀v:zz0,v.wf->v.size<=8388608->Ev (λn=>z6m n v) (z4s v):=zeu λv ih hw hs=>by
 have hsl:=zzc v;have hlen:=kzw v.list;rw[y75,z80];by_cases h1:v.kind=1;rw[Qbo h1,Ev.zz2 (by simpa using h1),Ev.kz0 (zgl (zhd hw).1)];cases hr:rok v.num;rw[Ev.zz2 (by rfl),Ev.yz0];rfl;rw[Ev.kz1 (by rfl)];exact zdg;rw[Qbp h1,Ev.kz1 (by simpa using h1)];by_cases h2:v.kind=2;rw[Qbo h2,Ev.zz2 (by simpa using h2)];exact zdg;rw[Qbp h2,Ev.kz1 (by simpa using h2)];by_cases h3:v.kind=3
 rw[Qbo h3,Ev.zz2 (by simpa using h3)];by_cases hl:v.str.length<=60;rw[Ev.kz1 (by simp;omega),zz0.yz2]
 have loop:∀w:zz0,∀k,k<=v.str.length->Ev (λn=>z2u n (k:Int) v w) ((v.str.drop k).all zi3&&(nul w.num&&(!w.truth&&(w.str.isEmpty&&w.list.isEmpty)))):=λw=>
  down (by
   rw[zif,Ev.kz1 (by simp),zz0.yz2]
   simpa using zdg) λk hk ihk=>by
   have bad:Ev (λn=>z2i n (k:Int) true v w) false:=by rw[zhx,Ev.zz2 (by rfl),Ev.yz0]
   rw[<-Qah (h:=hk),List.all_cons];rw[zif,Ev.zz2 (by simpa using hk),Ev.zz3 (zzb hk),zz0.yz2,zz0.yz2];by_cases c1:v.str[k].toNat<32;rw[Ev.zz2 (by simp;omega)];refine bad.to ?_;have:zi3 v.str[k]=false:=by simp[zi3];omega
   rw[this];rfl;rw[Ev.kz1 (by simp;omega),Ev.zz3 (zzb hk)];by_cases c2:v.str[k].toNat>126;rw[show decide ((v.str[k].toNat:Int)>126)=true by simp;omega];refine bad.to ?_;have:zi3 v.str[k]=false:=by simp[zi3];omega
   rw[this];rfl;rw[show decide ((v.str[k].toNat:Int)>126)=false by simp;omega,zhx,Ev.kz1 (by rfl),wrk (by omega),zz0.yz2,zz0.yz2];have:zi3 v.str[k]=true:=by simp[zi3];omega
   rw[this,Bool.true_and];exact ihk
 refine(loop ⟨v.kind,v.num,v.truth,[],v.list⟩ 0 (Qbm _)).to ?_;simp only[List.drop_zero,hl,decide_true,Bool.true_and,List.isEmpty_nil];cases nul v.num <;> cases v.truth <;> cases v.list.isEmpty <;> cases v.str.all zi3 <;> rfl
 rw[Ev.zz2 (by simp;omega),Ev.yz0];simp[hl];rw[Qbp h3,Ev.kz1 (by simpa using h3)];by_cases h4:v.kind=4;rw[Qbo h4,Ev.zz2 (by simpa using h4)]
 have loop:∀w:zz0,∀k,k<=v.list.length->Ev (λn=>z2y n (k:Int) v.list (v.list.length:Int) w) (zc8 (v.list.drop k)&&(nul w.num&&(!w.truth&&(w.str.isEmpty&&w.list.isEmpty)))):=λw=>
  down (by
   rw[zib,Ev.kz1 (by simp),zz0.yz2]
   simpa[zc8]using zdg) λk hk ihk=>by
   have hx:=Qad hk;have hsx:=z5h hx;rw[<-Qah (h:=hk),zc8];rw[zib,Ev.zz2 (by simpa using hk),Ev.zz3 (zzb hk),zz0.yz2,Ev.kz0 (ih _ hx (ysg hw _ hx) (by omega))];cases hf:z4s v.list[k];rw[Ev.zz2 (by rfl),Ev.yz0];rfl;rw[Ev.kz1 (by rfl),wrk (by omega),zz0.yz2,Bool.true_and];exact ihk
 refine(loop ⟨v.kind,v.num,v.truth,v.str,[]⟩ 0 (Qbm _)).to ?_;simp only[List.drop_zero,List.isEmpty_nil,Bool.and_true];cases nul v.num <;> cases v.truth <;> cases v.str.isEmpty <;> cases zc8 v.list <;> rfl
 rw[Qbp h4,Ev.kz1 (by simpa using h4),Ev.yz0]
theorem zbd{v:zz0}(hw:v.wf)(hs:v.size<=8388608):Ev (λn=>zzl n v) (yz5 v):=by
 have l0:∀b,Ev (λn=>z1s n b v) (if b then 4 else if z4s v then 0 else 8):=λb=>by
  rw[zs4];cases b;rw[Ev.kz1 (by rfl),zz0.yz2,Ev.kz0 (yje v hw hs)];cases z4s v;rw[Ev.zz2 (by rfl),Ev.yz0];rfl;rw[Ev.kz1 (by rfl),Ev.yz0];rfl;rw[Ev.zz2 (by rfl),Ev.yz0];rfl
 rw[y2c,zz0.yz2,Ev.kz0 (zhb v hs)];unfold yz5;simp only[Ev.pif];by_cases h1:100<kzi v;rw[Qbo (by simp;omega),Qbo (.inl h1)];exact l0 true;rw[Qbp (by simp;omega)];by_cases h2:6<z5j v;rw[Qbo (.inr h2),show decide ((z5j v:Int)>6)=true by simp;omega];exact l0 true;rw[Qbp (by omega),show decide ((z5j v:Int)>6)=false by simp;omega];exact l0 false
theorem yk3:∀v:zz0,v.size<=8388608->Ev (λn=>z6f n v) (z4s v):=zeu λv ih hs=>by
 have hsl:=zzc v;have hlen:=kzw v.list;rw[y6r,z80];have hnul:((v.num.num==0)&&((v.num.den==0)&&true))=nul v.num:=by simp[nul]
 have hstr:((v.str.length:Int)==0)=v.str.isEmpty:=by cases v.str <;> simp;omega
 have hlst:((v.list.length:Int)==0)=v.list.isEmpty:=by cases v.list <;> simp;omega
 have hgt:decide ((v.list.length:Int)>0) = !v.list.isEmpty:=by cases v.list <;> simp
 have hgs:decide ((v.str.length:Int)>0) = !v.str.isEmpty:=by cases v.str <;> simp
 simp only[hnul,hstr,hlst,hgt,hgs];by_cases h1:v.kind=1;rw[Qbo h1,Ev.zz2 (by simpa using h1),Ev.kz0 z8r];cases hr:rok v.num <;> cases ht:v.truth <;> cases hss:v.str.isEmpty <;> simp[Ev.pif,Ev.yz0]
 rw[Qbp h1,Ev.kz1 (by simpa using h1)];by_cases h2:v.kind=2;rw[Qbo h2,Ev.zz2 (by simpa using h2)];cases hr:nul v.num <;> cases hss:v.str.isEmpty <;> simp[Ev.pif,Ev.yz0]
 rw[Qbp h2,Ev.kz1 (by simpa using h2)];by_cases h3:v.kind=3;rw[Qbo h3,Ev.zz2 (by simpa using h3)];have bad:Ev (λn=>zzn n true v) false:=by rw[zig,Ev.zz2 (by rfl),Ev.yz0]
 have loop:∀k,k<=v.str.length->Ev (λn=>z30 n (k:Int) v) ((v.str.drop k).all zi3) :=
  down (by
   rw[zin,Ev.kz1 (by simp),Ev.yz0]
   simp) λk hk ihk=>by
   have bad:Ev (λn=>z2n n (k:Int) true v) false:=by rw[zi9,Ev.zz2 (by rfl),Ev.yz0]
   rw[<-Qah (h:=hk),List.all_cons];rw[zin,Ev.zz2 (by simpa using hk),Ev.zz3 (zzb hk),zz0.yz2];by_cases c1:v.str[k].toNat<32;rw[Ev.zz2 (by simp;omega)];refine bad.to ?_;have:zi3 v.str[k]=false:=by simp[zi3];omega
   rw[this];rfl;rw[Ev.kz1 (by simp;omega),Ev.zz3 (zzb hk)];by_cases c2:v.str[k].toNat>126;rw[show decide ((v.str[k].toNat:Int)>126)=true by simp;omega];refine bad.to ?_;have:zi3 v.str[k]=false:=by simp[zi3];omega
   rw[this];rfl;rw[show decide ((v.str[k].toNat:Int)>126)=false by simp;omega,zi9,Ev.kz1 (by rfl),wrk (by omega),zz0.yz2];have:zi3 v.str[k]=true:=by simp[zi3];omega
   rw[this,Bool.true_and];exact ihk
 have good:Ev (λn=>zzn n false v) (v.str.all zi3):=by
  rw[zig,Ev.kz1 (by rfl),zz0.yz2];simpa using loop 0 (Qbm _)
 rw[zz0.yz2];cases hr:nul v.num;rw[Ev.zz2 (by rfl)];exact bad;rw[Ev.kz1 (by rfl)];cases ht:v.truth;rw[Ev.kz1 (by rfl)];cases hl:v.list.isEmpty;rw[Ev.zz2 (by rfl)];exact bad;rw[Ev.kz1 (by rfl)];by_cases h60:v.str.length<=60;rw[show decide ((v.str.length:Int)>60)=false by simp;omega];simpa[h60]using good;rw[show decide ((v.str.length:Int)>60)=true by simp;omega];simpa[h60]using bad;rw[Ev.zz2 (by rfl)];exact bad
 rw[Qbp h3,Ev.kz1 (by simpa using h3)];by_cases h4:v.kind=4;rw[Qbo h4,Ev.zz2 (by simpa using h4)];have bad:Ev (λn=>yzy n true v) false:=by rw[zhk,Ev.zz2 (by rfl),Ev.yz0]
 have loop:∀k,k<=v.list.length->Ev (λn=>z2p n (k:Int) v) (zc8 (v.list.drop k)) :=
  down (by
   rw[zij,Ev.kz1 (by simp),Ev.yz0]
   simp[zc8]) λk hk ihk=>by
   have hx:=Qad hk;have hsx:=z5h hx;rw[<-Qah (h:=hk),zc8];rw[zij,Ev.zz2 (by simpa using hk),Ev.zz3 (zzb hk),zz0.yz2,Ev.kz0 (ih _ hx (by omega))];cases hf:z4s v.list[k];rw[Ev.zz2 (by rfl),Ev.yz0];rfl;rw[Ev.kz1 (by rfl),wrk (by omega),zz0.yz2,Bool.true_and];exact ihk
 have good:Ev (λn=>yzy n false v) (zc8 v.list):=by
  rw[zhk,Ev.kz1 (by rfl),zz0.yz2];simpa using loop 0 (Qbm _)
 rw[zz0.yz2];cases hr:nul v.num;rw[Ev.zz2 (by rfl)];exact bad;rw[Ev.kz1 (by rfl)];cases ht:v.truth;rw[Ev.kz1 (by rfl)];cases hl:v.str.isEmpty;exact bad;simpa using good;rw[Ev.zz2 (by rfl)];exact bad;rw[Qbp h4,Ev.kz1 (by simpa using h4),Ev.yz0]
theorem z7j{v:zz0}(hs:v.size<=8388608):Ev (λn=>yze n v) (yz5 v):=by
 have l0:∀b,Ev (λn=>z19 n b v) (if b then 4 else if z4s v then 0 else 8):=λb=>by
  rw[zr7];cases b;rw[Ev.kz1 (by rfl),zz0.yz2,Ev.kz0 (yk3 v hs)];cases z4s v;rw[Ev.zz2 (by rfl),Ev.yz0];rfl;rw[Ev.kz1 (by rfl),Ev.yz0];rfl;rw[Ev.zz2 (by rfl),Ev.yz0];rfl
 rw[y1e,zz0.yz2,Ev.kz0 (zli v hs)];unfold yz5;by_cases h1:100<kzi v;rw[Ev.zz2 (by simp;omega),Qbo (.inl h1)];exact l0 true;rw[Ev.kz1 (by simp;omega),Ev.kz0 (yil v hs)];by_cases h2:6<z5j v;rw[Qbo (.inr h2),show decide ((z5j v:Int)>6)=true by simp;omega];exact l0 true;rw[Qbp (by omega),show decide ((z5j v:Int)>6)=false by simp;omega];exact l0 false
theorem vext{a b:zz0}(h1:a.kind=b.kind)(h2:a.num.num=b.num.num)(h3:a.num.den=b.num.den)(h4:a.truth=b.truth)(h5:a.str=b.str)(h6:a.list=b.list):a=b:=by
 obtain⟨k,⟨p,q⟩,t,s,l⟩:=a;obtain⟨k',⟨p',q'⟩,t',s',l'⟩:=b
 simp_all
theorem yeu{α:Type}{x y:α}{l m:List α}:eqB (x::l) (y::m)=(eqB x y&&eqB l m):=by
 cases h:(eqB x y&&eqB l m)
 rw[kzh];intro hh;injection hh with h1 h2
 rw[Bool.and_eq_false_iff,kzh,kzh]at h;exact h.elim (λh=>h h1) (λh=>h h2);rw[zao];rw[Qag,zao,zao]at h;rw[h.1,h.2]
theorem zjv:∀a b:zz0,a.size<=8388608->Ev (λn=>yzm n a b) (eqB a b):=zeu (P:=λa=>∀b:zz0,a.size<=8388608->Ev (λn=>yzm n a b) (eqB a b)) λa ih b hs=>by
 have hsl:=zzc a;have hlen:=kzw a.list;have bad:a≠b->Ev (λn=>kzn n true b a) (eqB a b):=λh=>by rw[zhz,Ev.zz2 (by rfl),Ev.yz0,kzh.2 h]
 rw[y3w,zz0.yz2,zz0.yz2];by_cases h1:a.kind=b.kind
 case neg=>rw[Ev.zz2 (by simpa using h1)];exact bad λh=>h1 (by rw[h])
 rw[Ev.kz1 (by simpa using h1)];by_cases h2:a.num.num=b.num.num∧a.num.den=b.num.den
 case neg=>rw[Ev.zz2 (by simp;omega)];exact bad λh=>h2 (by rw[h];exact⟨rfl,rfl⟩)
 rw[Ev.kz1 (by simp[h2])];by_cases h3:a.truth=b.truth
 case neg=>rw[Ev.zz2 (by simpa using h3)];exact bad λh=>h3 (by rw[h])
 rw[Ev.kz1 (by simp[h3])];by_cases h4:a.str=b.str
 case neg=>rw[Ev.zz2 (by simpa using h4)];exact bad λh=>h4 (by rw[h])
 rw[Ev.kz1 (by simp[h4])];by_cases h5:a.list.length=b.list.length
 case neg=>rw[show((a.list.length:Int) != (b.list.length:Int))=true by simp;omega];exact bad λh=>h5 (by rw[h])
 rw[show((a.list.length:Int) != (b.list.length:Int))=false by simp;omega,zhz,Ev.kz1 (by rfl),zz0.yz2,zz0.yz2]
 have loop:∀k,k<=a.list.length->Ev (λn=>z3f n (k:Int) (a.list.length:Int) b a) (eqB (a.list.drop k) (b.list.drop k)) :=
  down (by
   rw[ziu,Ev.kz1 (by simp),Ev.yz0,List.drop_length,h5,List.drop_length,z7r]) λk hk ihk=>by
   have hk2:k<b.list.length:=by omega
   have hx:=Qad hk;have hsx:=z5h hx;rw[<-Qah (h:=hk),<-Qah (h:=hk2),yeu];rw[ziu,Ev.zz2 (by simpa using hk),Ev.zz3 (zzb hk),Ev.zz3 (zzb hk2),zz0.yz2,zz0.yz2,Ev.kz0 (ih _ hx _ (by omega))];cases hf:eqB a.list[k] b.list[k];rw[Ev.zz2 (by rfl),Ev.yz0];rfl;rw[Ev.kz1 (by rfl),wrk (by omega),zz0.yz2,zz0.yz2,Bool.true_and];exact ihk
 refine(loop 0 (Qbm _)).to ?_;rw[List.drop_zero,List.drop_zero];by_cases h6:a.list=b.list;rw[zao.2 h6,zao.2 (vext h1 h2.1 h2.2 h3 h4 h6)];rw[kzh.2 h6,kzh.2 λh=>h6 (by rw[h])]
theorem zjs:∀a b:zz0,a.size<=8388608->Ev (λn=>kzo n a b) (eqB a b):=zeu (P:=λa=>∀b:zz0,a.size<=8388608->Ev (λn=>kzo n a b) (eqB a b)) λa ih b hs=>by
 have hsl:=zzc a;have hlen:=kzw a.list;have bad:a≠b->Ev (λn=>yzp n true b a) (eqB a b):=λh=>by rw[zii,Ev.zz2 (by rfl),Ev.yz0,kzh.2 h]
 rw[y4t,zz0.yz2,zz0.yz2];by_cases h1:a.kind=b.kind
 case neg=>rw[Ev.zz2 (by simpa using h1)];exact bad λh=>h1 (by rw[h])
 rw[Ev.kz1 (by simpa using h1)];by_cases h2:a.num.num=b.num.num∧a.num.den=b.num.den
 case neg=>rw[Ev.zz2 (by simp;omega)];exact bad λh=>h2 (by rw[h];exact⟨rfl,rfl⟩)
 rw[Ev.kz1 (by simp[h2])];by_cases h3:a.truth=b.truth
 case neg=>rw[Ev.zz2 (by simpa using h3)];exact bad λh=>h3 (by rw[h])
 rw[Ev.kz1 (by simp[h3])];by_cases h4:a.str=b.str
 case neg=>rw[Ev.zz2 (by simpa using h4)];exact bad λh=>h4 (by rw[h])
 rw[Ev.kz1 (by simp[h4])];by_cases h5:a.list.length=b.list.length
 case neg=>rw[show((a.list.length:Int) != (b.list.length:Int))=true by simp;omega];exact bad λh=>h5 (by rw[h])
 rw[show((a.list.length:Int) != (b.list.length:Int))=false by simp;omega,zii,Ev.kz1 (by rfl),zz0.yz2,zz0.yz2]
 have loop:∀k,k<=a.list.length->Ev (λn=>z2d n (k:Int) b a) (eqB (a.list.drop k) (b.list.drop k)) :=
  down (by
   rw[ziy,Ev.kz1 (by simp),Ev.yz0,List.drop_length,h5,List.drop_length,z7r]) λk hk ihk=>by
   have hk2:k<b.list.length:=by omega
   have hx:=Qad hk;have hsx:=z5h hx;rw[<-Qah (h:=hk),<-Qah (h:=hk2),yeu];rw[ziy,Ev.zz2 (by simpa using hk),Ev.zz3 (zzb hk),Ev.zz3 (zzb hk2),zz0.yz2,zz0.yz2,Ev.kz0 (ih _ hx _ (by omega))];cases hf:eqB a.list[k] b.list[k];rw[Ev.zz2 (by rfl),Ev.yz0];rfl;rw[Ev.kz1 (by rfl),wrk (by omega),zz0.yz2,zz0.yz2,Bool.true_and];exact ihk
 refine(loop 0 (Qbm _)).to ?_;rw[List.drop_zero,List.drop_zero];by_cases h6:a.list=b.list;rw[zao.2 h6,zao.2 (vext h1 h2.1 h2.2 h3 h4 h6)];rw[kzh.2 h6,kzh.2 λh=>h6 (by rw[h])]
theorem z3p{α:Type}{l:List α}{k:Nat}(h:k<l.length):l.take k++[l[k]]=l.take (k+1):=by
 rw[List.take_add_one,Qab h];rfl
theorem zro:∀v:zz0,v.size<=8388608->Ev (λn=>z25 n v) v:=zeu λv ih hs=>by
 have hsl:=zzc v;have hlen:=kzw v.list
 have loop:∀k,k<=v.list.length->∀a4 a5 a6 a7 a8 a10,Ev (λn=>z0u n (k:Int) v.list (v.list.length:Int) (v.list.take k) a4 a5 a6 a7 a8 v a10) v :=
  down (λa4 a5 a6 a7 a8 a10=>by
   rw[zfq,Ev.kz1 (by simp),Ev.yz0,List.take_length];exact zz0.yz2 v) λk hk ihk a4 a5 a6 a7 a8 a10=>by
   have hx:=Qad hk;have hsx:=z5h hx;rw[zfq,Ev.zz2 (by simpa using hk),Ev.zz3 (zzb hk),zz0.yz2,Ev.kz0 (ih _ hx (by omega)),zz0.yz2,Ev.zz3 (z9v (by simp;omega)),wrk (by omega),zz0.yz2,z3p hk];exact ihk _ _ _ _ _ _
 rw[zwc,zz0.yz2];exact loop 0 (Qbm _) _ _ _ _ _ _
theorem zwd{v:zz0}(hs:v.size<=8388608):Ev (λn=>z2e n v) (v.kind,v.num.num,v.num.den,v.truth,v.str,v.list):=by
 have hsl:=zzc v;have hlen:=kzw v.list
 have loop:∀k,k<=v.list.length->∀a4 a5 a6 a7 a8 a10,Ev (λn=>yzr n (k:Int) v.list (v.list.length:Int) (v.list.take k) a4 a5 a6 a7 a8 v a10) (v.kind,v.num.num,v.num.den,v.truth,v.str,v.list) :=
  down (λa4 a5 a6 a7 a8 a10=>by
   rw[zcr,Ev.kz1 (by simp),Ev.yz0,List.take_length]) λk hk ihk a4 a5 a6 a7 a8 a10=>by
   have hx:=Qad hk;have hsx:=z5h hx;rw[zcr,Ev.zz2 (by simpa using hk),Ev.zz3 (zzb hk),zz0.yz2,Ev.kz0 (zro _ (by omega)),zz0.yz2,Ev.zz3 (z9v (by simp;omega)),wrk (by omega),zz0.yz2,z3p hk];exact ihk _ _ _ _ _ _
 rw[zpg,zz0.yz2];exact loop 0 (Qbm _) _ _ _ _ _ _
theorem zoi{v:zz0}(hs:v.size<=8388608):Ev (λn=>z33 n v) (v.kind,v.num.num,v.num.den,v.truth,v.str,v.list):=by
 rw[zte,zz0.yz2,Ev.kz0 (zwd hs),Ev.yz0]
theorem zou{v:zz0}(hs:v.size<=8388608):Ev (λn=>z4n n v) v:=by
 rw[y3v,zz0.yz2,Ev.kz0 (zro v hs),Ev.yz0,zz0.yz2]
theorem zpp:∀v:zz0,v.size<=8388608->Ev (λn=>z3k n v) v:=zeu λv ih hs=>by
 have hsl:=zzc v;have hlen:=kzw v.list
 have loop:∀k,k<=v.list.length->∀a7 a8 a9 a10 a11 a13,Ev (λn=>z3g n (k:Int) v.kind v.num.num v.num.den v.truth v.str v a7 a8 a9 a10 a11 (v.list.take k) a13) v :=
  down (λa7 a8 a9 a10 a11 a13=>by
   rw[zi1,Ev.kz1 (by simp),Ev.yz0,List.take_length];exact zz0.yz2 v) λk hk ihk a7 a8 a9 a10 a11 a13=>by
   have hx:=Qad hk;have hsx:=z5h hx;rw[zi1,Ev.zz2 (by simpa using hk),Ev.zz3 (zzb hk),zz0.yz2,Ev.kz0 (ih _ hx (by omega)),zz0.yz2,Ev.zz3 (z9v (by simp;omega)),wrk (by omega),zz0.yz2,z3p hk];exact ihk _ _ _ _ _ _
 rw[y7a,zz0.yz2];exact loop 0 (Qbm _) _ _ _ _ _ _
theorem znv{v:zz0}(hs:v.size<=8388608):Ev (λn=>z3d n v) (v.kind,v.num.num,v.num.den,v.truth,v.str,v.list):=by
 have hsl:=zzc v;have hlen:=kzw v.list
 have loop:∀k,k<=v.list.length->∀a7 a8 a9 a10 a11 a13,Ev (λn=>z09 n (k:Int) v.kind v.num.num v.num.den v.truth v.str v a7 a8 a9 a10 a11 (v.list.take k) a13) (v.kind,v.num.num,v.num.den,v.truth,v.str,v.list) :=
  down (λa7 a8 a9 a10 a11 a13=>by
   rw[ze9,Ev.kz1 (by simp),Ev.yz0,List.take_length]) λk hk ihk a7 a8 a9 a10 a11 a13=>by
   have hx:=Qad hk;have hsx:=z5h hx;rw[ze9,Ev.zz2 (by simpa using hk),Ev.zz3 (zzb hk),zz0.yz2,Ev.kz0 (zpp _ (by omega)),zz0.yz2,Ev.zz3 (z9v (by simp;omega)),wrk (by omega),zz0.yz2,z3p hk];exact ihk _ _ _ _ _ _
 rw[ztg,zz0.yz2];exact loop 0 (Qbm _) _ _ _ _ _ _
theorem yhl:∀v:zz0,v.size<=8388608->∀d:Int,∃b,Ev (λn=>z5f n v d) b:=zeu λv ih hs d=>by
 have hsl:=zzc v;have hlen:=kzw v.list
 have loop:∀k,k<=v.list.length->∀d:Int,∃b,Ev (λn=>z1v n (k:Int) d v) b :=
  down (λd=>⟨false,by rw[zg4,Ev.kz1 (by simp),Ev.yz0]⟩) λk hk ihk d=>by
   have hx:=Qad hk;have hsx:=z5h hx;obtain⟨b,hb⟩:=ih _ hx (by omega) (IntKind.i64.wrap (d-1));obtain⟨c,hc⟩:=ihk d;refine⟨if b then true else c,?_⟩;rw[zg4,Ev.zz2 (by simpa using hk),Ev.zz3 (zzb hk),zz0.yz2,Ev.kz0 hb,zz0.yz2,wrk (by omega)];cases b;rw[Ev.kz1 (by rfl)];exact hc;rw[Ev.zz2 (by rfl),Ev.yz0];rfl
 have l0:∀d b,∃c,Ev (λn=>z0d n d b v) c:=λd b=>by
  cases b;obtain⟨c,hc⟩:=loop 0 (Qbm _) d;exact⟨c,by rw[zg6,Ev.kz1 (by rfl),zz0.yz2];exact hc⟩;exact⟨true,by rw[zg6,Ev.zz2 (by rfl),Ev.yz0]⟩
 simp only[y1g,zz0.yz2,Ev.pif];split;exact l0 _ _;split;exact l0 _ _;exact l0 _ _
theorem zv8{v:zz0}(hs:v.size<=8388608):∃b,Ev (λn=>z5d n v) b:=by
 obtain⟨b,hb⟩:=yhl v hs 10;cases b;exact⟨_,by rw[zlw,zz0.yz2,Ev.kz0 hb,Ev.kz1 (by rfl),Ev.kz0 (zli v hs)];exact Ev.yz0.2 rfl⟩;exact⟨true,by rw[zlw,zz0.yz2,Ev.kz0 hb,Ev.zz2 (by rfl),Ev.yz0]⟩
theorem cmpB:∀a b:B8,Lib.compareBytes a b=if a=b then 0 else if Op.bytesLess a b=true then -1 else 1
 |[],[]=>by simp[Lib.compareBytes]
 |[],_::_=>by simp[Lib.compareBytes,Op.bytesLess]
 |_::_,[]=>by simp[Lib.compareBytes,Op.bytesLess]
 |x::a,y::b=>by
  have ih:=cmpB a b;simp only[Lib.compareBytes,Op.bytesLess,ih];by_cases h1:x<y;have:x≠y:=λh=>by subst h;exact absurd h1 (UInt8.lt_irrefl x)
  simp[h1,this];by_cases h2:y<x;have:x≠y:=λh=>by subst h;exact h1 h2
  simp[h1,h2,this];have:x=y:=UInt8.le_antisymm (UInt8.not_lt.1 h2) (UInt8.not_lt.1 h1);subst this;simp
mutual
noncomputable def zkz:zz0->zz0->Int×Int
 |⟨k,q,t,s,l⟩,b=>
  if k≠b.kind then (0,20)
  else if k=1 then (yk2 q b.num,0)
  else if k=2 then ((if t=b.truth then 0 else if t then 1 else -1),0)
  else if k=3 then (Lib.compareBytes s b.str,0)
  else z6q l b.list
noncomputable def z6q:kz2->kz2->Int×Int
 |[],[]=>(0,0)
 |[],_::_=>(-1,0)
 |_::_,[]=>(1,0)
 |x::l,y::m=>if eqB x y then z6q l m else zkz x y
end
theorem y7j(a b:zz0):zkz a b =
 if a.kind≠b.kind then (0,20)
 else if a.kind=1 then (yk2 a.num b.num,0)
 else if a.kind=2 then ((if a.truth=b.truth then 0 else if a.truth then 1 else -1),0)
 else if a.kind=3 then (Lib.compareBytes a.str b.str,0)
 else z6q a.list b.list:=by cases a;rw[zkz]
theorem zn0{v:zz0}(h:z4s v=true)(hk:v.kind=1):rok v.num=true:=by
 rw[z80,Qbo hk]at h;simp only[Qag]at h;exact h.1
theorem z7p{v:zz0}(h:z4s v=true):∀x∈v.list,z4s x=true:=by
 rw[z80]at h;split at h;simp only[Qag,List.isEmpty_iff]at h;rw[h.2.2.2];intro x hx;cases hx;split at h;simp only[Qag,List.isEmpty_iff]at h;rw[h.2.2];intro x hx;cases hx;split at h;simp only[Qag,List.isEmpty_iff]at h;rw[h.2.2.1];intro x hx;cases hx;split at h;simp only[Qag,y18,Qas]at h;exact h.2.2.2;cases h
theorem strings_Compare{a b:B8}:Ev (λn=>z3a n a b) (Lib.compareBytes a b):=by
 rw[zpf,Ev.kz0 (a:=λn=>z15 n a b) (y:=Lib.compareBytes a b) (.pure rfl),Ev.yz0]
theorem yfx:∀a b:zz0,a.size<=8388608->z4s a=true->z4s b=true->Ev (λn=>z3t n a b) (zkz a b):=zeu (P:=λa=>∀b:zz0,a.size<=8388608->z4s a=true->z4s b=true->Ev (λn=>z3t n a b) (zkz a b)) λa ih b hs hfa hfb=>by
 have hsl:=zzc a;have hlen:=kzw a.list;rw[y2n,y7j];by_cases h0:a.kind=b.kind
 case neg=>rw[Ev.zz2 (by simpa using h0),Qbo h0,Ev.yz0]
 rw[Ev.kz1 (by simpa using h0),Qbp (by simpa using h0)];by_cases h1:a.kind=1;rw[Ev.zz2 (by simpa using h1),Qbo h1,Ev.kz0 (ymk (zn0 hfa h1) (zn0 hfb (by omega))),Ev.yz0];rw[Ev.kz1 (by simpa using h1),Qbp h1];by_cases h2:a.kind=2;rw[Ev.zz2 (by simpa using h2),Qbo h2];cases a.truth <;> cases b.truth <;> simp[Ev.pif,Ev.yz0]
 rw[Ev.kz1 (by simpa using h2),Qbp h2];by_cases h3:a.kind=3;rw[Ev.zz2 (by simpa using h3),Qbo h3,Ev.kz0 strings_Compare,Ev.yz0];rw[Ev.kz1 (by simpa using h3),Qbp h3,zz0.yz2,zz0.yz2]
 have loop:∀k,k<=a.list.length->k<=b.list.length->Ev (λn=>z0e n (k:Int) a.list (a.list.length:Int) b a) (z6q (a.list.drop k) (b.list.drop k)) :=
  down (Q:=λk=>k<=b.list.length->Ev (λn=>z0e n (k:Int) a.list (a.list.length:Int) b a) (z6q (a.list.drop k) (b.list.drop k))) (λhb=>by
   rw[zg0,Ev.kz1 (by simp),List.drop_length];by_cases hlt:a.list.length<b.list.length;rw[Ev.zz2 (by simpa using hlt),Ev.yz0,<-Qah (h:=hlt),z6q]
   rw[Ev.kz1 (by simpa using hlt),Ev.yz0,List.drop_of_length_le (by omega),z6q]) λk hk ihk hb=>by
   have hx:=Qad hk;have hsx:=z5h hx;rw[zg0,Ev.zz2 (by simpa using hk),Ev.zz3 (zzb hk),<-Qah (h:=hk)];by_cases he:k=b.list.length;rw[Ev.zz2 (by simp;omega),Ev.yz0,List.drop_of_length_le (l:=b.list) (by omega),z6q];have hk2:k<b.list.length:=by omega
   rw[Ev.kz1 (by simp;omega),Ev.zz3 (zzb hk2),zz0.yz2,zz0.yz2,Ev.kz0 (zjv _ _ (by omega)),<-Qah (h:=hk2),z6q];cases hf:eqB a.list[k] b.list[k];rw[Ev.zz2 (by rfl),Ev.zz3 (zzb hk2),zz0.yz2,Ev.kz0 (ih _ hx _ (by omega) (z7p hfa _ hx) (z7p hfb _ (Qad hk2))),Ev.yz0];rfl;rw[Ev.kz1 (by rfl),wrk (by omega),zz0.yz2,zz0.yz2,Qbo rfl];exact ihk (by omega)
 exact loop 0 (Qbm _) (Qbm _)
theorem y3s:∀a b:zz0,a.size<=8388608->z4s a=true->z4s b=true->Ev (λn=>z13 n a b) (zkz a b):=zeu (P:=λa=>∀b:zz0,a.size<=8388608->z4s a=true->z4s b=true->Ev (λn=>z13 n a b) (zkz a b)) λa ih b hs hfa hfb=>by
 have hsl:=zzc a;have hlen:=kzw a.list;rw[zsq,y7j];by_cases h0:a.kind=b.kind
 case neg=>rw[Ev.zz2 (by simpa using h0),Qbo h0,Ev.yz0]
 rw[Ev.kz1 (by simpa using h0),Qbp (by simpa using h0)];by_cases h1:a.kind=1;rw[Ev.zz2 (by simpa using h1),Qbo h1,Ev.kz0 (ynj (zn0 hfa h1) (zn0 hfb (by omega))),Ev.yz0];rw[Ev.kz1 (by simpa using h1),Qbp h1];by_cases h2:a.kind=2;rw[Ev.zz2 (by simpa using h2),Qbo h2];cases a.truth <;> cases b.truth <;> simp[Ev.pif,Ev.yz0]
 rw[Ev.kz1 (by simpa using h2),Qbp h2];by_cases h3:a.kind=3;rw[Ev.zz2 (by simpa using h3),Qbo h3,cmpB];by_cases hab:a.str=b.str;rw[Ev.zz2 (by simpa using hab),Qbo hab,Ev.yz0];rw[Ev.kz1 (by simpa using hab),Qbp hab];simp only[Ev.pif,Ev.yz0];split <;> rfl
 rw[Ev.kz1 (by simpa using h3),Qbp h3,zz0.yz2,zz0.yz2]
 have fin:∀k,(k=a.list.length∨k=b.list.length)->k<=a.list.length->k<=b.list.length->Ev (λn=>z04 n (k:Int) false b a) (z6q (a.list.drop k) (b.list.drop k)):=λk hor h1 h2=>by
  rw[ze7,Ev.kz1 (by rfl)];by_cases c1:a.list.length<b.list.length;rw[Ev.zz2 (by simpa using c1),Ev.yz0,List.drop_of_length_le (by omega),<-Qah (h:=show k<b.list.length by omega),z6q];rw[Ev.kz1 (by simpa using c1)];by_cases c2:a.list.length>b.list.length
  rw[Ev.zz2 (by simpa using c2),Ev.yz0,List.drop_of_length_le (l:=b.list) (by omega),<-Qah (h:=show k<a.list.length by omega),z6q];rw[Ev.kz1 (by simpa using c2),Ev.yz0,List.drop_of_length_le (l:=b.list) (by omega),List.drop_of_length_le (by omega),z6q]
 have loop:∀k,k<=a.list.length->k<=b.list.length->Ev (λn=>kzp n (k:Int) b a) (z6q (a.list.drop k) (b.list.drop k)) :=
  down (Q:=λk=>k<=b.list.length->Ev (λn=>kzp n (k:Int) b a) (z6q (a.list.drop k) (b.list.drop k))) (λhb=>by
   rw[ze8,Ev.kz1 (by simp),zz0.yz2,zz0.yz2]
   exact fin _ (.inl rfl) (Qbn _) hb) λk hk ihk hb=>by
   have hx:=Qad hk;have hsx:=z5h hx;rw[ze8,Ev.zz2 (by simpa using hk),zz0.yz2,zz0.yz2];by_cases he:k=b.list.length;rw[show decide ((k:Int)<(b.list.length:Int))=false by simp;omega];exact fin _ (.inr he) (by omega) hb;have hk2:k<b.list.length:=by omega
   rw[show decide ((k:Int)<(b.list.length:Int))=true by simp;omega,ze7,Ev.zz2 (by rfl),Ev.zz3 (zzb hk),Ev.zz3 (zzb hk2),zz0.yz2,zz0.yz2,Ev.kz0 (zjs _ _ (by omega)),<-Qah (h:=hk),<-Qah (h:=hk2),z6q];cases hf:eqB a.list[k] b.list[k]
   rw[Ev.zz2 (by rfl),Ev.zz3 (zzb hk),Ev.zz3 (zzb hk2),zz0.yz2,zz0.yz2,Ev.kz0 (ih _ hx _ (by omega) (z7p hfa _ hx) (z7p hfb _ (Qad hk2))),Ev.yz0];rfl;rw[Ev.kz1 (by rfl),wrk (by omega),zz0.yz2,zz0.yz2,Qbo rfl];exact ihk (by omega)
 exact loop 0 (Qbm _) (Qbm _)
theorem zzq{v:zz0}(h:yz5 v=0):z4s v=true∧kzi v<=100∧z5j v<=6:=by
 unfold yz5 at h;split at h;cases h;split at h;exact⟨‹_›,by omega,by omega⟩;cases h
def zf4(a b:zz0):Int:=if yz5 a=0 then yz5 b else yz5 a
theorem zyp{a b:zz0}(ha:a.wf)(hb:b.wf)(sa:a.size<=8388608)(sb:b.size<=8388608):Ev (λn=>z6l n a b) (zf4 a b):=by
 rw[y6b,zz0.yz2,zz0.yz2,Ev.kz0 (zbd ha sa)];unfold zf4;by_cases h:yz5 a=0;rw[Ev.kz1 (by simpa using h),Ev.kz0 (zbd hb sb),Qbo h,Ev.yz0];rw[Ev.zz2 (by simpa using h),Qbp h,Ev.yz0]
theorem zjn{a b:zz0}(sa:a.size<=8388608)(sb:b.size<=8388608):Ev (λn=>z3l n a b) (zf4 a b):=by
 rw[y7f,zz0.yz2,zz0.yz2,Ev.kz0 (z7j sa)];unfold zf4;by_cases h:yz5 a=0;rw[Ev.kz1 (by simpa using h),Ev.kz0 (z7j sb),Qbo h,Ev.yz0];rw[Ev.zz2 (by simpa using h),Qbp h,Ev.kz0 (z7j sa),Ev.yz0]
theorem zia{a b:zz0}(h:zf4 a b=0):yz5 a=0∧yz5 b=0:=by
 unfold zf4 at h;split at h;exact⟨‹_›,h⟩;exact(‹¬_› h).elim
noncomputable def z0h(a b:zz0):Int×Int:=if zf4 a b=0 then zkz a b else (0,zf4 a b)
theorem y4o{a b:zz0}(ha:a.wf)(hb:b.wf)(sa:a.size<=8388608)(sb:b.size<=8388608):Ev (λn=>z50 n a b) (z0h a b):=by
 rw[zst,zz0.yz2,zz0.yz2,Ev.kz0 (zyp ha hb sa sb)];unfold z0h;by_cases h:zf4 a b=0;obtain⟨h1,h2⟩:=zia h;rw[Ev.kz1 (by simpa using h),Qbo h,Ev.kz0 (yfx a b sa (zzq h1).1 (zzq h2).1),Ev.yz0];rw[Ev.zz2 (by simpa using h),Qbp h,Ev.yz0]
theorem y5m{a b:zz0}(sa:a.size<=8388608)(sb:b.size<=8388608):Ev (λn=>z4z n a b) (z0h a b):=by
 rw[zsw,zz0.yz2,zz0.yz2,Ev.kz0 (zjn sa sb)];unfold z0h;by_cases h:zf4 a b=0;obtain⟨h1,h2⟩:=zia h;rw[Ev.kz1 (by simpa using h),Qbo h,Ev.kz0 (y3s a b sa (zzq h1).1 (zzq h2).1),Ev.yz0];rw[Ev.zz2 (by simpa using h),Qbp h,Ev.kz0 (zjn sa sb),Ev.yz0]
theorem yle{α:Type}{x y:List α}(h:x.length+y.length<=268435456):ext x y=some (x++y):=by unfold ext;rw[Qbo (by simpa[zau]using h)]
def zqe(a b:zz0):Int×zz0 :=
 if zf4 a b≠0 then (zf4 a b,v0)
 else if a.kind≠b.kind∨a.kind=2 then (20,v0)
 else if a.kind=1 then (if (z6n zrn a.num b.num).1≠0 then ((z6n zrn a.num b.num).1,v0)else (0,⟨1,(z6n zrn a.num b.num).2,false,[],[]⟩))
 else if a.kind=3 then (if a.str.length+b.str.length>60 then (4,v0)else (0,⟨3,⟨0,0⟩,false,a.str++b.str,[]⟩))
 else (if kzi a+kzi b-1>100 then (4,v0)else (0,⟨4,⟨0,0⟩,false,[],a.list++b.list⟩))
theorem zfi{v:zz0}(h:z4s v=true):v.kind=1∨v.kind=2∨v.kind=3∨v.kind=4:=by
 rw[z80]at h;by_cases h1:v.kind=1
 exact .inl h1
 by_cases h2:v.kind=2
 exact .inr (.inl h2)
 by_cases h3:v.kind=3
 exact .inr (.inr (.inl h3))
 by_cases h4:v.kind=4
 exact .inr (.inr (.inr h4))
 rw[Qbp h1,Qbp h2,Qbp h3,Qbp h4]at h;cases h
theorem yov{v:zz0}(h:z4s v=true)(hk:v.kind=4):v.num.num=0∧v.num.den=0∧v.truth=false∧v.str=[]:=by
 rw[z80,Qbp (by omega),Qbp (by omega),Qbp (by omega),Qbo hk]at h;simp only[Qag,nul,Qbg,Bool.not_eq_true',List.isEmpty_iff]at h;exact⟨h.1.1,h.1.2,h.2.1,h.2.2.1⟩
theorem ynn{a b:zz0}(ha:a.wf)(hb:b.wf)(sa:a.size<=8388608)(sb:b.size<=8388608):Ev (λn=>z9y n a b) (zqe a b):=by
 have l0:∀a0 a1 a2 a3 a4 a5 a6 a7 a8 a9 a10 a11,Ev (λn=>z29 n a0 a1 a2 a3 a4 a5 a6 a7 a8 a9 a10 a11) (0,⟨a5,⟨a6,a7⟩,a8,a9,a11⟩):=λa0 a1 a2 a3 a4 a5 a6 a7 a8 a9 a10 a11=>by rw[zwx,Ev.yz0]
 rw[y9j,zz0.yz2,zz0.yz2,Ev.kz0 (zyp ha hb sa sb)];unfold zqe;by_cases h:zf4 a b=0
 case neg=>rw[Ev.zz2 (by simpa using h),Qbo h,Ev.yz0];rfl
 obtain⟨c1,c2⟩:=zia h;obtain⟨f1,p1,_⟩:=zzq c1;obtain⟨f2,p2,_⟩:=zzq c2;rw[Ev.kz1 (by simpa using h),Qbp (by simpa using h)];by_cases hk:a.kind=b.kind
 case neg=>rw[Ev.zz2 (by simpa using hk),Qbo (.inl hk),Ev.yz0];rfl
 rw[Ev.kz1 (by simpa using hk)];by_cases h1:a.kind=1;rw[Ev.zz2 (by simpa using h1),Qbp (by omega),Qbo h1,Ev.kz0 (ynq (zhd ha) (zhd hb))];by_cases hr:(z6n zrn a.num b.num).1=0;rw[Ev.kz1 (by simpa using hr),Qbp (by simpa using hr)];exact(l0 _ _ _ _ _ _ _ _ _ _ _ _).to (by rw[h1]);rw[Ev.zz2 (by simpa using hr),Qbo hr,Ev.yz0];rfl;rw[Ev.kz1 (by simpa using h1)];by_cases h3:a.kind=3
 rw[Ev.zz2 (by simpa using h3),Qbp (by omega),Qbp h1,Qbo h3];have s1:=zzc a;have s2:=zzc b;rw[Ev.zz3 (yrk (by omega))];by_cases hl:a.str.length+b.str.length>60;rw[Ev.zz2 (by simp;omega),Qbo hl,Ev.yz0];rfl;rw[Ev.kz1 (by simp;omega),Qbp hl];exact(l0 _ _ _ _ _ _ _ _ _ _ _ _).to (by rw[h3]);rw[Ev.kz1 (by simpa using h3)];by_cases h4:a.kind=4
 rw[Ev.zz2 (by simpa using h4),Qbp (by omega),Qbp h1,Qbp h3,Ev.kz0 (zhb a sa),Ev.kz0 (zhb b sb),wI (x:=_+_) (by simp only;omega),wI (x:=_-1) (by simp only;omega)];have q1:=kzb a;have q2:=kzb b;rw[Qbo h4]at q1;rw[Qbo (by omega)]at q2;by_cases hl:kzi a+kzi b-1>100;rw[Ev.zz2 (by simp;omega),Qbo hl,Ev.yz0];rfl;have s1:=zzc a;have s2:=zzc b;have n1:=kzw a.list;have n2:=kzw b.list
 rw[Ev.kz1 (by simp;omega),Qbp hl,Ev.kz0 (zoi sa),Ev.kz0 (zoi sb),Ev.zz3 (yle (by simp only;omega))];exact(l0 _ _ _ _ _ _ _ _ _ _ _ _).to (by rw[h4]);rw[Ev.kz1 (by simpa using h4),Ev.yz0];have:=zfi f1;rw[Qbo (by omega)];rfl
theorem zxx{r:yz1}:Ev (λn=>z7h n r) ⟨1,r,false,[],[]⟩:=by rw[yh8,Ev.yz0]
theorem y8d{s:B8}:Ev (λn=>z7q n s) ⟨3,⟨0,0⟩,false,s,[]⟩:=by rw[ycx,Ev.yz0]
theorem zbp{b:Bool}:Ev (λn=>zzv n b) ⟨2,⟨0,0⟩,b,[],[]⟩:=by rw[yhg,Ev.yz0]
theorem yns{a b:zz0}(sa:a.size<=8388608)(sb:b.size<=8388608)(sab:a.size+b.size<=8388608):Ev (λn=>z9m n a b) (zqe a b):=by
 rw[yag,zz0.yz2,zz0.yz2,Ev.kz0 (zjn sa sb)];unfold zqe;by_cases h:zf4 a b=0
 case neg=>rw[Ev.zz2 (by simpa using h),Qbo h,Ev.kz0 (zjn sa sb),Ev.yz0];rfl
 obtain⟨c1,c2⟩:=zia h;obtain⟨f1,p1,_⟩:=zzq c1;obtain⟨f2,p2,_⟩:=zzq c2;rw[Ev.kz1 (by simpa using h),Qbp (by simpa using h)];have bad:∀a1 a2 a3 a4 a5 a8,Ev (λn=>z3z n true a1 a2 a3 a4 a5 b a a8) (20,v0):=λa1 a2 a3 a4 a5 a8=>by rw[zkk,Ev.zz2 (by rfl),Ev.yz0];rfl
 by_cases hk:a.kind=b.kind
 case neg=>rw[Ev.zz2 (by simpa using hk),Qbo (.inl hk)];exact bad _ _ _ _ _ _
 rw[Ev.kz1 (by simpa using hk)];by_cases h2:a.kind=2;rw[show(a.kind==2)=true by simpa using h2,Qbo (.inr h2)];exact bad _ _ _ _ _ _;rw[show(a.kind==2)=false by simpa using h2,Qbp (by omega),zkk,Ev.kz1 (by rfl)];by_cases h1:a.kind=1;rw[Ev.zz2 (by simpa using h1),Qbo h1,Ev.kz0 yok];by_cases hr:(z6n zrn a.num b.num).1=0
 rw[Ev.kz1 (by simpa using hr),Qbp (by simpa using hr),Ev.kz0 zxx,Ev.yz0,zz0.yz2];rw[Ev.zz2 (by simpa using hr),Qbo hr,Ev.yz0];rfl;rw[Ev.kz1 (by simpa using h1),Qbp h1];by_cases h3:a.kind=3;have s1:=zzc a;have s2:=zzc b;rw[Ev.zz2 (by simpa using h3),Qbo h3,wI (by omega)];by_cases hl:a.str.length+b.str.length>60;rw[Ev.zz2 (by simp;omega),Qbo hl,Ev.yz0];rfl
 rw[Ev.kz1 (by simp;omega),Qbp hl,Ev.zz3 (yrk (by omega)),Ev.kz0 y8d,Ev.yz0,zz0.yz2];rw[Ev.kz1 (by simpa using h3),Qbp h3,zz0.yz2,zz0.yz2];have h4:a.kind=4:=by have:=zfi f1;omega
 have s1:=zzc a;have s2:=zzc b;have n1:=kzw a.list;have n2:=kzw b.list;obtain⟨z1,z2,z3,z4⟩:=yov f1 h4;have hp:(⟨a.kind,⟨a.num.num,a.num.den⟩,a.truth,a.str,a.list++b.list⟩:zz0)=⟨4,⟨0,0⟩,false,[],a.list++b.list⟩:=by rw[h4,z1,z2,z3,z4]
 have hq:kzi (⟨4,⟨0,0⟩,false,[],a.list++b.list⟩:zz0)=kzi a+kzi b-1:=by
  have app:∀l m:kz2,kz7 (l++m)=kz7 l+kz7 m:=λl m=>by
   induction l with
   |nil=>simp[kz7]
   |cons x l ih=>simp[kz7,ih];omega
  rw[kzb,kzb a,kzb b,Qbo rfl,Qbo h4,Qbo (by omega),app];omega
 have hz:(⟨4,⟨0,0⟩,false,[],a.list++b.list⟩:zz0).size<=8388608:=by
  rw[zz0.size_eq,yz1.size_eq,List.map_append,List.sum_append];rw[zz0.size_eq a,yz1.size_eq]at sab;rw[zz0.size_eq b,yz1.size_eq]at sab;simp only[List.length_nil];omega
 rw[Ev.kz0 (znv sa),Ev.kz0 (znv sb),Ev.zz3 (yle (by simp only;omega))];simp only[hp];rw[Ev.kz0 (zli _ hz),hq];by_cases hl:kzi a+kzi b-1>100;rw[Ev.zz2 (by simp;omega),Qbo hl,Ev.yz0];rfl;rw[Ev.kz1 (by simp;omega),Qbp hl,Ev.yz0]
def z6s(v:zz0):Int×Int:=if yz5 v≠0 then (0,yz5 v)else if v.kind=3 then (v.str.length,0)else if v.kind=4 then (v.list.length,0)else (0,20)
theorem zud{v:zz0}(hw:v.wf)(hs:v.size<=8388608):Ev (λn=>z63 n v) (z6s v):=by
 rw[ydo,zz0.yz2,Ev.kz0 (zbd hw hs)];unfold z6s;by_cases h:yz5 v=0;rw[Ev.kz1 (by simpa using h),Qbp (by simpa using h)];by_cases h3:v.kind=3;rw[Ev.zz2 (by simpa using h3),Qbo h3,Ev.yz0];rw[Ev.kz1 (by simpa using h3),Qbp h3];by_cases h4:v.kind=4;rw[Ev.zz2 (by simpa using h4),Qbo h4,Ev.yz0];rw[Ev.kz1 (by simpa using h4),Qbp h4,Ev.yz0];rw[Ev.zz2 (by simpa using h),Qbo h,Ev.yz0]
theorem y7x{v:zz0}(hs:v.size<=8388608):Ev (λn=>z7l n v) (z6s v):=by
 rw[yav,zz0.yz2,Ev.kz0 (z7j hs)];unfold z6s;by_cases h:yz5 v=0;rw[Ev.kz1 (by simpa using h),Qbp (by simpa using h)];by_cases h3:v.kind=3;rw[Ev.zz2 (by simpa using h3),Qbo h3,Ev.yz0];rw[Ev.kz1 (by simpa using h3),Qbp h3];by_cases h4:v.kind=4;rw[Ev.zz2 (by simpa using h4),Qbo h4,Ev.yz0];rw[Ev.kz1 (by simpa using h4),Qbp h4,Ev.yz0];rw[Ev.zz2 (by simpa using h),Qbo h,Ev.kz0 (z7j hs),Ev.yz0]
def vat(v:zz0)(i:Int):Int×zz0 :=
 if (z6s v).2≠0 then ((z6s v).2,v0)
 else if i<0∨i>=(z6s v).1 then (2,v0)
 else if v.kind=4 then (match v.list[i.toNat]? with|some x=>(0,x)|none=>(0,v0))
 else (0,⟨3,⟨0,0⟩,false,(v.str.drop i.toNat).take 1,[]⟩)
theorem yd4{v:zz0}(h:(z6s v).2=0):yz5 v=0∧((v.kind=3∧(z6s v).1=v.str.length)∨(v.kind=4∧(z6s v).1=v.list.length)):=by
 unfold z6s at h ⊢;by_cases h0:yz5 v=0;refine⟨h0,?_⟩;rw[Qbp (by simpa using h0)]at h ⊢;by_cases h3:v.kind=3;rw[Qbo h3];exact .inl ⟨h3,rfl⟩;rw[Qbp h3]at h ⊢;by_cases h4:v.kind=4;rw[Qbo h4];exact .inr ⟨h4,rfl⟩;rw[Qbp h4]at h;cases h;rw[Qbo h0]at h;exact(h0 h).elim
theorem sub_one{s:B8}{i:Int}(h0:0<=i)(h1:i<s.length):sub s i (i+1)=some ((s.drop i.toNat).take 1):=by
 unfold sub;rw[Qbo ⟨h0,by omega,by omega⟩,show(i+1).toNat=i.toNat+1 by omega,List.take_drop]
theorem ypj{v:zz0}{i:Int}(hw:v.wf)(hs:v.size<=8388608):Ev (λn=>zbh n v i) (vat v i):=by
 have bad:∀a2,Ev (λn=>z57 n i true a2 v) (2,v0):=λa2=>by rw[zkt,Ev.zz2 (by rfl),Ev.yz0];rfl
 rw[yem,zz0.yz2,Ev.kz0 (zud hw hs)];unfold vat;by_cases h:(z6s v).2=0
 case neg=>rw[Ev.zz2 (by simpa using h),Qbo h,Ev.yz0];rfl
 rw[Ev.kz1 (by simpa using h),Qbp (by simpa using h)];by_cases c1:i<0;rw[Ev.zz2 (by simpa using c1),Qbo (.inl c1)];exact bad _;rw[Ev.kz1 (by simpa using c1)];by_cases c2:i>=(z6s v).1;rw[show decide (i>=(z6s v).1)=true by simpa using c2,Qbo (.inr c2)];exact bad _;rw[show decide (i>=(z6s v).1)=false by simpa using c2,Qbp (by omega),zkt,Ev.kz1 (by rfl)];have s1:=zzc v;have n1:=kzw v.list
 obtain⟨_,⟨h3,e⟩|⟨h4,e⟩⟩:=yd4 h;rw[Ev.kz1 (by simp;omega),Qbp (by omega),wI (by omega),Ev.zz3 (sub_one (by omega) (by omega)),Ev.yz0];have hk:i.toNat<v.list.length:=by omega
 obtain⟨j,rfl⟩:∃j:Nat,i=j:=⟨i.toNat,by omega⟩;have hk:j<v.list.length:=by simpa using hk
 have hx:=z5h (Qad hk);rw[Ev.zz2 (by simpa using h4),Qbo h4,Ev.zz3 (zzb hk),zz0.yz2,Ev.kz0 (zou (by omega)),Ev.yz0,zz0.yz2];simp[hk]
theorem yqs{v:zz0}{i:Int}(hs:v.size<=8388608):Ev (λn=>zbc n v i) (vat v i):=by
 have bad:∀a2,Ev (λn=>z56 n i true a2 v) (2,v0):=λa2=>by rw[zlx,Ev.zz2 (by rfl),Ev.yz0];rfl
 rw[ye1,zz0.yz2,Ev.kz0 (y7x hs)];unfold vat;by_cases h:(z6s v).2=0
 case neg=>rw[Ev.zz2 (by simpa using h),Qbo h,Ev.yz0];rfl
 rw[Ev.kz1 (by simpa using h),Qbp (by simpa using h)];by_cases c1:i<0;rw[Ev.zz2 (by simpa using c1),Qbo (.inl c1)];exact bad _;rw[Ev.kz1 (by simpa using c1)];by_cases c2:i>=(z6s v).1;rw[show decide (i>=(z6s v).1)=true by simpa using c2,Qbo (.inr c2)];exact bad _;rw[show decide (i>=(z6s v).1)=false by simpa using c2,Qbp (by omega),zlx,Ev.kz1 (by rfl)];have s1:=zzc v;have n1:=kzw v.list
 obtain⟨_,⟨h3,e⟩|⟨h4,e⟩⟩:=yd4 h;rw[Ev.zz2 (by simp;omega),Qbp (by omega),wI (by omega),Ev.zz3 (sub_one (by omega) (by omega)),Ev.kz0 y8d,Ev.yz0,zz0.yz2];have hk:i.toNat<v.list.length:=by omega
 obtain⟨j,rfl⟩:∃j:Nat,i=j:=⟨i.toNat,by omega⟩;have hk:j<v.list.length:=by simpa using hk
 have hx:=z5h (Qad hk);rw[Ev.kz1 (by simp;omega),Qbo h4,Ev.zz3 (zzb hk),zz0.yz2,Ev.kz0 (zpp _ (by omega)),Ev.yz0,zz0.yz2];simp[hk]
theorem yk8{s:B8}(hs:s.length<=8388608):Ev (λn=>z89 n s) (zfc s):=by
 have l3t:∀q,Ev (λn=>zzk n true s q) false:=λq=>by rw[zhw,Ev.zz2 (by rfl),Ev.yz0]
 have step:∀k (hk:k<s.length) (r:Bool),((if k=0 then isLet s[k]else zan s[k])=false->r=false)->((if k=0 then isLet s[k]else zan s[k])=true->Ev (λn=>zzp n s (k+1)) r)->Ev (λn=>zzp n s k) r:=λk hk r hf ht=>by
  have l3:∀b,(if k=0 then isLet s[k]else zan s[k]) = !b->(b=false->(zef s k).2=1)->Ev (λn=>zzk n b s (k+(zef s k).2)) r:=λb hb h1=>by
   cases b;rw[zhw,Ev.kz1 (by rfl),h1 rfl];exact ht hb;exact(l3t _).to (hf hb).symm
  rw[zhu,Ev.zz2 (by simpa using hk)];by_cases hlow:s[k].toNat<128;have hd:=ys0 hk hlow;rw[hd]at l3;rw[hd]
  have l2:∀b,b=isLet s[k]->Ev (λn=>z2s n (s[k].toNat:Int) (k:Int) b s (k+1)) r:=λb hb=>by
   subst hb;rw[zhq];cases hl:isLet s[k];rw[Ev.zz2 (by rfl)];by_cases h0:k=0;rw[Ev.zz2 (by simpa using h0)];exact l3 true (by rw[Qbo h0,hl];rfl) (by simp);rw[Ev.kz1 (by simpa using h0)];by_cases h45:s[k].toNat=45;have:s[k]=45:=UInt8.toNat_inj.1 (by simpa using h45);rw[Ev.kz1 (by simp;omega)];exact l3 false (by rw[Qbp h0,zan,this];rfl) (λ_=>rfl)
   have hne:(s[k]==45)=false:=by
    simp only[beq_eq_false_iff_ne];intro h;rw[h]at h45;exact h45 rfl
   rw[Ev.zz2 (by simp;omega)];by_cases c1:s[k].toNat<48;rw[Ev.zz2 (by simp;omega)];refine l3 true ?_ (by simp);rw[Qbp h0,zan,hl,hne,y7y];simp;omega;rw[Ev.kz1 (by simp;omega)];refine l3 _ ?_ (λ_=>rfl);rw[Qbp h0,zan,hl,hne,y7y];have e1:decide (48<=s[k].toNat)=true:=by rw[Qaq];omega
   have e3:decide ((s[k].toNat:Int)>57) = !decide (s[k].toNat<=57):=by
    by_cases c2:s[k].toNat<=57;rw[show decide (s[k].toNat<=57)=true by rw[Qaq];exact c2];simp only[Bool.not_true,decide_eq_false_iff_not];omega;rw[show decide (s[k].toNat<=57)=false by rw[decide_eq_false_iff_not];exact c2];simp only[Bool.not_false,Qaq];omega
   rw[e1,e3];simp;rw[Ev.kz1 (by rfl)];refine l3 false ?_ (λ_=>rfl);split;exact hl;rw[zan,hl];rfl
  simp only;by_cases c1:97<=s[k].toNat;rw[Ev.zz2 (by simp;omega)];exact l2 _ (by simp[isLet,c1];omega);rw[Ev.kz1 (by simp;omega)];exact l2 _ (by simp[isLet];omega);obtain⟨h1,h2⟩:=ym4 hk (by omega);have nl:isLet s[k]=false:=by simp[isLet];omega
  have nm:zan s[k]=false:=by
   rw[zan,nl,y7y];have:(s[k]==45)=false:=by simp only[beq_eq_false_iff_ne];intro h;rw[h]at hlow;exact hlow (by decide)
   rw[this];simp;omega
  have bad:(if k=0 then isLet s[k]else zan s[k])=false:=by split <;> assumption
  rw[Ev.zz2 (by simp;omega),show decide (((zef s k).1:Int)<=122)=false by simp;omega,zhq,Ev.zz2 (by rfl)];by_cases h0:k=0;rw[Ev.zz2 (by simpa using h0)];exact(l3t _).to (hf bad).symm;rw[Ev.kz1 (by simpa using h0),Ev.zz2 (by simp;omega),Ev.kz1 (by simp;omega),show decide (((zef s k).1:Int)>57)=true by simp;omega];exact(l3t _).to (hf bad).symm
 have rest:∀k,k<=s.length->1<=k->Ev (λn=>zzp n s k) ((s.drop k).all zan) :=
  down (Q:=λk=>1<=k->Ev (λn=>zzp n s k) ((s.drop k).all zan)) (λ_=>by
   rw[zhu,Ev.kz1 (by simp),Ev.yz0];simp) λk hk ih h1=>by
   rw[<-Qah (h:=hk),List.all_cons];refine step k hk _ (λh =>?_) λh =>?_
   rw[Qbp (by omega)]at h;rw[h];rfl;rw[Qbp (by omega)]at h;rw[h];exact ih (by omega)
 rw[y5q]
 cases s with
 |nil=>rw[Ev.zz2 (by rfl),zhr,Ev.zz2 (by rfl),Ev.yz0];rfl
 |cons c t=>
  rw[Ev.kz1 (by simp;omega),zhr];by_cases h40:(c::t).length<=40;rw[Ev.kz1 (by simp at h40 ⊢;omega)];refine step 0 (by simp) _ (λh =>?_) λh =>?_
  rw[Qbo rfl]at h;simp only[List.getElem_cons_zero]at h;simp[zfc,h];rw[Qbo rfl]at h;simp only[List.getElem_cons_zero]at h;refine(rest 1 (by simp) (Qbn _)).to ?_;simp[zfc,h];intro _;simpa using h40
  rw[Ev.zz2 (by simp at h40 ⊢;omega),Ev.yz0];simp[zfc];intro _ _;simpa using h40
theorem ybl{c:UInt8}:Ev (λn=>z5q n (c.toNat:Int)) (isLet c):=by
 rw[zwe];simp only[Ev.pif,Ev.yz0,isLet,Qaq];split;have:97<=c.toNat:=by omega
 simp[this];omega;have:¬97<=c.toNat:=by omega
 simp[this]
theorem yfo{c:UInt8}:Ev (λn=>z6z n (c.toNat:Int)) (y7y c):=by
 rw[zxm];simp only[Ev.pif,Ev.yz0,y7y,Qaq];split;have:48<=c.toNat:=by omega
 simp[this];omega;have:¬48<=c.toNat:=by omega
 simp[this]
theorem yti{c:UInt8}:(((c.toNat:Nat):Int) != 45) = !(c==45):=by
 cases h:c==45 with
 |true=>have:c=45:=by simpa using h
        subst this;rfl
 |false=>
  have:c.toNat≠45:=λhh=>by
   have:c=45:=UInt8.toNat_inj.1 (by simpa using hh);subst this;cases h
  simp;omega
theorem yl1{s:B8}(hs:s.length<=8388608):Ev (λn=>z88 n s) (zfc s):=by
 have bad:∀k:Int,Ev (λn=>zzo n s k true) false:=λk=>by rw[zhv,Ev.zz2 (by rfl),Ev.yz0]
 have step:∀k (hk:k<s.length) (r:Bool),((if k=0 then isLet s[k]else zan s[k])=false->r=false)->((if k=0 then isLet s[k]else zan s[k])=true->Ev (λn=>zzj n ((k+1:Nat):Int) s) r)->Ev (λn=>zzj n (k:Int) s) r:=λk hk r hf ht=>by
  have l1:∀b,(if k=0 then isLet s[k]else zan s[k]) = !b->Ev (λn=>zzo n s (k:Int) b) r:=λb hb=>by
   cases b;rw[zhv,Ev.kz1 (by rfl),wrk (by omega)];exact ht hb;exact(bad _).to (hf hb).symm
  rw[ziz,Ev.zz2 (by simpa using hk),Ev.zz3 (zzb hk),Ev.kz0 ybl];cases hl:isLet s[k];rw[Ev.zz2 (by rfl)];by_cases h0:k=0;rw[Ev.zz2 (by simpa using h0)];exact l1 true (by rw[Qbo h0,hl];rfl);rw[Ev.kz1 (by simpa using h0),Ev.zz3 (zzb hk),yti];cases h45:s[k]==45;rw[Ev.zz2 (by rfl),Ev.zz3 (zzb hk),Ev.kz0 yfo];exact l1 _ (by rw[Qbp h0,zan,hl,h45];simp)
  rw[Ev.kz1 (by rfl)];exact l1 false (by rw[Qbp h0,zan,hl,h45];rfl);rw[Ev.kz1 (by rfl)];exact l1 false (by split;exact hl;rw[zan,hl];rfl)
 have fin:∀r:Bool,r=(decide (1<=s.length)&&decide (s.length<=40))->Ev (λn=>zzj n (s.length:Int) s) r:=λr hr=>by
  rw[ziz,Ev.kz1 (by simp),hr];by_cases h1:1<=s.length;rw[Ev.zz2 (by simp;omega),Ev.yz0];simp[h1];omega;rw[Ev.kz1 (by simp;omega),Ev.yz0];simp[h1]
 have rest:∀k,k<=s.length->1<=k->Ev (λn=>zzj n (k:Int) s) ((s.drop k).all zan&&decide (s.length<=40)) :=
  down (Q:=λk=>1<=k->Ev (λn=>zzj n (k:Int) s) ((s.drop k).all zan&&decide (s.length<=40))) (λh1=>by
   refine fin _ ?_;simp[h1]) λk hk ih h1=>by
   rw[<-Qah (h:=hk),List.all_cons];refine step k hk _ (λh =>?_) λh =>?_
   rw[Qbp (by omega)]at h;rw[h];rfl;rw[Qbp (by omega)]at h;rw[h];exact ih (by omega)
 rw[y4b]
 cases s with
 |nil=>exact fin _ rfl
 |cons c t=>
  refine step 0 (by simp) _ (λh =>?_) λh =>?_
  rw[Qbo rfl]at h;simp only[List.getElem_cons_zero]at h;simp[zfc,h];rw[Qbo rfl]at h;simp only[List.getElem_cons_zero]at h;refine(rest 1 (by simp) (Qbn _)).to ?_;simp[zfc,h]
def zd2(s:B8):Bool:=zfc s&&(!(s==[116,114,117,101]) && !(s==[102,97,108,115,101]))
theorem y2p{s:B8}(hs:s.length<=8388608):Ev (λn=>z6e n s) (zd2 s):=by
 rw[y6c,Ev.kz0 (yk8 hs)];unfold zd2;cases zfc s <;> cases h:(s==[116,114,117,101]) <;> simp[Ev.pif,Ev.yz0]
theorem zv2{s:B8}(hs:s.length<=8388608):Ev (λn=>z5b n s) (zd2 s):=by
 rw[zyd,Ev.kz0 (yl1 hs)];unfold zd2;cases zfc s <;> cases h:(s==[116,114,117,101]) <;> simp[Ev.pif,Ev.yz0]
theorem z90{P:zz1->Prop}(h:∀e:zz1,(∀x,x∈e.args->P x)->P e)(e:zz1):P e:=h e λx hx=>z90 h x
termination_by e
decreasing_by exact zz1.zrw hx
mutual
def yzc:zz1->Nat
 |⟨_,_,_,l⟩=>1+zz7 l
def zz7:yz3->Nat
 |[]=>0
 |x::l=>yzc x+zz7 l
end
mutual
def z2b:zz1->Nat
 |⟨_,_,_,l⟩=>max 1 (z4h l)
def z4h:yz3->Nat
 |[]=>0
 |x::l=>max (1+z2b x) (z4h l)
end
theorem yzj(e:zz1):yzc e=1+zz7 e.args:=by cases e;rw[yzc]
theorem zcg(e:zz1):z2b e=max 1 (z4h e.args):=by cases e;rw[z2b]
theorem yne{l:yz3}{x:zz1}(h:x∈l):x.size<=(l.map zz1.size).sum:=by
 induction l with
 |nil=>cases h
 |cons y l ih=>
  rcases Qbf.1 h with rfl|h
  simp;have:=ih h;simp;omega
theorem z0a(e:zz1):(e.args.map zz1.size).sum+e.name.length+e.value.size+4<=e.size:=by rw[zz1.size_eq];omega
theorem z73{e x:zz1}(h:x∈e.args):x.size<=e.size:=by have:=yne h;have:=z0a e;omega
theorem z4v(l:yz3):l.length<=(l.map zz1.size).sum:=by
 induction l with
 |nil=>simp
 |cons x l ih=>have:=z0a x;simp;omega
theorem zn6:∀e:zz1,yzc e<=e.size:=z90 λe ih=>by
 have:∀l:yz3,(∀x,x∈l->x∈e.args)->zz7 l<=(l.map zz1.size).sum:=λl=>by
  induction l with
  |nil=>intro _;simp[zz7]
  |cons x l ihl=>
   intro hl;have:=ih x (hl x Qak);have:=ihl λy hy=>hl y (Qai _ hy)
   simp[zz7];omega
 have:=this e.args λ_ h=>h
 have:=z0a e;rw[yzj];omega
theorem yeq:∀e:zz1,z2b e<=yzc e:=z90 λe ih=>by
 have:∀l:yz3,(∀x,x∈l->x∈e.args)->z4h l<=1+zz7 l:=λl=>by
  induction l with
  |nil=>intro _;simp[zz7,z4h]
  |cons x l ihl=>
   intro hl;have:=ih x (hl x Qak);have:=ihl λy hy=>hl y (Qai _ hy)
   simp[zz7,z4h];omega
 have:=this e.args λ_ h=>h
 rw[yzj,zcg];omega
theorem y0w(l:yz3):zz7 l<=(l.map zz1.size).sum:=by
 induction l with
 |nil=>simp[zz7]
 |cons x l ih=>have:=zn6 x;simp[zz7];omega
theorem yar:∀e:zz1,e.size<=8388608->Ev (λn=>z4d n e) ((yzc e:Int),(z2b e:Int)):=z90 λe ih hs=>by
 have hsl:=z0a e;have hlen:=z4v e.args
 have loop:∀k,k<=e.args.length->∀d p:Nat,p+zz7 (e.args.drop k)<=8388609->d<=8388609->Ev (λn=>z0o n (k:Int) (d:Int) (p:Int) e.args (e.args.length:Int)) (((p+zz7 (e.args.drop k):Nat):Int),((max d (z4h (e.args.drop k)):Nat):Int)) :=
  down (λd p hp hd=>by
   rw[zfb,Ev.kz1 (by simp),Ev.yz0]
   simp[zz7,z4h]) λk hk ihk d p hp hd=>by
   have hx:=Qad hk;have hsx:=z73 hx;rw[<-Qah (h:=hk)]at hp ⊢;simp only[zz7,z4h]at hp ⊢;have hpl:=zn6 e.args[k];have hdl:=yeq e.args[k];rw[zfb,Ev.zz2 (by simpa using hk),Ev.zz3 (zzb hk),zz1.yz2,Ev.kz0 (ih _ hx (by omega)),wI (x:=_+1) (by omega),wI (x:=(z2b _:Int)+1) (by omega),wI (x:=(p:Int)+_) (by omega)];have e1:(k:Int)+1=((k+1:Nat):Int):=by omega
   have e2:(z2b e.args[k]:Int)+1=((1+z2b e.args[k]:Nat):Int):=by omega
   have e3:(p:Int)+(yzc e.args[k]:Int)=((p+yzc e.args[k]:Nat):Int):=by omega
   rw[e1,e2,e3,zxh];refine(ihk (max d (1+z2b e.args[k])) (p+yzc e.args[k]) (by omega) (by omega)).to ?_
   congr 2 <;> omega
 rw[zwr];have hv:=y0w e.args;have:=loop 0 (Qbm _) 1 1 (by simp;omega) (by omega);refine this.to ?_;rw[yzj,zcg,List.drop_zero]
theorem zuk:∀e:zz1,e.size<=8388608->Ev (λn=>z3u n e) (yzc e:Int):=z90 λe ih hs=>by
 have hsl:=z0a e;have hlen:=z4v e.args;rw[y1o,zz1.yz2,yzj]
 have loop:∀k,k<=e.args.length->∀p:Nat,p+zz7 (e.args.drop k)<=8388609->Ev (λn=>z1w n (k:Int) (p:Int) e) ((p+zz7 (e.args.drop k):Nat):Int) :=
  down (λp hp=>by
   rw[zgq,Ev.kz1 (by simp),Ev.yz0]
   simp[zz7]) λk hk ihk p hp=>by
   have hx:=Qad hk;have hsx:=z73 hx;rw[<-Qah (h:=hk)]at hp ⊢;simp only[zz7]at hp ⊢;have hpl:=zn6 e.args[k];rw[zgq,Ev.zz2 (by simpa using hk),Ev.zz3 (zzb hk),zz1.yz2,Ev.kz0 (ih _ hx (by omega)),wI (x:=_+1) (by omega),wI (x:=(p:Int)+_) (by omega)];have e1:(k:Int)+1=((k+1:Nat):Int):=by omega
   have e3:(p:Int)+(yzc e.args[k]:Int)=((p+yzc e.args[k]:Nat):Int):=by omega
   rw[e1,e3,zz1.yz2];refine(ihk (p+yzc e.args[k]) (by omega)).to ?_
   congr 1;omega
 have hv:=y0w e.args;exact loop 0 (Qbm _) 1 (by simp;omega)
theorem yit:∀e:zz1,e.size<=8388608->Ev (λn=>z6h n e) (z2b e:Int):=z90 λe ih hs=>by
 have hsl:=z0a e;have hlen:=z4v e.args;rw[y59,zz1.yz2,zcg]
 have loop:∀k,k<=e.args.length->∀p:Nat,p<=8388609->Ev (λn=>z39 n (k:Int) (p:Int) e) ((max p (z4h (e.args.drop k)):Nat):Int) :=
  down (λp hp=>by
   rw[zhh,Ev.kz1 (by simp),Ev.yz0]
   simp[z4h]) λk hk ihk p hp=>by
   have hx:=Qad hk;have hsx:=z73 hx;rw[<-Qah (h:=hk)];simp only[z4h];have hpl:=zn6 e.args[k];have hdl:=yeq e.args[k];rw[zhh,Ev.zz2 (by simpa using hk),Ev.zz3 (zzb hk),zz1.yz2,Ev.kz0 (ih _ hx (by omega)),wI (x:=_+1) (by omega),wI (x:=1+_) (by omega)];have e1:(k:Int)+1=((k+1:Nat):Int):=by omega
   have e3:1+(z2b e.args[k]:Int)=((1+z2b e.args[k]:Nat):Int):=by omega
   rw[e1,e3,zz1.yz2,zxh];refine(ihk (max p (1+z2b e.args[k])) (by omega)).to ?_
   congr 1;omega
 exact loop 0 (Qbm _) 1 (by omega)
def kzl(op:Int):Int :=
 if op=1∨op=2 then 0 else if (3<=op∧op<=10)∨op=13∨op=14∨op=17 then 2 else if op=11∨op=15∨op=16 then 1 else if op=12 then 3 else if op=18 then -1 else -2
theorem ops(op:Int):op=1∨op=2∨op=3∨op=4∨op=5∨op=6∨op=7∨op=8∨op=9∨op=10∨op=11∨op=12∨op=13∨op=14∨op=15∨op=16∨op=17∨op=18∨(op<1∨18<op):=by omega
theorem ykc{op:Int}:Ev (λn=>z84 n op) (kzl op):=by
 rcases ops op with rfl|rfl|rfl|rfl|rfl|rfl|rfl|rfl|rfl|rfl|rfl|rfl|rfl|rfl|rfl|rfl|rfl|rfl|h
 case inr.inr.inr.inr.inr.inr.inr.inr.inr.inr.inr.inr.inr.inr.inr.inr.inr.inr=>
  have e:kzl op = -2:=by unfold kzl;rw[Qbp (by omega),Qbp (by omega),Qbp (by omega),Qbp (by omega),Qbp (by omega)]
  rw[e];have n (j:Int) (h1:1<=j) (h2:j<=18):(op==j)=false:=by simp;omega
  simp[znz,zj2,zhn,zim,zi6,zho,zi7,Ev.pif,Ev.yz0,n]
 all_goals simp[znz,zj2,zhn,zim,zi6,zho,zi7,Ev.pif,Ev.yz0,kzl]
theorem ykd{op:Int}:Ev (λn=>z8a n op) (kzl op):=by
 rcases ops op with rfl|rfl|rfl|rfl|rfl|rfl|rfl|rfl|rfl|rfl|rfl|rfl|rfl|rfl|rfl|rfl|rfl|rfl|h
 case inr.inr.inr.inr.inr.inr.inr.inr.inr.inr.inr.inr.inr.inr.inr.inr.inr.inr=>
  have e:kzl op = -2:=by unfold kzl;rw[Qbp (by omega),Qbp (by omega),Qbp (by omega),Qbp (by omega),Qbp (by omega)]
  rw[e];have n (j:Int) (h1:1<=j) (h2:j<=18):(op==j)=false:=by simp;omega
  rw[znu,Ev.kz1 (n 1 (by omega) (by omega)),n 2 (by omega) (by omega),zit,Ev.kz1 (by rfl)];have l1:Ev (λm=>zzg m op false) (-2):=by simp[ziv,zic,Ev.pif,Ev.yz0,n]
  by_cases h3:op>=3;rw[Ev.zz2 (by simpa using h3),Ev.kz1 (by simp;omega),Ev.kz1 (n 13 (by omega) (by omega)),Ev.kz1 (n 14 (by omega) (by omega)),n 17 (by omega) (by omega)];exact l1;rw[Ev.kz1 (by simpa using h3),Ev.kz1 (n 13 (by omega) (by omega)),Ev.kz1 (n 14 (by omega) (by omega)),n 17 (by omega) (by omega)];exact l1
 all_goals simp[znu,zit,ziv,zic,Ev.pif,Ev.yz0,kzl]
noncomputable def zpl(op:Int)(v:zz0)(nm:B8):Bool :=
 if op=1 then yz5 v==0&&(v.kind != 4&&nm.isEmpty)else if op=2 then zd2 nm&&eqB v v0 else nm.isEmpty&&eqB v v0
def zh1(op:Int)(k:Nat):Bool:=kzl op != -2&&(decide (kzl op<0)||(k:Int)==kzl op)
mutual
noncomputable def z0f:zz1->Bool
 |⟨op,v,nm,l⟩=>zh1 op l.length&&(zpl op v nm&&z6c l)
noncomputable def z6c:yz3->Bool
 |[]=>true
 |x::l=>z0f x&&z6c l
end
theorem zcn(e:zz1):z0f e=(zh1 e.op e.args.length&&(zpl e.op e.value e.name&&z6c e.args)):=by cases e;rw[z0f]
theorem zjo(l:yz3):z6c l=l.all z0f:=by
 induction l with
 |nil=>rfl
 |cons x l ih=>simp[z6c,ih]
noncomputable def z2r(e:zz1):Int:=if 100<yzc e∨12<z2b e then 4 else if z0f e then 0 else 8
theorem yoh{e:zz1}(h:e.wf):e.value.wf:=by rw[zz1.zbe]at h;exact h.2.1
theorem yos{e:zz1}(h:e.wf):∀x∈e.args,x.wf:=by rw[zz1.zbe]at h;exact h.2.2.2
theorem zv3(s:B8):(!(s==[])) = !s.isEmpty:=by cases s <;> rfl
theorem yoj:∀e:zz1,e.wf->e.size<=8388608->Ev (λn=>z7o n e) (z0f e):=z90 λe ih hw hs=>by
 have hsl:=z0a e;have hlen:=z4v e.args
 have idx:∀k,k<=e.args.length->∃i:Int,Ev (λn=>yz6 n (k:Int) e.args (e.args.length:Int)) i∧decide (i>=0) = !z6c (e.args.drop k) :=
  down ⟨-1,by rw[zzr,Ev.kz1 (by simp),Ev.yz0],by simp[z6c]⟩ λk hk ihk=>by
   have hx:=Qad hk;have hsx:=z73 hx
   have hf1:Ev (λn=>z6u n e.args[k]) (!z0f e.args[k]):=by
    rw[y1h,zz1.yz2,Ev.kz0 (ih _ hx (yos hw _ hx) (by omega)),Ev.yz0]
   obtain⟨i,h1,h2⟩:=ihk;rw[<-Qah (h:=hk),z6c];cases hf:z0f e.args[k];refine⟨k,?_,by simp⟩;rw[zzr,Ev.zz2 (by simpa using hk),Ev.zz3 (zzb hk),zz1.yz2,Ev.kz0 hf1,Ev.zz2 (by rw[hf];rfl),Ev.yz0];refine⟨i,?_,by rw[h2];rfl⟩;rw[zzr,Ev.zz2 (by simpa using hk),Ev.zz3 (zzb hk),zz1.yz2,Ev.kz0 hf1,Ev.kz1 (by rw[hf];rfl),wrk (by omega)];exact h1
 have l4:Ev (λn=>z27 n e) (z6c e.args):=by
  obtain⟨i,h1,h2⟩:=idx 0 (Qbm _);have hi:Ev (λn=>yz9 n e.args) i:=by rw[za2];exact h1
  have hc:Ev (λn=>zz8 n e.args) (!z6c e.args):=by
   rw[z8g,Ev.kz0 hi,Ev.yz0,h2];rfl
  rw[zwi,Ev.kz0 hc,Ev.yz0,Bool.not_not]
 have l1:∀b,Ev (λn=>z23 n b e) (!b&&z6c e.args):=λb=>by
  rw[zwa];cases b;rw[Ev.kz1 (by rfl),zz1.yz2];exact l4;rw[Ev.zz2 (by rfl),Ev.yz0];rfl
 have l2:∀b,Ev (λn=>z4f n b e) (!b&&z6c e.args):=λb=>by
  rw[zvs];cases b;rw[Ev.kz1 (by rfl),zz1.yz2];exact l4;rw[Ev.zz2 (by rfl),Ev.yz0];rfl
 have l3:∀b,Ev (λn=>z43 n b e) (!b&&z6c e.args):=λb=>by
  rw[zx7];cases b;rw[Ev.kz1 (by rfl),zz1.yz2];exact l4;rw[Ev.zz2 (by rfl),Ev.yz0];rfl
 have l0:∀b,Ev (λn=>z22 n b e) (!b&&(zpl e.op e.value e.name&&z6c e.args)):=λb=>by
  rw[zw8];cases b
  case true=>rw[Ev.zz2 (by rfl),Ev.yz0];rfl
  rw[Ev.kz1 (by rfl)];have hsame:Ev (λn=>yzm n e.value (zz0.mk 0 (yz1.mk 0 0) false [] [])) (eqB e.value v0):=zjv e.value v0 (by omega);by_cases h1:e.op=1;rw[Ev.zz2 (by simpa using h1),zz0.yz2,Ev.kz0 (zbd (yoh hw) (by omega)),zz1.yz2,zv3];simp only[zpl,Qbo h1];by_cases hc:yz5 e.value=0;rw[Ev.kz1 (by simpa using hc)];by_cases hk:e.value.kind=4;rw[Ev.zz2 (by simpa using hk)]
  refine(l1 true).to ?_;simp[hc,hk];rw[Ev.kz1 (by simpa using hk)];have hk':(e.value.kind != 4)=true:=by simpa using hk
  refine(l1 _).to ?_;simp[hc,hk'];rw[Ev.zz2 (by simpa using hc)];refine(l1 true).to ?_;simp[hc];rw[Ev.kz1 (by simpa using h1)];by_cases h2:e.op=2;rw[Ev.zz2 (by simpa using h2),Ev.kz0 (y2p (by omega)),zz0.yz2,zz1.yz2];simp only[zpl,Qbp h1,Qbo h2];cases hn:zd2 e.name;rw[Ev.zz2 (by rfl)];exact(l2 true).to (by simp);rw[Ev.kz1 (by rfl),Ev.kz0 hsame];exact(l2 _).to (by simp)
  rw[Ev.kz1 (by simpa using h2),zv3,zz0.yz2,zz1.yz2];simp only[zpl,Qbp h1,Qbp h2];cases hn:e.name.isEmpty;rw[Ev.zz2 (by rfl)];exact(l3 true).to (by simp);rw[Ev.kz1 (by rfl),Ev.kz0 hsame];exact(l3 _).to (by simp)
 rw[y9g,Ev.kz0 ykc,zcn,zz1.yz2];unfold zh1;by_cases c1:kzl e.op = -2;rw[Ev.zz2 (by simpa using c1)];exact(l0 true).to (by simp[c1]);rw[Ev.kz1 (by simpa using c1)];by_cases c2:kzl e.op>=0;rw[Ev.zz2 (by simpa using c2)];refine(l0 _).to ?_;rw[show decide (kzl e.op<0)=false by simpa using c2,show(kzl e.op != -2)=true by simpa using c1];simp only[bne,Bool.not_not,Bool.true_and,Bool.false_or]
 rw[Ev.kz1 (by simpa using c2)];refine(l0 _).to ?_;rw[show decide (kzl e.op<0)=true by simp;omega,show(kzl e.op != -2)=true by simpa using c1];simp
theorem yiz:∀e:zz1,e.size<=8388608->Ev (λn=>z6j n e) (z0f e):=z90 λe ih hs=>by
 have hsl:=z0a e;have hlen:=z4v e.args
 have loop:∀k,k<=e.args.length->Ev (λn=>z3e n (k:Int) e) (z6c (e.args.drop k)) :=
  down (by rw[zj3,Ev.kz1 (by simp),Ev.yz0];simp[z6c]) λk hk ihk=>by
   have hx:=Qad hk;have hsx:=z73 hx;rw[<-Qah (h:=hk),z6c];rw[zj3,Ev.zz2 (by simpa using hk),Ev.zz3 (zzb hk),zz1.yz2,Ev.kz0 (ih _ hx (by omega))];cases hf:z0f e.args[k];rw[Ev.zz2 (by rfl),Ev.yz0];rfl;rw[Ev.kz1 (by rfl),wrk (by omega),zz1.yz2,Bool.true_and];exact ihk
 have l2:∀b,Ev (λn=>yzo n b e) (!b&&z6c e.args):=λb=>by
  rw[zth];cases b;rw[Ev.kz1 (by rfl),zz1.yz2];exact loop 0 (Qbm _);rw[Ev.zz2 (by rfl),Ev.yz0];rfl
 have hgn:decide ((e.name.length:Int)>0) = !e.name.isEmpty:=by cases e.name <;> simp
 have l1:∀b,Ev (λn=>kzj n b e) (!b&&((if e.op=2 then zd2 e.name else e.name.isEmpty)&&z6c e.args)):=λb=>by
  rw[ztk];cases b
  case true=>rw[Ev.zz2 (by rfl),Ev.yz0];rfl
  rw[Ev.kz1 (by rfl),zz1.yz2,hgn];by_cases h2:e.op=2;rw[Ev.zz2 (by simpa using h2),Qbo h2,Ev.kz0 (zv2 (by omega))];cases hn:zd2 e.name;rw[Ev.zz2 (by rfl)];exact(l2 true).to (by simp);rw[Ev.kz1 (by rfl),Ev.kz1 (by simpa using h2)];exact(l2 false).to (by simp);rw[Ev.kz1 (by simpa using h2),Ev.zz2 (by simpa using h2),Qbp h2];exact(l2 _).to (by simp)
 have l0:∀b,Ev (λn=>z0x n b e) (!b&&(zpl e.op e.value e.name&&z6c e.args)):=λb=>by
  rw[ztf];cases b
  case true=>rw[Ev.zz2 (by rfl),Ev.yz0];rfl
  rw[Ev.kz1 (by rfl),zz0.yz2,zz1.yz2];have hsame:Ev (λn=>kzo n e.value (zz0.mk 0 (yz1.mk 0 0) false [] [])) (eqB e.value v0):=zjs e.value v0 (by omega);by_cases h1:e.op=1;rw[Ev.zz2 (by simpa using h1),Ev.kz0 (z7j (by omega))];simp only[zpl,Qbo h1];by_cases hc:yz5 e.value=0;rw[Ev.kz1 (by simpa using hc)];by_cases hk:e.value.kind=4;rw[Ev.zz2 (by simpa using hk)];refine(l1 true).to ?_;simp[hc,hk]
  rw[Ev.kz1 (by simpa using hk),Ev.kz1 (by simpa using h1)];have hk':(e.value.kind != 4)=true:=by simpa using hk
  refine(l1 _).to ?_;simp[hc,hk',h1];rw[Ev.zz2 (by simpa using hc)];refine(l1 true).to ?_;simp[hc];rw[Ev.kz1 (by simpa using h1),Ev.zz2 (by simpa using h1),Ev.kz0 hsame];refine(l1 _).to ?_;simp only[zpl,Qbp h1];split;cases eqB e.value v0 <;> cases zd2 e.name <;> simp
  cases eqB e.value v0 <;> cases e.name.isEmpty <;> simp
 rw[y6q,Ev.kz0 ykd,zcn,zz1.yz2];unfold zh1;by_cases c1:kzl e.op = -2;rw[Ev.zz2 (by simpa using c1)];exact(l0 true).to (by simp[c1]);rw[Ev.kz1 (by simpa using c1)];by_cases c2:kzl e.op>=0;rw[Ev.zz2 (by simpa using c2)];refine(l0 _).to ?_;rw[show decide (kzl e.op<0)=false by simpa using c2,show(kzl e.op != -2)=true by simpa using c1];simp only[bne,Bool.not_not,Bool.true_and,Bool.false_or]
 rw[Ev.kz1 (by simpa using c2)];refine(l0 _).to ?_;rw[show decide (kzl e.op<0)=true by simp;omega,show(kzl e.op != -2)=true by simpa using c1];simp
theorem zor{e:zz1}(hw:e.wf)(hs:e.size<=8388608):Ev (λn=>z4o n e) (z2r e):=by
 have l0:∀b,Ev (λn=>z2m n b e) (if b then 4 else if z0f e then 0 else 8):=λb=>by
  rw[zsr];cases b;rw[Ev.kz1 (by rfl),zz1.yz2,Ev.kz0 (yoj e hw hs)];cases z0f e;rw[Ev.zz2 (by rfl),Ev.yz0];rfl;rw[Ev.kz1 (by rfl),Ev.yz0];rfl;rw[Ev.zz2 (by rfl),Ev.yz0];rfl
 rw[y72,zz1.yz2,Ev.kz0 (yar e hs)];unfold z2r;simp only[Ev.pif];by_cases h1:100<yzc e;rw[Qbo (by simp;omega),Qbo (.inl h1)];exact l0 true;rw[Qbp (by simp;omega)];by_cases h2:12<z2b e;rw[Qbo (.inr h2),show decide ((z2b e:Int)>12)=true by simp;omega];exact l0 true;rw[Qbp (by omega),show decide ((z2b e:Int)>12)=false by simp;omega];exact l0 false
theorem zbi{e:zz1}(hs:e.size<=8388608):Ev (λn=>zzu n e) (z2r e):=by
 have l0:∀b,Ev (λn=>z1b n b e) (if b then 4 else if z0f e then 0 else 8):=λb=>by
  rw[zqy];cases b;rw[Ev.kz1 (by rfl),zz1.yz2,Ev.kz0 (yiz e hs)];cases z0f e;rw[Ev.zz2 (by rfl),Ev.yz0];rfl;rw[Ev.kz1 (by rfl),Ev.yz0];rfl;rw[Ev.zz2 (by rfl),Ev.yz0];rfl
 rw[y03,zz1.yz2,Ev.kz0 (zuk e hs)];unfold z2r;by_cases h1:100<yzc e;rw[Ev.zz2 (by simp;omega),Qbo (.inl h1)];exact l0 true;rw[Ev.kz1 (by simp;omega),Ev.kz0 (yit e hs)];by_cases h2:12<z2b e;rw[Qbo (.inr h2),show decide ((z2b e:Int)>12)=true by simp;omega];exact l0 true;rw[Qbp (by omega),show decide ((z2b e:Int)>12)=false by simp;omega];exact l0 false
theorem z8u{e:zz1}(h:z2r e=0):z0f e=true∧yzc e<=100∧z2b e<=12:=by
 unfold z2r at h;split at h;cases h;split at h;exact⟨‹_›,by omega,by omega⟩;cases h
theorem yfu:∀e:zz1,e.size<=8388608->∀d:Int,∃b,Ev (λn=>z5a n e d) b:=z90 λe ih hs d=>by
 have hsl:=z0a e;have hlen:=z4v e.args
 have loop:∀k,k<=e.args.length->∀d:Int,∃b,Ev (λn=>z1q n (k:Int) d e) b :=
  down (λd=>⟨false,by rw[zgk,Ev.kz1 (by simp),Ev.yz0]⟩) λk hk ihk d=>by
   have hx:=Qad hk;have hsx:=z73 hx;obtain⟨b,hb⟩:=ih _ hx (by omega) (IntKind.i64.wrap (d-1));obtain⟨c,hc⟩:=ihk d;refine⟨if b then true else c,?_⟩;rw[zgk,Ev.zz2 (by simpa using hk),Ev.zz3 (zzb hk),zz1.yz2,Ev.kz0 hb,zz1.yz2,wrk (by omega)];cases b;rw[Ev.kz1 (by rfl)];exact hc;rw[Ev.zz2 (by rfl),Ev.yz0];rfl
 have l0:∀d b,∃c,Ev (λn=>zzs n d b e) c:=λd b=>by
  cases b;obtain⟨c,hc⟩:=loop 0 (Qbm _) d;exact⟨c,by rw[zgr,Ev.kz1 (by rfl),zz1.yz2];exact hc⟩;exact⟨true,by rw[zgr,Ev.zz2 (by rfl),Ev.yz0]⟩
 obtain⟨g,hg⟩:=zv8 (v:=e.value) (by omega);simp only[y0e,zz1.yz2,zz0.yz2,Ev.pif,Ev.kz0 hg];split;exact l0 _ _;split;exact l0 _ _;split;exact l0 _ _;exact l0 _ _
theorem zun{e:zz1}(hs:e.size<=8388608):∃b,Ev (λn=>z5c n e) b:=by
 obtain⟨b,hb⟩:=yfu e hs 16;cases b;exact⟨_,by rw[zmo,zz1.yz2,Ev.kz0 hb,Ev.kz1 (by rfl),Ev.kz0 (zuk e hs)];exact Ev.yz0.2 rfl⟩;exact⟨true,by rw[zmo,zz1.yz2,Ev.kz0 hb,Ev.zz2 (by rfl),Ev.yz0]⟩
theorem yiy:∀v:zz0,z4s v=true->v.size<=68 * kzi v:=zeu λv ih h=>by
 have hl:∀l:kz2,(∀x∈l,x∈v.list)->(l.map zz0.size).sum<=68 * kz7 l:=λl=>by
  induction l with
  |nil=>intro _;simp
  |cons x l ihl=>
   intro hm;have h1:=ih x (hm x Qak) (z7p h x (hm x Qak));have h2:=ihl λy hy=>hm y (Qai _ hy)
   simp[kz7];omega
 have hl:=hl v.list λ_ h=>h
 rw[zz0.size_eq,yz1.size_eq,kzb];rw[z80]at h;split at h;rename_i hk;simp only[Qag,List.isEmpty_iff]at h;rw[Qbp (by omega),h.2.2.1,h.2.2.2];simp;split at h;simp only[Qag,List.isEmpty_iff]at h;rw[Qbp (by omega),h.2.1,h.2.2];simp;split at h;simp only[Qag,List.isEmpty_iff,Qaq]at h;rw[Qbp (by omega),h.2.2.1];have:=h.2.2.2.1;simp;omega;split at h
 rename_i hk;simp only[Qag,List.isEmpty_iff]at h;rw[Qbo hk,h.2.2.1];simp;omega;cases h
theorem yja{r:yz1}(h:nul r=true):r.wf:=by
 simp only[nul,Qag,Qbg]at h;rw[yz1.zbe,h.1,h.2];decide
theorem ytk{r:yz1}(h:rok r=true):r.wf:=by
 rw[z7s]at h;rw[yz1.zbe,show IntKind.i64.min = -9223372036854775808 from by decide,show IntKind.i64.max=9223372036854775807 from by decide];omega
theorem yr6:∀v:zz0,z4s v=true->v.wf:=zeu λv ih h=>by
 have hl:∀x∈v.list,x.wf:=λx hx=>ih x hx (z7p h x hx)
 have hk:=zfi h
 have hn:v.num.wf:=by
  rw[z80]at h;split at h;simp only[Qag]at h;exact ytk h.1;split at h;simp only[Qag]at h;exact yja h.1;split at h;simp only[Qag]at h;exact yja h.1;split at h;simp only[Qag]at h;exact yja h.1;cases h
 rw[zz0.zbe];refine⟨?_,hn,trivial,trivial,hl⟩;simp only[IntKind.min,IntKind.max,IntKind.signed,IntKind.bits]
 rcases hk with h|h|h|h <;> rw[h] <;> decide
theorem vok{v:zz0}(h:yz5 v=0):v.wf∧v.size<=6800:=by
 obtain⟨h1,h2,_⟩:=zzq h;have:=yiy v h1;exact⟨yr6 v h1,by omega⟩
theorem zn4{v:zz0}(h1:z4s v=true)(h2:kzi v<=100)(h3:z5j v<=6):yz5 v=0:=by
 unfold yz5;rw[Qbp (by omega),Qbo h1]
def zdu(r:Int×zz0):Res (Int×Unit) zz0:=if r.1=0 then .ok r.2 else .pan (r.1,())
theorem z98{r:Int×zz0}(h:r.1=0):zdu r = .ok r.2:=by unfold zdu;rw[Qbo h]
theorem z2h{r:Int×zz0}(h:r.1≠0):zdu r = .pan (r.1,()):=by unfold zdu;rw[Qbp h]
theorem zjm:Ev (λn=>yzi n 0) (.ok ()):=by rw[zrs,Ev.kz1 (by rfl),Ev.yz0]
theorem zax{e:Int}(h:e≠0):Ev (λn=>yzi n e) (.pan (e,())):=by rw[zrs,Ev.zz2 (by simpa using h),Ev.yz0]
theorem zez{k:Int}{l:kz2}(hl:l.length<=8388608):Ev (λn=>zze n k l) (if l.all (λv=>v.kind==k)then .ok ()else .pan (20,())):=by
 have loop:∀j,j<=l.length->Ev (λn=>z4i n (j:Int) k l (l.length:Int)) (if (l.drop j).all (λv=>v.kind==k)then .ok ()else .pan (20,())) :=
  down (by rw[zkj,Ev.kz1 (by simp),Ev.yz0];simp) λj hj ih=>by
   rw[<-Qah (h:=hj),List.all_cons];rw[zkj,Ev.zz2 (by simpa using hj),Ev.zz3 (zzb hj)];by_cases h:l[j].kind=k;rw[Ev.kz1 (by simpa using h),zws,wrk (by omega)];simp only[h,beq_self_eq_true,Bool.true_and];exact ih;rw[Ev.zz2 (by simpa using h),Ev.kz0 (zax (by decide)),Ev.z0k,Ev.yz0];have:(l[j].kind==k)=false:=by simpa using h
   rw[this];rfl
 rw[y9a];exact loop 0 (Qbm _)
def yds(r:yz1):zz0:=⟨1,r,false,[],[]⟩
def ze2(b:Bool):zz0:=⟨2,⟨0,0⟩,b,[],[]⟩
def zav(l:kz2):zz0:=⟨4,⟨0,0⟩,false,[],l⟩
def zeg(r:Int×yz1):Int×zz0:=if r.1=0 then (0,yds r.2)else (r.1,v0)
theorem zmj{r:Int×yz1}:Ev (λn=>yzu n r.2 r.1) (zdu (zeg r)):=by
 unfold zeg;rw[y2g];by_cases h:r.1=0;rw[h,Ev.kz0 zjm,Ev.z4k,Ev.yz0,Qbo rfl,z98 rfl];rfl;rw[Ev.kz0 (zax h),Ev.z0k,Ev.yz0,Qbp h,z2h h]
theorem zb9{b:Bool}:Ev (λn=>yzx n b) (ze2 b):=by rw[y4d,Ev.yz0];rfl
theorem y84{n:Int}(h : -1000000000<=n∧n<=1000000000):zfu n 1=(0,⟨n,1⟩):=by
 unfold zfu;rw[Qbp (by decide)];simp only[Int.natAbs_one,Nat.gcd_one_right,Nat.div_one];rw[Qbo (by omega)];by_cases h0:n<0;simp[h0];omega;simp[h0];omega
noncomputable def z14(op:Int)(l:kz2):Int×zz0 :=
 if op=3 then zqe (l.getD 0 v0) (l.getD 1 v0)
 else if op=4 then (if l.all (λv=>v.kind==1)then zeg (z6n yfk (l.getD 0 v0).num (l.getD 1 v0).num)else (20,v0))
 else if op=5 then (if l.all (λv=>v.kind==1)then zeg (z6n ygt (l.getD 0 v0).num (l.getD 1 v0).num)else (20,v0))
 else if op=6 then (if l.all (λv=>v.kind==1)then zeg (z6n fdiv (l.getD 0 v0).num (l.getD 1 v0).num)else (20,v0))
 else if op=8 then (0,ze2 (eqB (l.getD 0 v0) (l.getD 1 v0)))
 else if op=7∨op=13∨op=14 then
  (if (z0h (l.getD 0 v0) (l.getD 1 v0)).2≠0 then ((z0h (l.getD 0 v0) (l.getD 1 v0)).2,v0)
  else if op=7 then (0,ze2 (decide ((z0h (l.getD 0 v0) (l.getD 1 v0)).1<0)))
  else if op=13 then (0,if (z0h (l.getD 0 v0) (l.getD 1 v0)).1>0 then l.getD 1 v0 else l.getD 0 v0)
  else (0,if (z0h (l.getD 0 v0) (l.getD 1 v0)).1<0 then l.getD 1 v0 else l.getD 0 v0))
 else if op=9 then (if l.all (λv=>v.kind==2)then (0,ze2 ((l.getD 0 v0).truth&&(l.getD 1 v0).truth))else (20,v0))
 else if op=10 then (if l.all (λv=>v.kind==2)then (0,ze2 ((l.getD 0 v0).truth||(l.getD 1 v0).truth))else (20,v0))
 else if op=11 then (if l.all (λv=>v.kind==2)then (0,ze2 (!(l.getD 0 v0).truth))else (20,v0))
 else if op=15 then (if l.all (λv=>v.kind==1)then (0,yds ⟨(ze6 (l.getD 0 v0).num).1,1⟩)else (20,v0))
 else if op=16 then (if (z6s (l.getD 0 v0)).2≠0 then ((z6s (l.getD 0 v0)).2,v0)else (0,yds ⟨(z6s (l.getD 0 v0)).1,1⟩))
 else if op=17 then
  (if (z6s (l.getD 0 v0)).2≠0 then ((z6s (l.getD 0 v0)).2,v0)
  else if (l.getD 1 v0).kind≠1 then (20,v0)
  else if (l.getD 1 v0).num.den≠1 then (2,v0)
  else vat (l.getD 0 v0) (l.getD 1 v0).num.num)
 else (if yz5 (zav l)≠0 then (yz5 (zav l),v0)else (0,zav l))
theorem yg2{r:yz1} : -1000000000<=(ze6 r).1∧(ze6 r).1<=1000000000:=by
 unfold ze6;split;rename_i h;obtain⟨h1,_,h3⟩:=z94 h;exact ztp h1 h3
 decide
theorem yr1{v:zz0}(hs:v.size<=6800):0<=(z6s v).1∧(z6s v).1<=6800:=by
 have h1:=zzc v;have h2:=kzw v.list;unfold z6s;split;exact⟨by simp,by simp⟩;split;exact⟨by simp,by simp only;omega⟩;split;exact⟨by simp,by simp only;omega⟩;exact⟨by simp,by simp⟩
theorem zy9:∀{l:kz2},(∀x∈l,yz5 x=0)->(l.map zz0.size).sum<=6800 * l.length
 |[],_=>by simp
 |x::l,h=>by
  have h1:=(vok (h x Qak)).2;have h2:=zy9 (l:=l) λy hy=>h y (Qai _ hy)
  simp;omega
theorem yhm{l:kz2}(h:∀x∈l,yz5 x=0)(hl:l.length<=100):(zav l).wf∧(zav l).size<=8388608:=by
 have h2:=zy9 h;constructor;rw[zz0.zbe];refine⟨(by decide:IntKind.u8.min<=(4:Int)∧(4:Int)<=IntKind.u8.max),?_,trivial,trivial,λx hx=>(vok (h x hx)).1⟩;exact(by rw[yz1.zbe];decide:(⟨0,0⟩:yz1).wf);rw[zz0.size_eq,yz1.size_eq];simp only[zav,List.length_nil];omega
theorem ops2{op:Int}(h:kzl op=2):(3<=op∧op<=10)∨op=13∨op=14∨op=17:=by
 unfold kzl at h;split at h;cases h;split at h
 assumption
 split at h;cases h;split at h;cases h;split at h <;> cases h
theorem ops1{op:Int}(h:kzl op=1):op=11∨op=15∨op=16:=by
 unfold kzl at h;split at h;cases h;split at h;cases h;split at h
 assumption
 split at h;cases h;split at h <;> cases h
theorem ygd{op:Int}{a b:zz0}(hop:kzl op=2)(ha:yz5 a=0)(hb:yz5 b=0):Ev (λn=>z3o n op [a,b]) (zdu (z14 op [a,b])):=by
 obtain⟨wa,sa⟩:=vok ha;obtain⟨wb,sb⟩:=vok hb;have i0:ix [a,b] 0=some a:=rfl;have i1:ix [a,b] 1=some b:=rfl;have n (i j:Int) (h:i≠j):(i==j)=false:=by simpa using h
 have kok:∀k:Int,[a,b].all (λv=>v.kind==k)=true->Ev (λn=>zze n k [a,b]) (.ok ()):=λk h=>by have:=zez (k:=k) (l:=[a,b]) (by simp);rwa[Qbo h]at this
 have kpan:∀k:Int,[a,b].all (λv=>v.kind==k)=false->Ev (λn=>zze n k [a,b]) (.pan (20,())):=λk h=>by have:=zez (k:=k) (l:=[a,b]) (by simp);rwa[Qbp (by rw[h];simp)]at this
 unfold z14;simp only[List.getD_cons_zero,List.getD_cons_succ];rw[zhc];by_cases h3:op=3;rw[Ev.zz2 (by simpa using h3),Qbo h3,Ev.zz3 i0,Ev.zz3 i1,zz0.yz2,zz0.yz2,Ev.kz0 (ynn wa wb (by omega) (by omega))];by_cases hz:(zqe a b).1=0;rw[hz,Ev.kz0 zjm,Ev.z4k,Ev.yz0,zz0.yz2,z98 hz];rw[Ev.kz0 (zax hz),Ev.z0k,Ev.yz0,z2h hz];rw[Ev.kz1 (by simpa using h3),Qbp h3]
 have tail:∀{op:Int->Prop}{y:Int×zz0},True:=λ{_ _}=>trivial
 have num:∀{go:Nat->Option (Int×yz1)}{f:yz1->yz1->Int×Int},Ev go (z6n f a.num b.num) ->
   Ev (λn=>(go n).bind λy10=>(yzu n y10.2 y10.1).bind λy11=>z8n y11 (λr12=>some (Res.ok r12.re)) (λe13=>some (Res.pan (e13.1,())))) (zdu (zeg (z6n f a.num b.num))):=λ{go f} h=>by
  rw[Ev.kz0 h,Ev.kz0 zmj];by_cases hz:(zeg (z6n f a.num b.num)).1=0;rw[z98 hz,Ev.z4k,Ev.yz0,zz0.yz2];rw[z2h hz,Ev.z0k,Ev.yz0]
 have pan20:zdu (20,v0) = .pan (20,()):=rfl;by_cases h4:op=4;rw[Ev.zz2 (by simpa using h4),Qbo h4];cases hk:[a,b].all (λv=>v.kind==1);rw[Ev.kz0 (kpan 1 hk),Ev.z0k,Ev.yz0];rfl;rw[Ev.kz0 (kok 1 hk),Ev.z4k,Qbo rfl,Ev.zz3 i0,Ev.zz3 i1];exact num (ym9 (zhd wa) (zhd wb));rw[Ev.kz1 (by simpa using h4),Qbp h4];by_cases h5:op=5;rw[Ev.zz2 (by simpa using h5),Qbo h5];cases hk:[a,b].all (λv=>v.kind==1)
 rw[Ev.kz0 (kpan 1 hk),Ev.z0k,Ev.yz0];rfl;rw[Ev.kz0 (kok 1 hk),Ev.z4k,Qbo rfl,Ev.zz3 i0,Ev.zz3 i1];exact num (yof (zhd wa) (zhd wb));rw[Ev.kz1 (by simpa using h5),Qbp h5];by_cases h6:op=6;rw[Ev.zz2 (by simpa using h6),Qbo h6];cases hk:[a,b].all (λv=>v.kind==1);rw[Ev.kz0 (kpan 1 hk),Ev.z0k,Ev.yz0];rfl;rw[Ev.kz0 (kok 1 hk),Ev.z4k,Qbo rfl,Ev.zz3 i0,Ev.zz3 i1];exact num (yoe (zhd wa) (zhd wb))
 rw[Ev.kz1 (by simpa using h6),Qbp h6];by_cases h8:op=8;rw[Ev.zz2 (by simpa using h8),Qbo h8,Ev.zz3 i0,Ev.zz3 i1,zz0.yz2,zz0.yz2,Ev.kz0 (zjv a b (by omega)),Ev.kz0 zb9,Ev.yz0,zz0.yz2];rfl;rw[Ev.kz1 (by simpa using h8),Qbp h8]
 have l1:∀c z,Ev (λn=>z3b n [a,b] c z) (.ok (if c then a else b)):=λc z=>by
  rw[ztx];cases c;rw[Ev.kz1 (by rfl),Ev.zz3 i1,Ev.yz0,zz0.yz2];rfl;rw[Ev.zz2 (by rfl),Ev.zz3 i0,Ev.yz0,zz0.yz2];rfl
 have ord:(op=7∨op=13∨op=14)->∀z,Ev (λn=>z0y n [a,b] op op true z) (zdu (if (z0h a b).2≠0 then ((z0h a b).2,v0)
  else if op=7 then (0,ze2 (decide ((z0h a b).1<0)))
  else if op=13 then (0,if (z0h a b).1>0 then b else a)
  else (0,if (z0h a b).1<0 then b else a))):=λh z=>by
  rw[z9t,Ev.zz2 (by rfl),Ev.zz3 i0,Ev.zz3 i1,zz0.yz2,zz0.yz2,Ev.kz0 (y4o wa wb (by omega) (by omega))];generalize z0h a b=c;by_cases hz:c.2=0;rw[hz,Ev.kz0 zjm,Ev.z4k,Qbp (by simp)];by_cases h7:op=7;rw[Ev.zz2 (by simpa using h7),Qbo h7,Ev.kz0 zb9,Ev.yz0,zz0.yz2];rfl;rw[Ev.kz1 (by simpa using h7),Qbp h7,zz0.yz2];by_cases h13:op=13;rw[show(op==13)=true by simpa using h13,Qbo h13]
  by_cases hc:c.1<=0;rw[Ev.zz2 (by simp[hc])];exact(l1 _ _).to (by rw[Qbp (c:=c.1>0) (by omega)];rfl);rw[Ev.kz1 (by simp[hc]),show(c.1==0)=false by simp;omega];exact(l1 _ _).to (by rw[Qbo (c:=c.1>0) (by omega)];rfl);rw[show(op==13)=false by simpa using h13,Qbp h13];by_cases hc:c.1<=0;rw[Ev.kz1 (by simp[hc])];by_cases hc0:c.1=0;rw[show(c.1==0)=true by simpa using hc0]
  exact(l1 _ _).to (by rw[Qbp (c:=c.1<0) (by omega)];rfl);rw[show(c.1==0)=false by simpa using hc0];exact(l1 _ _).to (by rw[Qbo (c:=c.1<0) (by omega)];rfl);rw[Ev.zz2 (by simp[hc])];exact(l1 _ _).to (by rw[Qbp (c:=c.1<0) (by omega)];rfl);rw[Ev.kz0 (zax hz),Ev.z0k,Ev.yz0,Qbo hz,z2h (by exact hz)]
 by_cases h7:op=7;rw[Ev.zz2 (by simpa using h7),Qbo (.inl h7)];exact ord (.inl h7) _;rw[Ev.kz1 (by simpa using h7)];by_cases h13:op=13;rw[Ev.zz2 (by simpa using h13),Qbo (.inr (.inl h13))];exact ord (.inr (.inl h13)) _;rw[Ev.kz1 (by simpa using h13)];by_cases h14:op=14;rw[show(op==14)=true by simpa using h14,Qbo (.inr (.inr h14))];exact ord (.inr (.inr h14)) _
 rw[show(op==14)=false by simpa using h14,Qbp (by omega),z9t,Ev.kz1 (by rfl)];by_cases h9:op=9;rw[Ev.zz2 (by simpa using h9),Qbo h9];cases hk:[a,b].all (λv=>v.kind==2);rw[Ev.kz0 (kpan 2 hk),Ev.z0k,Ev.yz0];rfl;rw[Ev.kz0 (kok 2 hk),Ev.z4k,Qbo rfl,Ev.zz3 i0];cases ht:a.truth;rw[Ev.kz1 (by rfl),Ev.kz0 zb9,Ev.yz0,zz0.yz2];rfl;rw[Ev.zz2 (by rfl),Ev.zz3 i1,Ev.kz0 zb9,Ev.yz0,zz0.yz2];rfl
 rw[Ev.kz1 (by simpa using h9),Qbp h9];by_cases h10:op=10;rw[Ev.zz2 (by simpa using h10),Qbo h10];cases hk:[a,b].all (λv=>v.kind==2);rw[Ev.kz0 (kpan 2 hk),Ev.z0k,Ev.yz0];rfl;rw[Ev.kz0 (kok 2 hk),Ev.z4k,Qbo rfl,Ev.zz3 i0];cases ht:a.truth;rw[Ev.kz1 (by rfl),Ev.zz3 i1,Ev.kz0 zb9,Ev.yz0,zz0.yz2];rfl;rw[Ev.zz2 (by rfl),Ev.kz0 zb9,Ev.yz0,zz0.yz2];rfl;rw[Ev.kz1 (by simpa using h10),Qbp h10]
 have h17:op=17:=by have:=ops2 hop;omega
 rw[Ev.kz1 (by simp;omega),Ev.kz1 (by simp;omega),Ev.kz1 (by simp;omega),Ev.zz2 (by simpa using h17),Qbp (by omega),Qbp (by omega),Qbp (by omega),Qbo h17];rw[Ev.zz3 i0,zz0.yz2,Ev.kz0 (zud wa (by omega))];by_cases hz:(z6s a).2=0
 case neg=>rw[Ev.kz0 (zax hz),Ev.z0k,Ev.yz0,Qbo hz,z2h (by exact hz)]
 rw[hz,Ev.kz0 zjm,Ev.z4k,Qbp (by simp),Ev.zz3 i1,zz0.yz2];have k1:Ev (λn=>zze n 1 [b]) (if [b].all (λv=>v.kind==1)then .ok ()else .pan (20,())):=zez (by simp);by_cases hk:b.kind=1
 case neg=>
  rw[Qbp (by simpa using hk)]at k1;rw[Ev.kz0 k1,Ev.z0k,Ev.yz0,Qbo hk];rfl
 rw[Qbo (by simpa using hk)]at k1;rw[Ev.kz0 k1,Ev.z4k,Ev.zz3 i1,Qbp (by simpa using hk)];by_cases hd:b.num.den=1
 case neg=>rw[Ev.zz2 (by simpa using hd),Ev.kz0 (zax (by decide)),Ev.z0k,Ev.yz0,Qbo hd];rfl
 rw[Ev.kz1 (by simpa using hd),Qbp (by simpa using hd),zto,Ev.zz3 i0,Ev.zz3 i1,zz0.yz2,Ev.kz0 (ypj wa (by omega))];by_cases hv:(vat a b.num.num).1=0;rw[hv,Ev.kz0 zjm,Ev.z4k,Ev.yz0,zz0.yz2,z98 hv];rw[Ev.kz0 (zax hv),Ev.z0k,Ev.yz0,z2h hv]
theorem yfe{op:Int}{a:zz0}(hop:kzl op=1)(ha:yz5 a=0):Ev (λn=>z3o n op [a]) (zdu (z14 op [a])):=by
 obtain⟨wa,sa⟩:=vok ha;have i0:ix [a] 0=some a:=rfl;have kok:∀k:Int,[a].all (λv=>v.kind==k)=true->Ev (λn=>zze n k [a]) (.ok ()):=λk h=>by have:=zez (k:=k) (l:=[a]) (by simp);rwa[Qbo h]at this
 have kpan:∀k:Int,[a].all (λv=>v.kind==k)=false->Ev (λn=>zze n k [a]) (.pan (20,())):=λk h=>by have:=zez (k:=k) (l:=[a]) (by simp);rwa[Qbp (by rw[h];simp)]at this
 have ho:=ops1 hop;unfold z14;simp only[List.getD_cons_zero];rw[zhc,Ev.kz1 (by simp;omega),Ev.kz1 (by simp;omega),Ev.kz1 (by simp;omega),Ev.kz1 (by simp;omega),Ev.kz1 (by simp;omega),Ev.kz1 (by simp;omega),Ev.kz1 (by simp;omega),show(op==14)=false by simp;omega,z9t,Ev.kz1 (by rfl),Ev.kz1 (by simp;omega),Ev.kz1 (by simp;omega)]
 rw[Qbp (by omega),Qbp (by omega),Qbp (by omega),Qbp (by omega),Qbp (by omega),Qbp (by omega),Qbp (by omega),Qbp (by omega)];by_cases h11:op=11;rw[Ev.zz2 (by simpa using h11),Qbo h11];cases hk:[a].all (λv=>v.kind==2);rw[Ev.kz0 (kpan 2 hk),Ev.z0k,Ev.yz0];rfl;rw[Ev.kz0 (kok 2 hk),Ev.z4k,Qbo rfl,Ev.zz3 i0,Ev.kz0 zb9,Ev.yz0,zz0.yz2];rfl
 rw[Ev.kz1 (by simpa using h11),Qbp h11];by_cases h15:op=15;rw[Ev.zz2 (by simpa using h15),Qbo h15];cases hk:[a].all (λv=>v.kind==1);rw[Ev.kz0 (kpan 1 hk),Ev.z0k,Ev.yz0];rfl;have hb:=yg2 (r:=a.num)
 have hm:Ev (λn=>z17 n (ze6 a.num).1 1) (0,⟨(ze6 a.num).1,1⟩):=by
  have:=zpv (num:=(ze6 a.num).1) (den:=1) (by unfold I64;omega) (by unfold I64;omega);rwa[y84 hb]at this
 rw[Ev.kz0 (kok 1 hk),Ev.z4k,Qbo rfl,Ev.zz3 i0,Ev.kz0 (yep (zhd wa)),Ev.kz0 hm,Ev.kz0 (zmj (r:=(0,⟨(ze6 a.num).1,1⟩)))];rw[z98 (by rfl),Ev.z4k,Ev.yz0,zz0.yz2];rfl;have h16:op=16:=by omega
 rw[Ev.kz1 (by simpa using h15),Qbp h15,Ev.zz2 (by simpa using h16),Qbo h16,Ev.zz3 i0,zz0.yz2,Ev.kz0 (zud wa (by omega))];have hb:=yr1 sa;by_cases hz:(z6s a).2=0
 have hm:Ev (λn=>z17 n (z6s a).1 1) (0,⟨(z6s a).1,1⟩):=by
  have:=zpv (num:=(z6s a).1) (den:=1) (by unfold I64;omega) (by unfold I64;omega);rwa[y84 (by omega)]at this
 rw[hz,Ev.kz0 zjm,Ev.z4k,Ev.kz0 hm,Ev.kz0 (zmj (r:=(0,⟨(z6s a).1,1⟩)))];rw[z98 (by rfl),Ev.z4k,Ev.yz0,zz0.yz2,Qbp (by simp)];rfl;rw[Ev.kz0 (zax hz),Ev.z0k,Ev.yz0,Qbo hz,z2h (by exact hz)]
theorem yg9{l:kz2}(hl:l.length<=100)(h:∀x∈l,yz5 x=0):Ev (λn=>z3o n 18 l) (zdu (z14 18 l)):=by
 obtain⟨w,s⟩:=yhm h hl;have hc:Ev (λn=>zzl n (zz0.mk 4 (yz1.mk 0 0) false [] l)) (yz5 (zav l)):=zbd w s;rw[zhc]
 iterate 7 rw[Ev.kz1 (by rfl)]
 rw[show((18:Int)==14)=false from rfl,z9t]
 iterate 7 rw[Ev.kz1 (by rfl)]
 rw[Ev.kz0 hc]
 have e:z14 18 l=if yz5 (zav l)≠0 then (yz5 (zav l),v0)else (0,zav l):=by unfold z14;simp
 rw[e];by_cases hz:yz5 (zav l)=0;rw[hz,Ev.kz0 zjm,Ev.z4k,Ev.yz0];rfl;rw[Ev.kz0 (zax hz),Ev.z0k,Ev.yz0,Qbo hz,z2h (by exact hz)]
theorem all2{a b:zz0}{k:Int}:[a,b].all (λv=>v.kind==k)=((a.kind==k)&&(b.kind==k)):=by simp
theorem yck{r:Int×yz1}:Ev (λn=>z5r n r.2 r.1) (zeg r):=by
 unfold zeg;rw[zvv];by_cases h:r.1=0;rw[Ev.kz1 (by simpa using h),Ev.kz0 zxx,Ev.yz0,zz0.yz2,Qbo h];rfl;rw[Ev.zz2 (by simpa using h),Ev.yz0,Qbp h];rfl
theorem yn3{op:Int}{a b:zz0}(hop:kzl op=2)(ha:yz5 a=0)(hb:yz5 b=0):Ev (λn=>za8 n op a b) (z14 op [a,b]):=by
 obtain⟨wa,sa⟩:=vok ha;obtain⟨wb,sb⟩:=vok hb
 have l6:∀{go:Nat->Option (Int×yz1)}{r:Int×yz1}{z},Ev go r->Ev (λn=>(go n).bind λy=>z0m n y.1 z y.2) (zeg r):=λ{go r z} h=>by
  rw[Ev.kz0 h,zvy,Ev.kz0 yck,Ev.yz0,zz0.yz2]
 have l3:∀c z,Ev (λn=>zzx n c z b a) (0,if c then b else a):=λc z=>by
  rw[zwp];cases c;rw[Ev.kz1 (by rfl),Ev.yz0,zz0.yz2];rfl;rw[Ev.zz2 (by rfl),Ev.yz0,zz0.yz2];rfl
 have main:∀z,Ev (λn=>z44 n op ((a.kind==2)&&(b.kind==2)) ((a.kind==1)&&(b.kind==1)) z b a) (z14 op [a,b]):=λz=>by
  unfold z14;simp only[List.getD_cons_zero,List.getD_cons_succ,all2];rw[zvq];by_cases h3:op=3;rw[Ev.zz2 (by simpa using h3),Qbo h3,zz0.yz2,zz0.yz2,Ev.kz0 (yns (by omega) (by omega) (by omega)),Ev.yz0,zz0.yz2];rw[Ev.kz1 (by simpa using h3),Qbp h3,zz0.yz2,zz0.yz2,zz0.yz2];by_cases h8:op=8
  rw[Ev.zz2 (by simpa using h8),Qbp (by omega),Qbp (by omega),Qbp (by omega),Qbo h8,Ev.kz0 (zjs a b (by omega)),Ev.kz0 zbp,Ev.yz0,zz0.yz2];rfl;rw[Ev.kz1 (by simpa using h8)]
  have ord:(op=7∨op=13∨op=14)->∀p q z,Ev (λn=>z26 n op p q op true z b a) (if (z0h a b).2≠0 then ((z0h a b).2,v0)
   else if op=7 then (0,ze2 (decide ((z0h a b).1<0)))
   else if op=13 then (0,if (z0h a b).1>0 then b else a)
   else (0,if (z0h a b).1<0 then b else a)):=λh p q z=>by
   rw[z81,Ev.zz2 (by rfl),zz0.yz2,zz0.yz2,zz0.yz2,Ev.kz0 (y5m (by omega) (by omega))];generalize z0h a b=c;by_cases hz:c.2=0;rw[Ev.kz1 (by simpa using hz),Qbp (by simpa using hz)];by_cases h7:op=7;rw[Ev.zz2 (by simpa using h7),Qbo h7,Ev.kz0 zbp,Ev.yz0,zz0.yz2];rfl;rw[Ev.kz1 (by simpa using h7),Qbp h7];by_cases h13:op=13;rw[Ev.zz2 (by simpa using h13),Qbo h13];by_cases hc:c.1>0
   rw[Ev.zz2 (by simpa using hc)];exact(l3 true _).to (by rw[Qbo hc];rfl);rw[Ev.kz1 (by simpa using hc),Ev.kz1 (by simp;omega)];exact(l3 false _).to (by rw[Qbp hc];rfl);have h14:op=14:=by omega
   rw[Ev.kz1 (by simpa using h13),Qbp h13,Ev.zz2 (by simpa using h14)];by_cases hc:c.1<0;rw[show decide (c.1<0)=true by simpa using hc];exact(l3 true _).to (by rw[Qbo hc];rfl);rw[show decide (c.1<0)=false by simpa using hc];exact(l3 false _).to (by rw[Qbp hc];rfl);rw[Ev.zz2 (by simpa using hz),Qbo hz,Ev.yz0];rfl
  by_cases h4:op=4;rw[Qbo h4,Ev.kz1 (by simp;omega),Ev.kz1 (by simp;omega),show(op==14)=false by simp;omega,z81,Ev.kz1 (by rfl),Ev.kz1 (by simp;omega),show(op==10)=false by simp;omega,z5n,Ev.kz1 (by rfl),Ev.kz1 (by simp;omega)];cases hk:(a.kind==1)&&(b.kind==1);rw[Ev.zz2 (by rfl),Ev.yz0];rfl;rw[Ev.kz1 (by rfl),Ev.zz2 (by simpa using h4),Qbo rfl];exact l6 yno;rw[Qbp h4];by_cases h5:op=5
  rw[Qbo h5,Ev.kz1 (by simp;omega),Ev.kz1 (by simp;omega),show(op==14)=false by simp;omega,z81,Ev.kz1 (by rfl),Ev.kz1 (by simp;omega),show(op==10)=false by simp;omega,z5n,Ev.kz1 (by rfl),Ev.kz1 (by simp;omega)];cases hk:(a.kind==1)&&(b.kind==1);rw[Ev.zz2 (by rfl),Ev.yz0];rfl;rw[Ev.kz1 (by rfl),Ev.kz1 (by simp;omega),Ev.zz2 (by simpa using h5),Qbo rfl];exact l6 yo0;rw[Qbp h5];by_cases h6:op=6
  rw[Qbo h6,Ev.kz1 (by simp;omega),Ev.kz1 (by simp;omega),show(op==14)=false by simp;omega,z81,Ev.kz1 (by rfl),Ev.kz1 (by simp;omega),show(op==10)=false by simp;omega,z5n,Ev.kz1 (by rfl),Ev.kz1 (by simp;omega)];cases hk:(a.kind==1)&&(b.kind==1);rw[Ev.zz2 (by rfl),Ev.yz0];rfl;rw[Ev.kz1 (by rfl),Ev.kz1 (by simp;omega),Ev.kz1 (by simp;omega),Ev.zz2 (by simpa using h6),Qbo rfl];exact l6 ynw
  rw[Qbp h6,Qbp h8];by_cases h7:op=7;rw[Ev.zz2 (by simpa using h7),Qbo (.inl h7)];exact ord (.inl h7) _ _ _;rw[Ev.kz1 (by simpa using h7)];by_cases h13:op=13;rw[Ev.zz2 (by simpa using h13),Qbo (.inr (.inl h13))];exact ord (.inr (.inl h13)) _ _ _;rw[Ev.kz1 (by simpa using h13)];by_cases h14:op=14;rw[show(op==14)=true by simpa using h14,Qbo (.inr (.inr h14))];exact ord (.inr (.inr h14)) _ _ _
  rw[show(op==14)=false by simpa using h14,Qbp (by omega),z81,Ev.kz1 (by rfl)];by_cases h9:op=9;rw[Ev.zz2 (by simpa using h9),Qbo h9,z5n,Ev.zz2 (by rfl)];cases hk:(a.kind==2)&&(b.kind==2);rw[Ev.zz2 (by rfl),Ev.yz0];rfl;rw[Ev.kz1 (by rfl),Qbo rfl,zz0.yz2,zz0.yz2];have e10:(op==10)=false:=by simp;omega
  cases ht:a.truth;rw[Ev.kz1 (by rfl),Ev.kz1 e10,Ev.kz0 zbp,Ev.yz0,zz0.yz2];rfl;rw[Ev.zz2 (by rfl)];cases hu:b.truth;rw[Ev.kz1 (by rfl),Ev.kz1 e10,Ev.kz0 zbp,Ev.yz0,zz0.yz2];rfl;rw[Ev.zz2 (by rfl),Ev.kz0 zbp,Ev.yz0,zz0.yz2];rfl;rw[Ev.kz1 (by simpa using h9),Qbp h9];by_cases h10:op=10;rw[show(op==10)=true by simpa using h10,Qbo h10,z5n,Ev.zz2 (by rfl)];cases hk:(a.kind==2)&&(b.kind==2)
  rw[Ev.zz2 (by rfl),Ev.yz0];rfl;rw[Ev.kz1 (by rfl),Qbo rfl,zz0.yz2,zz0.yz2];have e10:(op==10)=true:=by simpa using h10
  cases ht:a.truth;rw[Ev.kz1 (by rfl),Ev.zz2 e10,Ev.kz1 (by rfl),Ev.kz0 zbp,Ev.yz0,zz0.yz2];rfl;rw[Ev.zz2 (by rfl)];cases hu:b.truth;rw[Ev.kz1 (by rfl),Ev.zz2 e10,Ev.zz2 (by rfl),Ev.kz0 zbp,Ev.yz0,zz0.yz2];rfl;rw[Ev.zz2 (by rfl),Ev.kz0 zbp,Ev.yz0,zz0.yz2];rfl;have h17:op=17:=by have:=ops2 hop;omega
  rw[show(op==10)=false by simpa using h10,Qbp h10,Qbp (by omega),Qbp (by omega),Qbp (by omega),Qbo h17,z5n,Ev.kz1 (by rfl),Ev.zz2 (by simpa using h17)]
  have hlen:(z6s a).2=if a.kind=3∨a.kind=4 then 0 else 20:=by
   unfold z6s;rw[Qbp (by simpa using ha)];by_cases k3:a.kind=3;rw[Qbo k3,Qbo (.inl k3)];rw[Qbp k3];by_cases k4:a.kind=4;rw[Qbo k4,Qbo (.inr k4)];rw[Qbp k4,Qbp (by omega)]
  have bad:∀z,Ev (λn=>z0l n true z b a) (20,v0):=λz=>by rw[zki,Ev.zz2 (by rfl),Ev.yz0];rfl
  simp only[zz0.yz2];by_cases hkb:b.kind=1
  case neg=>
   rw[Ev.zz2 (by simpa using hkb)];refine(bad _).to ?_;rw[Qbo hkb,hlen];by_cases hh:a.kind=3∨a.kind=4;rw[Qbo hh];rfl;rw[Qbp hh];rfl
  rw[Ev.kz1 (by simpa using hkb)]
  have l5:∀z,(z6s a).2=0->Ev (λn=>z0l n false z b a) (if (z6s a).2≠0 then ((z6s a).2,v0)else if b.kind≠1 then (20,v0)else if b.num.den≠1 then (2,v0)else vat a b.num.num):=λz hz=>by
   rw[zki,Ev.kz1 (by rfl),Qbp (by simpa using hz),Qbp (by simpa using hkb)];by_cases hd:b.num.den=1;rw[Ev.kz1 (by simpa using hd),Qbp (by simpa using hd),zz0.yz2,Ev.kz0 (yqs (by omega)),Ev.yz0,zz0.yz2];rw[Ev.zz2 (by simpa using hd),Qbo hd,Ev.yz0];rfl
  by_cases k4:a.kind=4;rw[Ev.kz1 (by simpa using k4)];exact l5 _ (by rw[hlen,Qbo (.inr k4)]);rw[Ev.zz2 (by simpa using k4)];by_cases k3:a.kind=3;rw[show(a.kind != 3)=false by simpa using k3];exact l5 _ (by rw[hlen,Qbo (.inl k3)]);rw[show(a.kind != 3)=true by simpa using k3];refine(bad _).to ?_;have h20:(z6s a).2=20:=by rw[hlen,Qbp (by omega)]
  rw[h20];rfl
 rw[yct,zz0.yz2,zz0.yz2]
 have l0:∀c z,c=((a.kind==1)&&(b.kind==1))->Ev (λn=>z4e n op c z b a) (z14 op [a,b]):=λc z hc=>by
  subst hc;rw[zwh];simp only[zz0.yz2];cases h2:a.kind==2;rw[Ev.kz1 (by rfl)];have:=main z;rwa[h2]at this;rw[Ev.zz2 (by rfl)];have:=main z;rwa[h2]at this
 cases h1:a.kind==1;rw[Ev.kz1 (by rfl)];exact l0 _ _ (by rw[h1];rfl);rw[Ev.zz2 (by rfl)];exact l0 _ _ (by rw[h1];rfl)
theorem zvb{n:Int}:Ev (λm=>z58 m n) (0,yds ⟨n,1⟩):=by rw[y1y,Ev.kz0 zxx,Ev.yz0,zz0.yz2];rfl
theorem yml{op:Int}{a:zz0}(hop:kzl op=1)(ha:yz5 a=0):Ev (λn=>za4 n op a) (z14 op [a]):=by
 obtain⟨wa,sa⟩:=vok ha;have ho:=ops1 hop;unfold z14;simp only[List.getD_cons_zero];rw[yca,Qbp (by omega),Qbp (by omega),Qbp (by omega),Qbp (by omega),Qbp (by omega),Qbp (by omega),Qbp (by omega),Qbp (by omega)];have one:∀k:Int,[a].all (λv=>v.kind==k)=(a.kind==k):=λk=>by simp
 simp only[one];by_cases h11:op=11;rw[Ev.zz2 (by simpa using h11),Qbo h11];by_cases hk:a.kind=2;rw[Ev.kz1 (by simpa using hk),Qbo (by simpa using hk),Ev.kz0 zbp,Ev.yz0,zz0.yz2];rfl;rw[Ev.zz2 (by simpa using hk),Qbp (by simpa using hk),Ev.yz0];rfl;rw[Ev.kz1 (by simpa using h11),Qbp h11];by_cases h15:op=15;rw[Ev.zz2 (by simpa using h15),Qbo h15];by_cases hk:a.kind=1
 rw[Ev.kz1 (by simpa using hk),Qbo (by simpa using hk),Ev.kz0 yfz,Ev.kz0 zvb,Ev.yz0,zz0.yz2];rw[Ev.zz2 (by simpa using hk),Qbp (by simpa using hk),Ev.yz0];rfl;have h16:op=16:=by omega
 rw[Ev.kz1 (by simpa using h15),Qbp h15,Qbo h16,zz0.yz2,Ev.kz0 (y7x (by omega))];by_cases hz:(z6s a).2=0;rw[Ev.kz1 (by simpa using hz),Qbp (by simpa using hz),Ev.kz0 zvb,Ev.yz0,zz0.yz2];rw[Ev.zz2 (by simpa using hz),Qbo hz,Ev.yz0];rfl
theorem zjb(b:Bool):yz5 (ze2 b)=0:=by cases b <;> decide
theorem zpy{r:yz1}(h:rok r=true):yz5 (yds r)=0:=by
 refine zn4 ?_ ?_ ?_;rw[z80];simp[yds,h];rw[kzb];simp[yds];rw[z1x];simp[yds]
theorem ylq{n:Int}(h : -1000000000<=n∧n<=1000000000):rok ⟨n,1⟩=true:=by
 rw[z7s];simp;omega
theorem zxn{s:B8}(h1:s.length<=60)(h2:s.all zi3=true):yz5 ⟨3,⟨0,0⟩,false,s,[]⟩=0:=by
 refine zn4 ?_ ?_ ?_;rw[z80];simp only[nul];simp[h1];simpa using h2
 rw[kzb];simp;rw[z1x];simp
theorem yjo{v:zz0}(h:z4s v=true)(hk:v.kind=3):v.str.length<=60∧v.str.all zi3=true:=by
 rw[z80,Qbp (by omega),Qbp (by omega),Qbo hk]at h;simp only[Qag,Qaq]at h;exact h.2.2.2
theorem ylp{f:yz1->yz1->Int×Int}{a b:yz1}(h:(zeg (z6n f a b)).1=0):yz5 (zeg (z6n f a b)).2=0:=by
 unfold zeg at h ⊢;split at h;rename_i hz;rw[Qbo hz];refine zpy ?_;unfold z6n at hz ⊢;split at hz;rename_i hr;rw[Qbo hr];exact yq8 hz;cases hz;rename_i hz;exact(hz h).elim
theorem zmg{l:kz2}{x:zz0}(h:x∈l):kzi x<=kz7 l∧1+z5j x<=z08 l:=by
 induction l with
 |nil=>cases h
 |cons y l ih=>
  rcases Qbf.1 h with rfl|h
  simp[kz7,z08];omega;have:=ih h;simp[kz7,z08];omega
theorem y23{v x:zz0}(h:yz5 v=0)(hk:v.kind=4)(hx:x∈v.list):yz5 x=0:=by
 obtain⟨h1,h2,h3⟩:=zzq h;obtain⟨h4,h5⟩:=zmg hx;rw[kzb,Qbo hk]at h2;rw[z1x,Qbo hk]at h3;exact zn4 (z7p h1 x hx) (by omega) (by omega)
theorem ys6{a b:zz0}(h:(zqe a b).1=0):yz5 (zqe a b).2=0:=by
 unfold zqe at h ⊢;split at h;rename_i hz;exact(hz h).elim;rename_i hz;rw[Qbp hz];have hz:zf4 a b=0:=by simpa using hz
 obtain⟨c1,c2⟩:=zia hz;obtain⟨f1,p1,d1⟩:=zzq c1;obtain⟨f2,p2,d2⟩:=zzq c2;split at h;cases h;rename_i hk;rw[Qbp hk];split at h;rename_i h1;rw[Qbo h1];split at h;rename_i hr;exact(hr h).elim;rename_i hr;rw[Qbp hr];have hr:(z6n zrn a.num b.num).1=0:=by simpa using hr
 have:=ylp (f:=zrn) (a:=a.num) (b:=b.num) (by unfold zeg;rw[Qbo hr]);unfold zeg at this;rw[Qbo hr]at this;exact this;rename_i h1;rw[Qbp h1];split at h;rename_i h3;rw[Qbo h3];split at h;cases h;rename_i hl;rw[Qbp hl];refine zxn (by simp;omega) ?_;rw[List.all_append,(yjo f1 h3).2,(yjo f2 (by omega)).2];rfl;rename_i h3;rw[Qbp h3];split at h;cases h;rename_i hl;rw[Qbp hl]
 have k4:a.kind=4:=by have:=zfi f1;omega
 have k4b:b.kind=4:=by omega
 have app:∀l m:kz2,kz7 (l++m)=kz7 l+kz7 m∧z08 (l++m)=max (z08 l) (z08 m):=λl m=>by
  induction l with
  |nil=>simp[kz7,z08]
  |cons x l ih=>simp[kz7,z08,ih];omega
 obtain⟨e1,e2⟩:=app a.list b.list;rw[kzb,Qbo k4]at p1;rw[kzb,Qbo k4b]at p2;rw[z1x,Qbo k4]at d1;rw[z1x,Qbo k4b]at d2;rw[kzb,kzb b,Qbo k4,Qbo k4b]at hl;refine zn4 ?_ ?_ ?_;rw[z80]
 have:zc8 (a.list++b.list)=true:=by
  rw[y18,List.all_append,Qag,Qas,Qas];exact⟨z7p f1,z7p f2⟩
 simp[nul,this];rw[kzb,Qbo rfl,e1];omega;rw[z1x,Qbo rfl,e2];omega
theorem yt8{v:zz0}{i:Int}(h:(vat v i).1=0):yz5 (vat v i).2=0:=by
 unfold vat at h ⊢;split at h;rename_i hz;exact(hz h).elim;rename_i hz;rw[Qbp hz];obtain⟨c,hk⟩:=yd4 (by simpa using hz);split at h;cases h;rename_i hi;rw[Qbp hi];split at h;rename_i k4;rw[Qbo k4]
 have e:(z6s v).1=v.list.length:=by rcases hk with ⟨h3,_⟩|⟨_,e⟩;omega;exact e
 have hlt:i.toNat<v.list.length:=by omega
 rw[Qab hlt];exact y23 c k4 (Qad hlt);rename_i k4;rw[Qbp k4]
 have k3:v.kind=3:=by rcases hk with ⟨h3,_⟩|⟨h4,_⟩;exact h3;exact(k4 h4).elim
 obtain⟨f1,_,_⟩:=zzq c;obtain⟨s1,s2⟩:=yjo f1 k3;refine zxn ?_ ?_;rw[Qax];omega;rw[Qas]at s2 ⊢;intro x hx;exact s2 x (List.mem_of_mem_drop (List.mem_of_mem_take hx))
theorem yoa{op:Int}{l:kz2}(hl:∀x∈l,yz5 x=0)(hop:kzl op=l.length∧(l.length=1∨l.length=2)∨op=18)(h:(z14 op l).1=0):yz5 (z14 op l).2=0:=by
 have g0:1<=l.length->yz5 (l.getD 0 v0)=0:=λhh=>by
  rw[Qaz,Qab (by omega)];exact hl _ (Qad _)
 have g1:2<=l.length->yz5 (l.getD 1 v0)=0:=λhh=>by
  rw[Qaz,Qab (by omega)];exact hl _ (Qad _)
 have hc2:(3<=op∧op<=10)∨op=13∨op=14∨op=17->l.length=2:=λhh=>by
  rcases hop with ⟨h1,h2⟩|h1
  rcases h2 with h2|h2
  rw[h2]at h1;have:=ops1 h1;omega;exact h2;omega
 have hc1:op=11∨op=15∨op=16->l.length=1:=λhh=>by
  rcases hop with ⟨h1,h2⟩|h1
  rcases h2 with h2|h2
  exact h2;rw[h2]at h1;have:=ops2 h1;omega;omega
 unfold z14 at h ⊢;by_cases h3:op=3;rw[Qbo h3]at h ⊢;exact ys6 h;rw[Qbp h3]at h ⊢
 have num:∀{f:yz1->yz1->Int×Int}{c:Bool}{a b:yz1},(if c=true then zeg (z6n f a b)else (20,v0)).1=0->yz5 (if c=true then zeg (z6n f a b)else (20,v0)).2=0:=λ{f c a b} h=>by
  cases c;cases h;rw[Qbo rfl]at h ⊢;exact ylp h
 by_cases h4:op=4;rw[Qbo h4]at h ⊢;exact num h;rw[Qbp h4]at h ⊢;by_cases h5:op=5;rw[Qbo h5]at h ⊢;exact num h;rw[Qbp h5]at h ⊢;by_cases h6:op=6;rw[Qbo h6]at h ⊢;exact num h;rw[Qbp h6]at h ⊢;by_cases h8:op=8;rw[Qbo h8];exact zjb _;rw[Qbp h8]at h ⊢;by_cases h7:op=7∨op=13∨op=14;rw[Qbo h7]at h ⊢;have hlen:=hc2 (by omega);split at h;rename_i hz;exact(hz h).elim;rename_i hz;rw[Qbp hz];split
 exact zjb _;split;simp only;split;exact g1 (by omega);exact g0 (by omega);simp only;split;exact g1 (by omega);exact g0 (by omega);rw[Qbp h7]at h ⊢
 have tr:∀{c b:Bool},(if c=true then ((0:Int),ze2 b)else (20,v0)).1=0->yz5 (if c=true then ((0:Int),ze2 b)else (20,v0)).2=0:=λ{c b} h=>by
  cases c;cases h;exact zjb _
 by_cases h9:op=9;rw[Qbo h9]at h ⊢;exact tr h;rw[Qbp h9]at h ⊢;by_cases h10:op=10;rw[Qbo h10]at h ⊢;exact tr h;rw[Qbp h10]at h ⊢;by_cases h11:op=11;rw[Qbo h11]at h ⊢;exact tr h;rw[Qbp h11]at h ⊢;by_cases h15:op=15;rw[Qbo h15]at h ⊢;split at h;rename_i hk;rw[Qbo hk];exact zpy (ylq yg2);cases h;rw[Qbp h15]at h ⊢;by_cases h16:op=16;rw[Qbo h16]at h ⊢
 have:=yr1 (vok (g0 (by have:=hc1 (by omega);omega))).2;split at h;rename_i hz;exact(hz h).elim;rename_i hz;rw[Qbp hz];exact zpy (ylq (by omega));rw[Qbp h16]at h ⊢;by_cases h17:op=17;rw[Qbo h17]at h ⊢;split at h;rename_i hz;exact(hz h).elim;rename_i hz;rw[Qbp hz];split at h;cases h;rename_i hk;rw[Qbp hk];split at h;cases h;rename_i hd;rw[Qbp hd];exact yt8 h;rw[Qbp h17]at h ⊢;split at h
 rename_i hz;exact(hz h).elim;rename_i hz;rw[Qbp hz];simpa using hz
end Go.Proofs.YtcaehabdaleamaaGreat
