/-
  EditBack: the law.
-/
import Derived.Test.YthlmhmebajjkbaaGreatDoorOwn4
set_option linter.defProp false
set_option linter.unusedSimpArgs false
set_option linter.unusedVariables false
namespace Go.Proofs.YthlmhmebajjkbaaGreatDoor
open Go Go.Ab
abbrev E4(f t:B8):yzh:=yzh.mk 4 f t (zz3.mk [] [] []) (yz1.mk 0 (zz1.mk 0 (kz4.mk 0 0) false [] []) [] [])
abbrev E1(r:zz3):yzh:=yzh.mk 1 [] [] r (yz1.mk 0 (zz1.mk 0 (kz4.mk 0 0) false [] []) [] [])
abbrev E2(t:B8):yzh:=yzh.mk 2 t [] (zz3.mk [] [] []) (yz1.mk 0 (zz1.mk 0 (kz4.mk 0 0) false [] []) [] [])
def ymo:eqB (yz1.mk 0 (zz1.mk 0 (kz4.mk 0 0) false [] []) [] []) y7v=true:=zax y7v
def ymj:(yz1.mk 0 (zz1.mk 0 (kz4.mk 0 0) false [] []) [] []).size=12:=by
 rw[yz1.size_eq];simp only[zz1.size_eq,kz4.size_eq,List.map_nil,List.sum_nil,Qcc];omega
def u8k{k:Int}(h:0<=k∧k<=255):IntKind.u8.min<=k∧k<=IntKind.u8.max:=h
def i64k{k:Int}(h : -9223372036854775808<=k∧k<=9223372036854775807):IntKind.i64.min<=k∧k<=IntKind.i64.max:=h
def z05j{b:Bool}{k:Int}(h:0<=k∧k<=255):(zz1.mk k (kz4.mk 0 0) b [] []).wf:=by
 rw[zz1.kzn];exact⟨u8k h,by rw[kz4.kzn];exact⟨i64k (k:=0) (by decide),i64k (k:=0) (by decide)⟩,trivial,trivial,λ_ h=>by cases h⟩
def z00t:(yz1.mk 0 (zz1.mk 0 (kz4.mk 0 0) false [] []) [] []).wf:=by
 rw[yz1.kzn];exact⟨u8k (by decide),z05j (by decide),trivial,λ_ h=>by cases h⟩
def yw0:(zz3.mk [] [] []).size=4:=by rw[zz3.size_eq];rfl
def z05h:(zz3.mk [] [] []).wf:=by rw[zz3.kzn];exact⟨trivial,λ_ _=>trivial,λ_ h=>by cases h⟩
def z05r{f t:B8}:(E4 f t).wf:=by rw[yzh.kzn];exact⟨u8k (k:=4) (by decide),trivial,trivial,z05h,z00t⟩
def E1_wf{r:zz3}(h:r.wf):(E1 r).wf:=by rw[yzh.kzn];exact⟨u8k (k:=1) (by decide),trivial,trivial,h,z00t⟩
def E2_wf{t:B8}:(E2 t).wf:=by rw[yzh.kzn];exact⟨u8k (k:=2) (by decide),trivial,trivial,z05h,z00t⟩
def yb2{f t:B8}:(E4 f t).size=f.length+t.length+20:=by rw[yzh.size_eq];simp only[yw0,ymj];omega
def yvk{r:zz3}:(E1 r).size=r.size+16:=by rw[yzh.size_eq];simp only[ymj,Qcc];omega
def yvp{t:B8}:(E2 t).size=t.length+20:=by rw[yzh.size_eq];simp only[yw0,ymj,Qcc];omega
def z03h{f t:B8}:y67 (E4 f t)=true:=by unfold y67;simp only[ymo];rfl
def z064{r:zz3}:y67 (E1 r)=true:=by unfold y67;simp only[ymo];rfl
def z062{t:B8}:y67 (E2 t)=true:=by unfold y67;simp only[ymo];rfl
def k41:¬(4:Int)=1:=by decide
def k42:¬(4:Int)=2:=by decide
def k43:¬(4:Int)=3:=by decide
def k21:¬(2:Int)=1:=by decide
section
variable {p:zz0}(h:zbw p = 0)
include h
theorem ypj{f t:B8}(b:f∈yz6 p)(a:t∉yz6 p):ynf p [E4 f t]=if zbw (zi5 f t p)=0 then (0,zi5 f t p)else (zbw (zi5 f t p),⟨[],[]⟩):=by
 have e:zil p (E4 f t)=(0,zi5 f t p):=by
  unfold zil;rw[Qby k41,Qby k42,Qby k43,Qbx rfl,Qby (λq=>zfb.1 q b),Qbx (zfb.2 a)]
 unfold ynf;rw[Qbx h,Qbx (by simp),zoj,Qbx z03h,e,Qbx rfl,zoj]
theorem ysq{f t:B8}(b:f∈yz6 p)(a:t∈yz6 p):ynf p [E4 f t]=(14,⟨[],[]⟩):=by
 have e:zil p (E4 f t)=(14,p):=by
  unfold zil;rw[Qby k41,Qby k42,Qby k43,Qbx rfl,Qby (λq=>zfb.1 q b),Qby (λq=>zfb.1 q a)]
 unfold ynf;rw[Qbx h,Qbx (by simp),zoj,Qbx z03h,e,Qby (show ¬(14:Int)=0 by decide)]
theorem z03j{r:zz3}(b:r.name∉yz6 p):ynf p [E1 r,E2 r.name]=(0,p):=by
 have e:zil p (E1 r)=(0,⟨p.attrs,p.rules++[r]⟩):=by
  unfold zil;rw[Qbx rfl,Qbx (zfb.2 b)]
 have d:r.name∈yz6 ⟨p.attrs,p.rules++[r]⟩:=Qbg.2 ⟨r,Qbb.2 (.inr (Qbc.2 rfl)),rfl⟩
 have m:zil ⟨p.attrs,p.rules++[r]⟩ (E2 r.name)=(0,p):=by
  unfold zil;rw[Qby k21,Qbx rfl,Qby (λq=>zfb.1 q d)];have⟨i,l,a,j⟩:=yl9 (xs:=p.rules++[r]) (nm:=λr:zz3=>r.name) (s:=r.name) (λq=>zfb.1 q d);have a:atI (yz6 ⟨p.attrs,p.rules++[r]⟩) r.name=(i:Int):=a
  have k:i=p.rules.length:=by
   simp only[Qap,List.length_singleton]at l
   rcases Nat.lt_or_ge i p.rules.length with g|g
   ·rw[List.getElem_append_left g]at j;exact absurd (Qbg.2 ⟨_,Qad g,j⟩) b
   ·omega
  show(0,zz0.mk _ _)=(0,p);simp only[a,Qbq,k];rw[List.take_left,List.drop_eq_nil_of_le (by simp),List.append_nil]
 unfold ynf;rw[Qbx h,Qbx (by simp),zoj,Qbx z064,e,Qbx rfl,zoj,Qbx z062];dsimp only;rw[m,Qbx rfl,zoj,Qbx h]
end
def Rc(t f:B8):zz3:=zz3.mk t [] [zz4.mk 1 (yz1.mk 1 (zz1.mk 2 (kz4.mk 0 0) true [] []) [] []) [kz2.mk 1 0 f [] []]]
def z02t{t f:B8}:Ev (λn=>kzt n t [f]) (Rc t f):=by
 rw[zwi,Ev.kz0 (show Ev (λn=>z0o n) (yz1.mk 1 (zz1.mk 2 (kz4.mk 0 0) true [] []) [] []) by rw[zvp,Ev.yz0])];rw[zhm,Ev.zz2 (by rfl),Ev.yz2 (show ix [f] 0=some f by rfl),Ev.yz2 (z2w (by simp))];rw[zhm,Ev.kz1 (by rfl),Ev.yz0];rfl
def z04y{t f:B8}:(Rc t f).size<=t.length+f.length+40:=by
 unfold Rc;simp only[zz3.size_eq,zz4.size_eq,yz1.size_eq,zz1.size_eq,kz4.size_eq,kz2.size_eq,List.map_nil,List.map_cons,List.sum_cons,List.sum_nil,Qcc];omega
def Rc_wf{t f:B8}:(Rc t f).wf:=by
 unfold Rc;rw[zz3.kzn];refine⟨trivial,λ_ h=>trivial,λc b =>?_⟩;rw[Qbc.1 b,zz4.kzn];refine⟨i64k (k:=1) (by decide),?_,λa d =>?_⟩
 ·rw[yz1.kzn];exact⟨u8k (k:=1) (by decide),z05j (by decide),trivial,λ_ h=>by cases h⟩
 ·rw[Qbc.1 d,kz2.kzn];exact⟨u8k (k:=1) (by decide),u8k (k:=0) (by decide),trivial,λ_ h=>(by cases h),λ_ h=>(by cases h)⟩
def yut(p:zz0)(k:Int)(t:B8)(o:p.wf)(R:p.size<=1048576):∃n,zzy n p k t=some (Res.ok true):=by
 have Q:=zz0.zxg p;refine Ev.get ?_;rw[zra,Ev.kz0 z01y,Ev.z05z];have⟨b,K,I⟩:=z019 o (by omega);have m:Ev (λn=>kza n true t k true p) (.ok true):=by rw[zf4,Ev.zz2 (by rfl),Ev.yz0]
 rw[Ev.kz0 K];cases b
 case false=>rw[Ev.zz2 (by rfl)];exact m
 rw[Ev.kz1 (by rfl)];by_cases k0:k<0
 ·rw[Ev.zz2 (Qbt k0)];exact m
 rw[Ev.kz1 (Qbs k0)];by_cases D:k>=(p.rules.length:Int)
 ·rw[Ev.zz2 (Qbt D)];exact m
 rw[Ev.kz1 (Qbs D)];by_cases C:(t.length:Int)>100
 ·rw[Ev.zz2 (Qbt C)];exact m
 rw[Ev.kz1 (Qbs C)];show Ev (λn=>kza n true t k false p) (.ok true);obtain⟨i,rfl⟩:∃i:Nat,k=(i:Int):=⟨k.toNat,by omega⟩;have E:i<p.rules.length:=by omega
 have j:=I rfl;have S:=yjq.1 j;have g:p.rules[i].name∈yz6 p:=Qbg.2 ⟨_,Qad E,rfl⟩;have N:=ywa (S.name g);have x:(yz6 p).length<=8388608:=by have:=@zmt p;simp only[yz6,Qbd];omega
 have L:=y2g (p:=p) (l:=[E4 p.rules[i].name t]) o (λe he=>by rw[Qbc.1 he];exact z05r) (λe he=>by rw[Qbc.1 he,yb2];omega) (by
  simp only[List.map_cons,List.map_nil,List.sum_cons,List.sum_nil,yb2];omega)
 have B:∀c:Int,(c=0∨c=8)->t∉yz6 p->Ev (λn=>zzr n c true t p.rules[i].name p) (.ok true):=λc J a=>by
  have T:=@z04y t p.rules[i].name
  have G:=y2g (p:=p) (l:=[E1 (Rc t p.rules[i].name),E2 t]) o (λe he=>by
    rcases Qbl.1 he with rfl|he
    ·exact E1_wf Rc_wf
    ·rw[Qbc.1 he];exact E2_wf) (λe he=>by
    rcases Qbl.1 he with rfl|he
    ·rw[yvk];omega
    ·rw[Qbc.1 he,yvp];omega) (by
   simp only[List.map_cons,List.map_nil,List.sum_cons,List.sum_nil,yvk,yvp];omega)
  rw[show ynf p [E1 (Rc t p.rules[i].name),E2 t]=(0,p)from z03j j (r:=Rc t p.rules[i].name) a]at G;rw[zmv,Ev.kz0 z02t,Ev.kz0 G,Ev.zz2 (by rfl)]
  rcases J with rfl|rfl
  ·rw[Ev.zz2 (by rfl),Ev.zz2 (by rfl),Ev.kz0 (y2c (p:=p) (by omega)),Ev.yz0]
  ·rw[Ev.kz1 (by rfl),Ev.zz2 (by rfl),Ev.zz2 (by rfl),Ev.kz0 (y2c (p:=p) (by omega)),Ev.yz0]
 rw[zf4,Ev.kz1 (by rfl),Ev.yz2 (zz6 E),Ev.kz0 L,Ev.kz0 (zqk (by omega)),Ev.kz0 (z05w x)];by_cases a:t∈yz6 p
 ·rw[ysq j g a,Ev.zz2 (Qbt a),Ev.zz2 (by rfl),Ev.yz0];rfl
 rw[ypj j g a,Ev.kz1 (Qbs a)]
 rcases yxv S g a with ⟨hq,u⟩|hq
 ·have A:=yvb (f:=p.rules[i].name) (t:=t) o;have O:=yvj (f:=p.rules[i].name) (t:=t) (by omega) p;rw[Qbx hq,Ev.zz2 (by rfl)]
  have z:t∈yz6 (zi5 p.rules[i].name t p):=by
   have:=yuj (f:=p.rules[i].name) (t:=t) g;rwa[rn,Qbx rfl]at this
  have w:p.rules[i].name∉yz6 (zi5 p.rules[i].name t p):=λq=>by
   rw[y3j]at q;have⟨s,M,d⟩:=Qbg.1 q;unfold rn at d;split at d
   ·exact a (d▸g)
   ·rename_i y;exact y d
  have F:=y2g (p:=zi5 p.rules[i].name t p) (l:=[E4 t p.rules[i].name]) A (λe he=>by rw[Qbc.1 he];exact z05r) (λe he=>by rw[Qbc.1 he,yb2];omega) (by
   simp only[List.map_cons,List.map_nil,List.sum_cons,List.sum_nil,yb2];omega)
  rw[ypj hq z w,yyb S a u,Qbx j]at F;rw[Ev.kz0 F,Ev.kz1 (by rfl),Ev.kz0 (y2c (p:=p) (by omega)),Ev.kz1 (by rfl),Ev.kz0 (zy7 A (by omega)),hq,zmx,Ev.kz1 (by rfl)];exact B 0 (.inl rfl) a
 ·rw[hq,Qby (by decide),Ev.kz1 (by rfl)];exact B 8 (.inr rfl) a
end Go.Proofs.YthlmhmebajjkbaaGreatDoor
