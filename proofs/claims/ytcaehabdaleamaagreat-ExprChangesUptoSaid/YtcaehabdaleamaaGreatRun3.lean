/-
  EXPRESSIONS: VALUES.
-/
import Derived.Test.YtcaehabdaleamaaGreatRun2
import Derived.Test.YtcaehabdaleamaaGreatLib9
namespace Go.Proofs.YtcaehabdaleamaaGreat
open Go Go.Ab
set_option linter.unusedVariables false
set_option linter.unusedSimpArgs false
def look(env:yzb)(nm:B8):Option zz0:=(env.find? λb=>b.name==nm).map (·.value)
mutual
noncomputable def eev(env:yzb):zz1->Int×zz0
 |⟨op,v,nm,l⟩ =>
  if op=1 then (0,v)
  else if op=2 then (match look env nm with|some x=>(0,x)|none=>(6,v0))
  else if op=12 then zad env l
  else if (z5i env l).1=0 then z14 op (z5i env l).2 else ((z5i env l).1,v0)
noncomputable def zad(env:yzb):yz3->Int×zz0
 |[]=>(0,v0)
 |c::l=>if (eev env c).1≠0 then ((eev env c).1,v0)else if (eev env c).2.kind≠2 then (20,v0)else if (eev env c).2.truth then z16 env l 0 else z16 env l 1
noncomputable def z16(env:yzb):yz3->Nat->Int×zz0
 |[],_=>(0,v0)
 |x::_,0=>eev env x
 |_::l,k+1=>z16 env l k
noncomputable def z5i(env:yzb):yz3->Int×kz2
 |[]=>(0,[])
 |x::l=>if (eev env x).1≠0 then ((eev env x).1,[])else ((z5i env l).1,(eev env x).2::(z5i env l).2)
end
theorem zn7(b:yzt)(l:yzb)(nm:B8):look (b::l) nm=if b.name=nm then some b.value else look l nm:=by
 unfold look;by_cases h:b.name=nm;rw[List.find?_cons_of_pos (by simpa using h),Qbo h];rfl;rw[List.find?_cons_of_neg (by simpa using h),Qbp h]
theorem zfn(env:yzb)(e:zz1):eev env e =
 if e.op=1 then ((0:Int),e.value)
 else if e.op=2 then (match look env e.name with|some x=>(0,x)|none=>(6,v0))
 else if e.op=12 then zad env e.args
 else if (z5i env e.args).1=0 then z14 e.op (z5i env e.args).2 else ((z5i env e.args).1,v0):=by cases e;rw[eev]
theorem y88(env:yzb):∀(l:yz3) (k:Nat) (h:k<l.length),z16 env l k=eev env l[k]
 |x::l,0,h=>by rw[z16];rfl
 |x::l,k+1,h=>by rw[z16,y88 env l k (by simpa using h)];rfl
theorem z2z{e:zz1}(h:z0f e=true):∀x∈e.args,z0f x=true:=by
 rw[zcn]at h;simp only[Qag,zjo,Qas]at h;exact h.2.2
theorem z8y{e:zz1}(h:z0f e=true):zh1 e.op e.args.length=true:=by
 rw[zcn]at h;simp only[Qag]at h;exact h.1
theorem zhp{e:zz1}(h:z0f e=true):zpl e.op e.value e.name=true:=by
 rw[zcn]at h;simp only[Qag]at h;exact h.2.1
theorem z8v(l:yz3):l.length<=zz7 l:=by
 induction l with
 |nil=>simp
 |cons x l ih=>have:=yzj x;simp[zz7];omega
theorem zg9{l:yz3}{x:zz1}(h:x∈l):yzc x<=zz7 l:=by
 induction l with
 |nil=>cases h
 |cons y l ih=>
  rcases Qbf.1 h with rfl|h
  simp[zz7];have:=ih h;simp[zz7];omega
theorem zgb{op:Int}{k:Nat}(h:zh1 op k=true):((op=1∨op=2)∧k=0)∨(kzl op=2∧k=2)∨(kzl op=1∧k=1)∨(op=12∧k=3)∨op=18:=by
 unfold zh1 at h;simp only[Qag,bne_iff_ne,ne_eq,Bool.or_eq_true,Qaq,Qbg]at h;unfold kzl at h ⊢;by_cases h1:op=1∨op=2;rw[Qbo h1]at h;exact .inl ⟨h1,by omega⟩;rw[Qbp h1]at h ⊢;by_cases h2:(3<=op∧op<=10)∨op=13∨op=14∨op=17;rw[Qbo h2]at h ⊢;exact .inr (.inl ⟨rfl,by omega⟩);rw[Qbp h2]at h ⊢;by_cases h3:op=11∨op=15∨op=16
 rw[Qbo h3]at h ⊢;exact .inr (.inr (.inl ⟨rfl,by omega⟩));rw[Qbp h3]at h ⊢;by_cases h4:op=12;rw[Qbo h4]at h;exact .inr (.inr (.inr (.inl ⟨h4,by omega⟩)));rw[Qbp h4]at h;by_cases h5:op=18;exact .inr (.inr (.inr (.inr h5)));rw[Qbp h5]at h;omega
def zxt(env:yzb):Prop:=(∀b∈env,yz5 b.value=0)∧env.length<=8388608
theorem look_ok{env:yzb}(h:zxt env){nm:B8}{v:zz0}(hv:look env nm=some v):yz5 v=0:=by
 unfold look at hv;rw[Qaf]at hv;obtain⟨b,hb,rfl⟩:=hv;exact h.1 b (List.mem_of_find?_eq_some hb)
theorem yev(env:yzb):∀l:yz3,(z5i env l).1=0->(z5i env l).2.length=l.length
 |[],_=>by rw[z5i];rfl
 |x::l,h=>by
  rw[z5i]at h ⊢;split at h;rename_i hz;exact(hz h).elim;rename_i hz;rw[Qbp hz];simp[yev env l h]
theorem ycc{env:yzb}(henv:zxt env):∀e:zz1,z0f e=true->(eev env e).1=0->yz5 (eev env e).2=0:=z90 λe ih hf hz=>by
 have hfa:=z2z hf
 have hL:∀l:yz3,(∀x∈l,x∈e.args)->(z5i env l).1=0->∀v∈(z5i env l).2,yz5 v=0:=λl=>by
  induction l with
  |nil=>intro _ _ v hv;rw[z5i]at hv;cases hv
  |cons x l ihl=>
   intro hm h v hv;rw[z5i]at h hv;split at h;rename_i hz;exact(hz h).elim;rename_i hx;rw[Qbp hx]at hv;have hx:(eev env x).1=0:=by simpa using hx
   rcases Qbf.1 hv with rfl|hv
   exact ih x (hm x Qak) (hfa x (hm x Qak)) hx;exact ihl (λy hy=>hm y (Qai _ hy)) h v hv
 rw[zfn]at hz ⊢;by_cases h1:e.op=1;rw[Qbo h1];have:=zhp hf;unfold zpl at this;rw[Qbo h1]at this;simp only[Qag,Qbg]at this;exact this.1;rw[Qbp h1]at hz ⊢;by_cases h2:e.op=2;rw[Qbo h2]at hz ⊢
 cases hl:look env e.name with
 |none=>rw[hl]at hz;cases hz
 |some x=>exact look_ok henv hl
 rw[Qbp h2]at hz ⊢;have har:=zgb (z8y hf);by_cases h12:e.op=12;rw[Qbo h12]at hz ⊢
 have hlen:e.args.length=3:=by
  rcases har with ⟨h,_⟩|⟨h,_⟩|⟨h,_⟩|⟨_,h⟩|h
  omega;rw[h12]at h;cases h;rw[h12]at h;cases h;exact h;omega
 match hargs:e.args,hlen with
 |[c,a,b],_=>
  rw[hargs,zad]at hz;rw[zad];split at hz;rename_i h;exact(h hz).elim;rename_i hc;rw[Qbp hc];split at hz;cases hz;rename_i hk;rw[Qbp hk];split at hz;rename_i ht;rw[Qbo ht];rw[z16]at hz ⊢;have ha:a∈e.args:=by rw[hargs];simp
  exact ih a ha (hfa a ha) hz;rename_i ht;rw[Qbp ht];rw[z16,z16]at hz ⊢;have hb:b∈e.args:=by rw[hargs];simp
  exact ih b hb (hfa b hb) hz
 rw[Qbp h12]at hz ⊢;split at hz;rename_i hl;rw[Qbo hl];have hlen:=yev env e.args hl;refine yoa (hL e.args (λ_ h=>h) hl) ?_ hz
 rcases har with ⟨h,_⟩|⟨h,h'⟩|⟨h,h'⟩|⟨h,_⟩|h
 omega;exact .inl ⟨by rw[h,hlen,h'];rfl,.inr (by omega)⟩;exact .inl ⟨by rw[h,hlen,h'];rfl,.inl (by omega)⟩;omega;exact .inr h;rename_i hl;exact(hl hz).elim
theorem ypx{env:yzb}(hb:env.length<=8388608){a3 a4 a5 a6:Int}{a7:Bool}{a8:B8}{a9:kz2}{nm:B8}{a11:yz3} :
  ∃i:Int,Ev (λn=>kz9 n env a3 a4 a5 a6 a7 a8 a9 nm a11) (i,a3,a4,a5,a6,a7,a8,a9,nm,a11)∧((i<0∧look env nm=none)∨∃j:Nat,∃hj:j<env.length,i=j∧look env nm=some env[j].value):=by
 have loop:∀k,k<=env.length->∃i:Int,Ev (λn=>kz6 n (k:Int) env (env.length:Int) a3 a4 a5 a6 a7 a8 a9 nm a11) (i,a3,a4,a5,a6,a7,a8,a9,nm,a11)∧((i<0∧look (env.drop k) nm=none)∨∃j:Nat,∃hj:j<env.length,i=j∧look (env.drop k) nm=some env[j].value) :=
  down ⟨-1,by rw[kzq,Ev.kz1 (by simp),Ev.yz0],.inl ⟨by decide,by simp[look]⟩⟩ λk hk ih=>by
   obtain⟨i,h1,h2⟩:=ih;have h1':Ev (λn=>z71 n env[k] a3 a4 a5 a6 a7 a8 a9 nm a11) ((env[k].name==nm),a3,a4,a5,a6,a7,a8,a9,nm,a11):=by rw[y08,Ev.yz0]
   by_cases he:env[k].name=nm;refine⟨k,?_,.inr ⟨k,hk,rfl,?_⟩⟩;rw[kzq,Ev.zz2 (by simpa using hk),Ev.zz3 (zzb hk),yzt.yz2,Ev.kz0 h1',Ev.zz2 (by simpa using he),Ev.yz0];rw[<-Qah (h:=hk),zn7,Qbo he];refine⟨i,?_,?_⟩;rw[kzq,Ev.zz2 (by simpa using hk),Ev.zz3 (zzb hk),yzt.yz2,Ev.kz0 h1',Ev.kz1 (by simpa using he),wrk (by omega)];exact h1
   have:look (env.drop k) nm=look (env.drop (k+1)) nm:=by rw[<-Qah (h:=hk),zn7,Qbp he]
   rw[this];exact h2
 obtain⟨i,h1,h2⟩:=loop 0 (Qbm _);exact⟨i,by rw[z9f];exact h1,h2⟩
theorem y7g{env:yzb}(henv:zxt env):∀e:zz1,z0f e=true->yzc e<=100->Ev (λn=>z00 n e env) (zdu (eev env e)):=z90 λe ih hf hp=>by
 have hfa:=z2z hf;have hok:=λx (hx:x∈e.args)=>ycc henv x (hfa x hx)
 rw[yzj]at hp;have hpl:=z8v e.args;have ihx:∀x∈e.args,Ev (λn=>z00 n x env) (zdu (eev env x)):=λx hx=>ih x hx (hfa x hx) (by have:=zg9 hx;omega)
 have har:=zgb (z8y hf);rw[ydi,zfn];by_cases h1:e.op=1;rw[Ev.zz2 (by simpa using h1),Qbo h1,Ev.yz0,zz0.yz2];rfl;rw[Ev.kz1 (by simpa using h1),Qbp h1];by_cases h2:e.op=2;rw[Ev.zz2 (by simpa using h2),Qbo h2];obtain⟨i,hi1,hi2⟩:=ypx henv.2 (nm:=e.name) (a3:=e.op) (a4:=e.value.kind) (a5:=e.value.num.num) (a6:=e.value.num.den) (a7:=e.value.truth) (a8:=e.value.str) (a9:=e.value.list) (a11:=e.args)
 rw[Ev.kz0 hi1]
 rcases hi2 with ⟨hneg,hl⟩|⟨j,hj,rfl,hl⟩
 rw[Ev.zz2 (by simpa using hneg),Ev.kz0 (zax (by decide)),Ev.z0k,Ev.yz0,hl];rfl;rw[Ev.kz1 (by simp),zvu,Ev.zz3 (zzb hj),Ev.yz0,zz0.yz2,hl];rfl;rw[Ev.kz1 (by simpa using h2),Qbp h2];by_cases h12:e.op=12
 ·rw[Ev.zz2 (by simpa using h12),Qbo h12]
  have hlen:e.args.length=3:=by
   rcases har with ⟨h,_⟩|⟨h,_⟩|⟨h,_⟩|⟨_,h⟩|h
   omega;rw[h12]at h;cases h;rw[h12]at h;cases h;exact h;omega
  match hargs:e.args,hlen with
  |[c,a,b],_=>
   have hc:=ihx c (by rw[hargs];simp);have ha:=ihx a (by rw[hargs];simp);have hb:=ihx b (by rw[hargs];simp);rw[Ev.zz3 (show ix [c,a,b] 0=some c from rfl),zz1.yz2,Ev.kz0 hc,zad];by_cases hz:(eev env c).1=0
   case neg=>rw[z2h hz,Ev.z0k,Ev.yz0,Qbo hz,z2h (by exact hz)]
   rw[z98 hz,Ev.z4k,zz0.yz2,Qbp (by simpa using hz)];have hk:=zez (k:=2) (l:=[(eev env c).2]) (by simp);by_cases hk2:(eev env c).2.kind=2
   case neg=>
    rw[Qbp (by simpa using hk2)]at hk;rw[Ev.kz0 hk,Ev.z0k,Ev.yz0,Qbo hk2];rfl
   rw[Qbo (by simpa using hk2)]at hk;rw[Ev.kz0 hk,Ev.z4k,Qbp (by simpa using hk2)]
   have fin:∀x:zz1,Ev (λn=>z00 n x env) (zdu (eev env x))->Ev (λn=>(z00 n x env).bind λy10=>z8n y10 (λr11=>some (Res.ok r11.re)) (λe12=>some (Res.pan (e12.1,())))) (zdu (eev env x)):=λx hx=>by
    rw[Ev.kz0 hx];by_cases hz:(eev env x).1=0;rw[z98 hz,Ev.z4k,Ev.yz0,zz0.yz2];rw[z2h hz,Ev.z0k,Ev.yz0]
   cases ht:(eev env c).2.truth;rw[Ev.kz1 (by rfl),Ev.zz3 (show ix [c,a,b] 2=some b from rfl),zz1.yz2,Qbp (by simp),z16,z16];exact fin b hb;rw[Ev.zz2 (by rfl),Ev.zz3 (show ix [c,a,b] 1=some a from rfl),zz1.yz2,Qbo rfl,z16];exact fin a ha
 rw[Ev.kz1 (by simpa using h12),Qbp h12]
 have loop:∀k,k<=e.args.length->∀acc:kz2,acc.length=k->(∀v∈acc,yz5 v=0)->∀a5 a6 a7 a8 a9 a11,Ev (λn=>z41 n (k:Int) env e.args (e.args.length:Int) acc a5 a6 a7 a8 a9 e a11) (zdu (if (z5i env (e.args.drop k)).1=0 then z14 e.op (acc++(z5i env (e.args.drop k)).2)else ((z5i env (e.args.drop k)).1,v0))) :=
  down (λacc hacc hval a5 a6 a7 a8 a9 a11=>by
   have happ:Ev (λn=>z3o n e.op acc) (zdu (z14 e.op acc)):=by
    rcases har with ⟨h,_⟩|⟨h,h'⟩|⟨h,h'⟩|⟨h,_⟩|h
    omega
    match acc,(show acc.length=2 by omega)with
    |[x,y],_=>exact ygd h (hval x (by simp)) (hval y (by simp))
    match acc,(show acc.length=1 by omega)with
    |[x],_=>exact yfe h (hval x (by simp))
    omega;rw[h];exact yg9 (by omega) hval
   rw[zkn,Ev.kz1 (by simp),Ev.kz0 happ,List.drop_length,z5i];simp only[if_true,List.append_nil];by_cases hz:(z14 e.op acc).1=0;rw[z98 hz,Ev.z4k,Ev.yz0,zz0.yz2]
   rw[z2h hz,Ev.z0k,Ev.yz0]) λk hk ihk acc hacc hval a5 a6 a7 a8 a9 a11=>by
   have hx:=Qad hk;rw[<-Qah (h:=hk),z5i];rw[zkn,Ev.zz2 (by simpa using hk),Ev.zz3 (zzb hk),zz1.yz2,Ev.kz0 (ihx _ hx)];by_cases hz:(eev env e.args[k]).1=0;rw[z98 hz,Ev.z4k,zz0.yz2,Ev.zz3 (z9v (by simp;omega)),wrk (by omega),zz1.yz2,Qbp (c:=(eev env e.args[k]).1≠0) (by simpa using hz)]
   have:=ihk (acc++[(eev env e.args[k]).2]) (by simp[hacc]) (λv hv=>by
    rcases List.mem_append.1 hv with hv|hv
    exact hval v hv
    rw[List.mem_singleton.1 hv];exact hok _ hx hz) a5 a6 a7 a8 a9 a11
   refine this.to ?_;simp only[Qay,List.singleton_append];rw[z2h hz,Ev.z0k,Ev.yz0,Qbo (c:=(eev env e.args[k]).1≠0) hz];simp only;rw[Qbp hz,z2h (by exact hz)]
 have:=loop 0 (Qbm _) [] rfl (by simp) 0 0 0 false [] [];rw[zz1.yz2];simpa using this
theorem ygh{env:yzb}(hb:env.length<=8388608){nm:B8}:Ev (λn=>z6x n env nm) (match look env nm with|some x=>(0,x)|none=>(6,v0)):=by
 have loop:∀k,k<=env.length->∀z,Ev (λn=>z1a n (k:Int) env nm z) (match look (env.drop k) nm with|some x=>(0,x)|none=>(6,v0)) :=
  down (λz=>by rw[zga,Ev.kz1 (by simp),Ev.yz0];simp[look,v0]) λk hk ih z=>by
   rw[<-Qah (h:=hk)];rw[zga,Ev.zz2 (by simpa using hk),Ev.zz3 (zzb hk)];by_cases he:env[k].name=nm;rw[Ev.zz2 (by simpa using he),Ev.zz3 (zzb hk),Ev.yz0,zz0.yz2,zn7,Qbo he];rw[Ev.kz1 (by simpa using he),wrk (by omega)];refine(ih _).to ?_;rw[zn7,Qbp he]
 rw[zy1];exact loop 0 (Qbm _) _
theorem yi7{env:yzb}(henv:zxt env):∀e:zz1,z0f e=true->yzc e<=100->Ev (λn=>kzt n e env) (eev env e):=z90 λe ih hf hp=>by
 have hfa:=z2z hf;have hok:=λx (hx:x∈e.args)=>ycc henv x (hfa x hx)
 rw[yzj]at hp;have hpl:=z8v e.args;have ihx:∀x∈e.args,Ev (λn=>kzt n x env) (eev env x):=λx hx=>ih x hx (hfa x hx) (by have:=zg9 hx;omega)
 have har:=zgb (z8y hf);rw[y34,zfn];by_cases h1:e.op=1;rw[Ev.zz2 (by simpa using h1),Qbo h1,Ev.yz0,zz0.yz2];rw[Ev.kz1 (by simpa using h1),Qbp h1];by_cases h2:e.op=2;rw[Ev.zz2 (by simpa using h2),Qbo h2,Ev.kz0 (ygh henv.2),Ev.yz0,zz0.yz2];rw[Ev.kz1 (by simpa using h2),Qbp h2];by_cases h12:e.op=12
 ·rw[Ev.zz2 (by simpa using h12),Qbo h12]
  have hlen:e.args.length=3:=by
   rcases har with ⟨h,_⟩|⟨h,_⟩|⟨h,_⟩|⟨_,h⟩|h
   omega;rw[h12]at h;cases h;rw[h12]at h;cases h;exact h;omega
  match hargs:e.args,hlen with
  |[c,a,b],_=>
   have hc:=ihx c (by rw[hargs];simp);have ha:=ihx a (by rw[hargs];simp);have hb:=ihx b (by rw[hargs];simp);rw[Ev.zz3 (show ix [c,a,b] 0=some c from rfl),zz1.yz2,Ev.kz0 hc,zad];by_cases hz:(eev env c).1=0
   case neg=>rw[Ev.zz2 (by simpa using hz),Ev.yz0,Qbo hz];rfl
   rw[Ev.kz1 (by simpa using hz),Qbp (by simpa using hz)];by_cases hk2:(eev env c).2.kind=2
   case neg=>rw[Ev.zz2 (by simpa using hk2),Ev.yz0,Qbo hk2];rfl
   rw[Ev.kz1 (by simpa using hk2),Qbp (by simpa using hk2)];cases ht:(eev env c).2.truth;rw[Ev.kz1 (by rfl),Ev.zz3 (show ix [c,a,b] 2=some b from rfl),zz1.yz2,Qbp (by simp),z16,z16,Ev.kz0 hb,Ev.yz0,zz0.yz2];rw[Ev.zz2 (by rfl),Ev.zz3 (show ix [c,a,b] 1=some a from rfl),zz1.yz2,Qbo rfl,z16,Ev.kz0 ha,Ev.yz0,zz0.yz2]
 rw[Ev.kz1 (by simpa using h12),Qbp h12]
 have loop:∀k,k<=e.args.length->∀acc:kz2,acc.length=k->(∀v∈acc,yz5 v=0)->∀a2 a3 a4 a5 a6 a9,Ev (λn=>z1n n (k:Int) env a2 a3 a4 a5 a6 acc e a9) (if (z5i env (e.args.drop k)).1=0 then z14 e.op (acc++(z5i env (e.args.drop k)).2)else ((z5i env (e.args.drop k)).1,v0)) :=
  down (λacc hacc hval a2 a3 a4 a5 a6 a9=>by
   rw[zg2,Ev.kz1 (by simp),List.drop_length,z5i];simp only[if_true,List.append_nil]
   rcases har with ⟨h,_⟩|⟨h,h'⟩|⟨h,h'⟩|⟨h,_⟩|h
   omega;have h18:e.op≠18:=λh18=>by rw[h18]at h;cases h
   rw[Ev.kz1 (by simpa using h18)]
   match acc,(show acc.length=2 by omega)with
   |[x,y],_=>
    rw[Ev.kz1 (by rfl),Ev.zz3 (show ix [x,y] 0=some x from rfl),Ev.zz3 (show ix [x,y] 1=some y from rfl),zz0.yz2,zz0.yz2,Ev.kz0 (yn3 h (hval x (by simp)) (hval y (by simp))),Ev.yz0,zz0.yz2]
   have h18:e.op≠18:=λh18=>by rw[h18]at h;cases h
   rw[Ev.kz1 (by simpa using h18)]
   match acc,(show acc.length=1 by omega)with
   |[x],_=>
    rw[Ev.zz2 (by rfl),Ev.zz3 (show ix [x] 0=some x from rfl),zz0.yz2,Ev.kz0 (yml h (hval x (by simp))),Ev.yz0,zz0.yz2]
   omega;obtain⟨w,s⟩:=yhm hval (by omega);have hc:Ev (λn=>yze n (zz0.mk 4 (yz1.mk 0 0) false [] acc)) (yz5 (zav acc)):=z7j s
   have ee:z14 e.op acc=if yz5 (zav acc)≠0 then (yz5 (zav acc),v0)else (0,zav acc):=by rw[h];unfold z14;simp
   rw[Ev.zz2 (by simpa using h),Ev.kz0 hc,ee];by_cases hz:yz5 (zav acc)=0;rw[Ev.kz1 (by simpa using hz),Ev.yz0,Qbp (by simpa using hz)];rfl
   rw[Ev.zz2 (by simpa using hz),Ev.kz0 hc,Ev.yz0,Qbo hz];rfl) λk hk ihk acc hacc hval a2 a3 a4 a5 a6 a9=>by
   have hx:=Qad hk;rw[<-Qah (h:=hk),z5i];rw[zg2,Ev.zz2 (by simpa using hk),Ev.zz3 (zzb hk),zz1.yz2,Ev.kz0 (ihx _ hx)];by_cases hz:(eev env e.args[k]).1=0;rw[Ev.kz1 (by simpa using hz),zz0.yz2,Ev.zz3 (z9v (by simp;omega)),wrk (by omega),zz1.yz2,Qbp (c:=(eev env e.args[k]).1≠0) (by simpa using hz)]
   have:=ihk (acc++[(eev env e.args[k]).2]) (by simp[hacc]) (λv hv=>by
    rcases List.mem_append.1 hv with hv|hv
    exact hval v hv
    rw[List.mem_singleton.1 hv];exact hok _ hx hz) a2 a3 a4 a5 a6 a9
   refine this.to ?_;simp only[Qay,List.singleton_append];rw[Ev.zz2 (by simpa using hz),Ev.yz0,Qbo (c:=(eev env e.args[k]).1≠0) hz];simp only;rw[Qbp hz];rfl
 have:=loop 0 (Qbm _) [] rfl (by simp) 0 0 0 false [] [];rw[zz1.yz2];simpa using this
theorem yj4{e:zz1}{env:yzb}(henv:zxt env)(hf:z0f e=true)(hp:yzc e<=100):Ev (λn=>z3j n e env) ((eev env e).2,(eev env e).1)∨((eev env e).1≠0∧Ev (λn=>z3j n e env) (v0,(eev env e).1)):=by
 by_cases hz:(eev env e).1=0;left;have hs:=(vok (ycc henv e hf hz)).2;rw[zo0,zz1.yz2,Ev.kz0 (y7g henv e hf hp),z98 hz,Ev.z4k,zz0.yz2,Ev.kz0 (zou (by omega)),zz0.yz2];simp only[zbu,Option.bind_some];rw[Ev.yz0,hz];right;refine⟨hz,?_⟩;rw[zo0,zz1.yz2,Ev.kz0 (y7g henv e hf hp),z2h hz,Ev.z0k];simp only[z8j,pIf,Bool.not_false,Option.bind_some];rw[Ev.yz0];rfl
theorem yij{op:Int}{l:kz2}(h:(z14 op l).1≠0):(z14 op l).2=v0:=by
 have hadd:∀a b,(zqe a b).1≠0->(zqe a b).2=v0:=λa b h=>by
  unfold zqe at h ⊢
  repeat' split
  all_goals first
   |rfl
   |(exfalso;simp_all;done)
 have hat:∀v i,(vat v i).1≠0->(vat v i).2=v0:=λv i h=>by
  unfold vat at h ⊢
  repeat' split
  all_goals first
   |rfl
   |(exfalso;simp_all;done)
 have hnum:∀r,(zeg r).1≠0->(zeg r).2=v0:=λr h=>by
  unfold zeg at h ⊢;split;rename_i hz;rw[Qbo hz]at h;exact(h rfl).elim;rfl
 have num:∀{f:yz1->yz1->Int×Int}{c:Bool}{a b:yz1},(if c=true then zeg (z6n f a b)else (20,v0)).1≠0->(if c=true then zeg (z6n f a b)else (20,v0)).2=v0:=λ{f c a b} h=>by
  cases c;rfl;rw[Qbo rfl]at h ⊢;exact hnum _ h
 have tr:∀{c:Bool}{v:zz0},(if c=true then ((0:Int),v)else (20,v0)).1≠0->(if c=true then ((0:Int),v)else (20,v0)).2=v0:=λ{c v} h=>by
  cases c;rfl;exact(h rfl).elim
 unfold z14 at h ⊢;by_cases h3:op=3;rw[Qbo h3]at h ⊢;exact hadd _ _ h;rw[Qbp h3]at h ⊢;by_cases h4:op=4;rw[Qbo h4]at h ⊢;exact num h;rw[Qbp h4]at h ⊢;by_cases h5:op=5;rw[Qbo h5]at h ⊢;exact num h;rw[Qbp h5]at h ⊢;by_cases h6:op=6;rw[Qbo h6]at h ⊢;exact num h;rw[Qbp h6]at h ⊢;by_cases h8:op=8;rw[Qbo h8]at h;exact(h rfl).elim;rw[Qbp h8]at h ⊢;by_cases h7:op=7∨op=13∨op=14
 rw[Qbo h7]at h ⊢;split at h;rename_i hz;rw[Qbo hz];split at h;exact(h rfl).elim;split at h <;> exact(h rfl).elim
 rw[Qbp h7]at h ⊢;by_cases h9:op=9;rw[Qbo h9]at h ⊢;exact tr h;rw[Qbp h9]at h ⊢;by_cases h10:op=10;rw[Qbo h10]at h ⊢;exact tr h;rw[Qbp h10]at h ⊢;by_cases h11:op=11;rw[Qbo h11]at h ⊢;exact tr h;rw[Qbp h11]at h ⊢;by_cases h15:op=15;rw[Qbo h15]at h ⊢;exact tr h;rw[Qbp h15]at h ⊢;by_cases h16:op=16;rw[Qbo h16]at h ⊢;split at h;rename_i hz;rw[Qbo hz];exact(h rfl).elim
 rw[Qbp h16]at h ⊢;by_cases h17:op=17;rw[Qbo h17]at h ⊢;split at h;rename_i hz;rw[Qbo hz];rename_i hz;rw[Qbp hz];split at h;rename_i hk;rw[Qbo hk];rename_i hk;rw[Qbp hk];split at h;rename_i hd;rw[Qbo hd];rename_i hd;rw[Qbp hd];exact hat _ _ h;rw[Qbp h17]at h ⊢;split at h;rename_i hz;rw[Qbo hz];exact(h rfl).elim
theorem ylk{env:yzb}:∀e:zz1,(eev env e).1≠0->(eev env e).2=v0:=z90 λe ih h=>by
 rw[zfn]at h ⊢;split at h;exact(h rfl).elim;rename_i h1;rw[Qbp h1];split at h;rename_i h2;rw[Qbo h2]
 cases hl:look env e.name with
 |none=>rfl
 |some x=>rw[hl]at h;exact(h rfl).elim
 rename_i h2;rw[Qbp h2];split at h;rename_i h12;rw[Qbo h12]
 cases hargs:e.args with
 |nil=>rw[zad]
 |cons c l=>
  rw[hargs,zad]at h;rw[zad]
  have hat:∀k,(z16 env l k).1≠0->(z16 env l k).2=v0:=λk hk=>by
   by_cases hlt:k<l.length;rw[y88 env l k hlt]at hk ⊢;exact ih _ (by rw[hargs];exact Qai _ (Qad hlt)) hk
   have:∀(l:yz3) (k:Nat),¬k<l.length->z16 env l k=(0,v0):=λl=>by
    induction l with
    |nil=>intro k _;rw[z16]
    |cons x l ihl=>
     intro k hk
     cases k with
     |zero=>simp at hk
     |succ k=>rw[z16];exact ihl k (by simpa using hk)
   rw[this l k hlt]
  split at h;rename_i hc;rw[Qbo hc];rename_i hc;rw[Qbp hc];split at h;rename_i hk;rw[Qbo hk];rename_i hk;rw[Qbp hk];split at h;rename_i ht;rw[Qbo ht];exact hat _ h;rename_i ht;rw[Qbp ht];exact hat _ h
 rename_i h12;rw[Qbp h12];split at h;rename_i hl;rw[Qbo hl];exact yij h;rename_i hl;rw[Qbp hl]
theorem zum{e:zz1}{env:yzb}(henv:zxt env)(hf:z0f e=true)(hp:yzc e<=100):Ev (λn=>z3j n e env) ((eev env e).2,(eev env e).1):=by
 rcases yj4 henv hf hp with h|⟨h1,h2⟩
 exact h;rw[ylk e h1];exact h2
mutual
def z1p:zz1->List B8->List B8
 |⟨op,_,nm,l⟩,acc=>z1c l (if op=2∧nm∉acc then acc++[nm]else acc)
def z1c:yz3->List B8->List B8
 |[],acc=>acc
 |x::l,acc=>z1c l (z1p x acc)
end
theorem zcu(e:zz1)(acc:List B8):z1p e acc=z1c e.args (if e.op=2∧e.name∉acc then acc++[e.name]else acc):=by cases e;rw[z1p]
mutual
def zhl:zz1->List B8->List B8
 |⟨op,_,nm,l⟩,acc=>z7u l (if op=2 then ins acc nm else acc)
def z7u:yz3->List B8->List B8
 |[],acc=>acc
 |x::l,acc=>z7u l (zhl x acc)
end
theorem y2s(e:zz1)(acc:List B8):zhl e acc=z7u e.args (if e.op=2 then ins acc e.name else acc):=by cases e;rw[zhl]
theorem yhz:∀(e:zz1) (a b:List B8),a.Nodup->zdz b->(∀x,x∈a↔x∈b)->(z1p e a).Nodup∧zdz (zhl e b)∧(∀x,x∈z1p e a↔x∈zhl e b)∧(z1p e a).length<=a.length+yzc e∧(zhl e b).length<=b.length+yzc e:=z90 λe ih a b ha hb hab=>by
 have hL:∀(l:yz3),(∀x∈l,x∈e.args)->∀a b:List B8,a.Nodup->zdz b->(∀x,x∈a↔x∈b)->(z1c l a).Nodup∧zdz (z7u l b)∧(∀x,x∈z1c l a↔x∈z7u l b)∧(z1c l a).length<=a.length+zz7 l∧(z7u l b).length<=b.length+zz7 l:=λl=>by
  induction l with
  |nil=>intro _ a b ha hb hab;simp only[z1c,z7u,zz7];exact⟨ha,hb,hab,Qbn _,Qbn _⟩
  |cons x l ihl=>
   intro hm a b ha hb hab;obtain⟨h1,h2,h3,h4,h5⟩:=ih x (hm x Qak) a b ha hb hab;obtain⟨k1,k2,k3,k4,k5⟩:=ihl (λy hy=>hm y (Qai _ hy)) _ _ h1 h2 h3;simp only[z1c,z7u,zz7];exact⟨k1,k2,k3,by omega,by omega⟩
 rw[zcu,y2s,yzj];by_cases h2:e.op=2;rw[Qbo h2];by_cases hn:e.name∈a;rw[Qbp (by simp[hn])]
 obtain⟨k1,k2,k3,k4,k5⟩:=hL e.args (λ_ h=>h) a (ins b e.name) ha (zph hb) (λx=>by
  rw[zxe,<-hab]
  exact⟨.inl,λh=>h.elim id λh=>by rw[h];exact hn⟩)
 have:=zrm e.name b;exact⟨k1,k2,k3,by omega,by omega⟩;rw[Qbo ⟨h2,hn⟩]
 obtain⟨k1,k2,k3,k4,k5⟩:=hL e.args (λ_ h=>h) (a++[e.name]) (ins b e.name) (by
  rw[List.nodup_append];refine⟨ha,by simp,λx hx y hy =>?_⟩
  rw[List.mem_singleton.1 hy];intro h;subst h;exact hn hx) (zph hb) (λx=>by
  rw[zxe,<-hab,List.mem_append,List.mem_singleton])
 have:=zrm e.name b;rw[List.length_append,List.length_singleton]at k4;exact⟨k1,k2,k3,by omega,by omega⟩;rw[Qbp h2,Qbp (λh=>h2 h.1)];obtain⟨k1,k2,k3,k4,k5⟩:=hL e.args (λ_ h=>h) a b ha hb hab;exact⟨k1,k2,k3,by omega,by omega⟩
theorem yf0(e:zz1):ylo (z1p e [])=zhl e []:=by
 obtain⟨h1,h2,h3,_⟩:=yhz e [] [] (by simp) (by simp[zdz]) (by simp);exact zof (yd0 h1) h2 λx=>by rw[(zpn _).mem_iff,h3]
theorem yj3:∀(e:zz1) (a:List B8),(z1p e a).length<=a.length+yzc e:=z90 λe ih a=>by
 have hL:∀(l:yz3),(∀x∈l,x∈e.args)->∀a:List B8,(z1c l a).length<=a.length+zz7 l:=λl=>by
  induction l with
  |nil=>intro _ a;simp[z1c,zz7]
  |cons x l ihl=>
   intro hm a;have h1:=ih x (hm x Qak) a;have h2:=ihl (λy hy=>hm y (Qai _ hy)) (z1p x a);simp only[z1c,zz7];omega
 rw[zcu,yzj];have:=hL e.args (λ_ h=>h) (if e.op=2∧e.name∉a then a++[e.name]else a);have h2:(if e.op=2∧e.name∉a then a++[e.name]else a).length<=a.length+1:=by split <;> simp
 omega
theorem yn0:∀(e:zz1) (a:List B8),(zhl e a).length<=a.length+yzc e:=z90 λe ih a=>by
 have hL:∀(l:yz3),(∀x∈l,x∈e.args)->∀a:List B8,(z7u l a).length<=a.length+zz7 l:=λl=>by
  induction l with
  |nil=>intro _ a;simp[z7u,zz7]
  |cons x l ihl=>
   intro hm a;have h1:=ih x (hm x Qak) a;have h2:=ihl (λy hy=>hm y (Qai _ hy)) (zhl x a);simp only[z7u,zz7];omega
 rw[y2s,yzj];have hi:=zrm e.name a;have:=hL e.args (λ_ h=>h) (if e.op=2 then ins a e.name else a);split at this;rename_i h;rw[Qbo h];omega;rename_i h;rw[Qbp h];omega
theorem yn8{l:List B8}(hl:l.length<=8388608){s:B8}:∃i:Int,Ev (λn=>yzf n s l) (i,l)∧decide (i>=0)=decide (s∈l):=by
 have loop:∀k,k<=l.length->∃i:Int,Ev (λn=>zza n (k:Int) s (l.length:Int) l) (i,l)∧decide (i>=0)=decide (s∈l.drop k) :=
  down ⟨-1,by rw[z1r,Ev.kz1 (by simp),Ev.yz0],by simp⟩ λk hk ih=>by
   obtain⟨i,h1,h2⟩:=ih;by_cases he:s=l[k];refine⟨k,?_,?_⟩;rw[z1r,Ev.zz2 (by simpa using hk),Ev.zz3 (zzb hk),Ev.zz2 (by simpa using he),Ev.yz0];have:s∈l.drop k:=by rw[<-Qah (h:=hk),he];exact Qak
   simp[this];refine⟨i,?_,?_⟩;rw[z1r,Ev.zz2 (by simpa using hk),Ev.zz3 (zzb hk),Ev.kz1 (by simpa using he),wrk (by omega)];exact h1;rw[h2]
   have:(s∈l.drop k)↔(s∈l.drop (k+1)):=by
    rw[<-Qah (h:=hk),Qbf];exact⟨λh=>h.elim (λh=>(he h).elim) id,.inr⟩
   exact decide_eq_decide.2 this.symm
 obtain⟨i,h1,h2⟩:=loop 0 (Qbm _);exact⟨i,by rw[zdt];exact h1,by simpa using h2⟩
theorem yjp:∀(e:zz1) (acc:List B8),acc.length+yzc e<=8388608->Ev (λn=>z6i n e.op e.value.kind e.value.num.num e.value.num.den e.value.truth e.value.str e.value.list e.name e.args acc) (e.args,z1p e acc):=z90 λe ih acc hb=>by
 rw[yzj]at hb
 have loop:∀k,k<=e.args.length->∀acc:List B8,acc.length+zz7 (e.args.drop k)<=8388608->Ev (λn=>z2t n (k:Int) (e.args.length:Int) e.args acc) (e.args,z1c (e.args.drop k) acc) :=
  down (λacc hb=>by rw[zir,Ev.kz1 (by simp),Ev.yz0];simp[z1c]) λk hk ihk acc hb=>by
   have hx:=Qad hk;have hlen:=z8v e.args;rw[<-Qah (h:=hk)]at hb ⊢;simp only[z1c,zz7]at hb ⊢;have:=yj3 e.args[k] acc
   have hk2:k<=8388609:=by
    have:=z8v e.args;omega
   rw[zir,Ev.zz2 (by simpa using hk),Ev.zz3 (zzb hk),Ev.zz3 (zzb hk),Ev.zz3 (zzb hk),Ev.kz0 (ih _ hx _ (by omega)),Ev.zz3 (zzb hk),wrk (by omega),Int.toNat_natCast,zz0.yz2]
   have e1:e.args.set k (zz1.mk e.args[k].op e.args[k].value e.args[k].name e.args[k].args)=e.args:=by
    have:(zz1.mk e.args[k].op e.args[k].value e.args[k].name e.args[k].args)=e.args[k]:=by cases e.args[k];rfl
    rw[this,List.set_getElem_self]
   rw[e1];exact ihk (z1p e.args[k] acc) (by omega)
 have l1:∀acc:List B8,acc.length+zz7 e.args<=8388608->∀a b c d f g h i,Ev (λn=>z2o n e.args acc a b c d f g h i) (e.args,z1c e.args acc):=λacc hb a b c d f g h i=>by
  rw[zta];simpa using loop 0 (Qbm _) acc (by simpa using hb)
 rw[y47,zcu];by_cases h2:e.op=2;obtain⟨i,h3,h4⟩:=yn8 (l:=acc) (by omega) (s:=e.name)
 have hc:Ev (λn=>kzc n e.name acc) (decide (e.name∈acc),acc):=by
  rw[zcb,Ev.kz0 h3,Ev.yz0,h4]
 rw[Ev.zz2 (by simpa using h2),Ev.kz0 hc,zih];by_cases hn:e.name∈acc;rw[Ev.kz1 (by simpa using hn),Qbp (by simp[hn])];exact l1 acc (by omega) _ _ _ _ _ _ _ _;rw[Ev.zz2 (by simpa using hn),Qbo ⟨h2,hn⟩,Ev.zz3 (z9v (by simp;omega))];exact l1 _ (by simp;omega) _ _ _ _ _ _ _ _;rw[Ev.kz1 (by simpa using h2),Qbp (λh=>h2 h.1),zih,Ev.kz1 (by rfl)];exact l1 _ (by omega) _ _ _ _ _ _ _ _
theorem yjn{α:Type}{p:α->Bool}:∀{l:List α},(∀x∈l,p x=true)->l.takeWhile p=l∧l.dropWhile p=[]
 |[],_=>⟨rfl,rfl⟩
 |x::l,h=>by
  have hx:=h x Qak;obtain⟨h1,h2⟩:=yjn (l:=l) λy hy=>h y (Qai _ hy)
  rw[List.takeWhile_cons_of_pos hx,List.dropWhile_cons_of_pos hx,h1,h2];exact⟨rfl,rfl⟩
theorem yn7{l:List B8}{k:Nat}(hk:k<=l.length)(s:B8) :
  zp0 (l++[[]]) ((k+1:Nat):Int) (k:Int)=some (l.take k++[(l++[[]])[k]'(by simp;omega)]++l.drop k)∧((l.take k++[(l++[[]])[k]'(by simp;omega)]++l.drop k).set k s=l.take k++s::l.drop k):=by
 constructor;unfold zp0;rw[Qbo (by simp;omega)]
 congr 1
 have e1:((k+1:Nat):Int).toNat=k+1:=by simp
 have e2:((k:Nat):Int).toNat=k:=by simp
 rw[e1,e2];have e3:min ((l++[[]]).length-k) ((l++[[]]).length-(k+1))=l.length-k:=by simp;omega
 rw[e3,show k+1+(l.length-k)=l.length+1 by omega];have e4:(l++[[]]).drop (l.length+1)=[]:=List.drop_of_length_le (by simp)
 have e5:((l++[[]]).drop k).take (l.length-k)=l.drop k:=by
  rw[List.drop_append_of_le_length hk,List.take_append_of_le_length (by simp),List.take_of_length_le (by simp)]
 have e6:(l++[[]]).take (k+1)=l.take k++[(l++[[]])[k]'(by simp;omega)]:=by
  have hlt:k<(l++[[]]).length:=by simp;omega
  rw[<-z3p hlt,List.take_append_of_le_length hk]
 rw[e4,e5,e6,List.append_nil];have hl:(l.take k).length=k:=by simp;omega
 rw[Qay,List.set_append,Qbp (by omega),hl,Nat.sub_self];rfl
theorem yj8:∀(e:zz1) (acc:List B8),acc.length+yzc e<=8388608->Ev (λn=>z6g n e acc) (zhl e acc):=z90 λe ih acc hb=>by
 rw[yzj]at hb
 have loop:∀k,k<=e.args.length->∀acc:List B8,acc.length+zz7 (e.args.drop k)<=8388608->Ev (λn=>z36 n (k:Int) acc e) (z7u (e.args.drop k) acc) :=
  down (λacc hb=>by rw[zix,Ev.kz1 (by simp),Ev.yz0];simp[z7u]) λk hk ihk acc hb=>by
   have hx:=Qad hk;have hlen:=z8v e.args;rw[<-Qah (h:=hk)]at hb ⊢;simp only[z7u,zz7]at hb ⊢;have:=yn0 e.args[k] acc;rw[zix,Ev.zz2 (by simpa using hk),Ev.zz3 (zzb hk),zz1.yz2,Ev.kz0 (ih _ hx _ (by omega)),wrk (by omega),zz1.yz2];exact ihk _ (by omega)
 have l3:∀acc:List B8,acc.length+zz7 e.args<=8388608->Ev (λn=>z11 n acc e) (z7u e.args acc):=λacc hb=>by
  rw[ztb,zz1.yz2];simpa using loop 0 (Qbm _) acc (by simpa using hb)
 rw[y6i,zz1.yz2,y2s];by_cases h2:e.op=2
 case neg=>rw[Ev.kz1 (by simpa using h2),Qbp h2];exact l3 _ (by omega)
 rw[Ev.zz2 (by simpa using h2),Qbo h2];have hil:=zrm e.name acc
 have fin:∀k,k<=acc.length->acc.takeWhile (λx=>Op.bytesLess x e.name)=acc.take k->acc.dropWhile (λx=>Op.bytesLess x e.name)=acc.drop k->Ev (λn=>z2l n (k:Int) false e acc) (z7u e.args (ins acc e.name)):=λk hk ht hd=>by
  have hins:=yp6 e.name acc;rw[ht,hd]at hins
  have put:ins acc e.name=acc.take k++e.name::acc.drop k->Ev (λn=>z2v n (k:Int) true e acc) (z7u e.args (ins acc e.name)):=λhi=>by
   obtain⟨s1,s2⟩:=yn7 hk e.name;have hx:ext acc [[]]=some (acc++[[]]):=z9v (by simp;omega);have hc1:yh7 (acc++[[]]) ((k+1:Nat):Int)=some ():=by unfold yh7;rw[Qbo (by simp;omega)]
   have hc2:yh7 (acc++[[]]) (k:Int)=some ():=by unfold yh7;rw[Qbo (by simp;omega)]
   have hg:ix (acc.take k++[(acc++[[]])[k]'(by simp;omega)]++acc.drop k) (k:Int)=some ((acc++[[]])[k]'(by simp;omega)):=by
    rw[yrf,Qay,Qau (by simp;omega)];simp[Nat.min_eq_left hk]
   rw[zi5,Ev.zz2 (by rfl),Ev.zz3 hx,wrk (by omega),Ev.zz3 hc1,Ev.zz3 hc2,Ev.zz3 s1,Ev.zz3 hg,zz1.yz2,Int.toNat_natCast,s2,<-hi];exact l3 _ (by omega)
  rw[zhs,Ev.kz1 (by rfl),zz1.yz2];by_cases he:k=acc.length;rw[Ev.zz2 (by simp;omega)];exact put (by rw[hins,Qbp (by rw[List.drop_of_length_le (by omega)];simp)]);have hlt:k<acc.length:=by omega
  rw[Ev.kz1 (by simp;omega),Ev.zz3 (zzb hlt)];have hhead:(acc.drop k).head?=some acc[k]:=by rw[<-Qah (h:=hlt)];rfl
  by_cases heq:acc[k]=e.name;rw[show(!(acc[k]==e.name))=false by simpa using heq,zi5,Ev.kz1 (by rfl),zz1.yz2];have:ins acc e.name=acc:=by rw[hins,Qbo (by rw[hhead,heq])]
  rw[this];exact l3 _ (by omega);rw[show(!(acc[k]==e.name))=true by simpa using heq];exact put (by rw[hins,Qbp (by rw[hhead];simpa using heq)])
 have place:∀k,k<=acc.length->(acc.take k).all (λx=>Op.bytesLess x e.name)=true->Ev (λn=>z10 n (k:Int) e acc) (z7u e.args (ins acc e.name)) :=
  down (Q:=λk=>(acc.take k).all (λx=>Op.bytesLess x e.name)=true->Ev (λn=>z10 n (k:Int) e acc) (z7u e.args (ins acc e.name))) (λhall=>by
   rw[List.take_length]at hall;rw[Qas]at hall;rw[zi2,Ev.kz1 (by simp),zz1.yz2];refine fin _ (Qbn _) ?_ ?_;rw[List.take_length];exact(yjn hall).1
   rw[List.drop_length];exact(yjn hall).2) λk hk ihk hall=>by
   have hsplit:acc=acc.take k++acc.drop k:=(List.take_append_drop k acc).symm;rw[zi2,Ev.zz2 (by simpa using hk),Ev.zz3 (zzb hk),zz1.yz2];cases hb:Op.bytesLess acc[k] e.name;rw[Qas]at hall;refine fin k (by omega) ?_ ?_
   conv=>lhs;rw[hsplit]
   rw[List.takeWhile_append_of_pos hall,<-Qah (h:=hk),List.takeWhile_cons_of_neg (by simp[hb]),List.append_nil]
   conv=>lhs;rw[hsplit]
   rw[List.dropWhile_append_of_pos hall,<-Qah (h:=hk),List.dropWhile_cons_of_neg (by simp[hb])];rw[zhs,Ev.zz2 (by rfl),wrk (by omega),zz1.yz2];refine ihk ?_;rw[<-z3p hk,List.all_append,hall];simp[hb]
 exact place 0 (Qbm _) (by simp)
theorem ysw:v0.wf:=by
 rw[zz0.zbe,yz1.zbe];refine⟨?_,⟨?_,?_⟩,trivial,trivial,by simp[v0]⟩;show IntKind.u8.min<=0∧0<=IntKind.u8.max;decide;show IntKind.i64.min<=0∧0<=IntKind.i64.max;decide;show IntKind.i64.min<=0∧0<=IntKind.i64.max;decide
theorem zel:∀(l:yz3),(∀x∈l,∀(acc:List B8) y,y∈acc->y∈z1p x acc)->∀(acc:List B8) y,y∈acc->y∈z1c l acc
 |[],_,acc,y,hy=>by rw[z1c];exact hy
 |x::l,h,acc,y,hy=>by
  rw[z1c];exact zel l (λz hz=>h z (Qai _ hz)) _ y (h x Qak acc y hy)
theorem zuy:∀(e:zz1) (acc:List B8) (y:B8),y∈acc->y∈z1p e acc:=z90 λe ih acc y hy=>by
 rw[zcu];refine zel e.args ih _ y ?_;split;exact List.mem_append_left _ hy;exact hy
theorem zui{x:zz1}:∀(l:yz3) (acc:List B8),x∈l->∃acc',∀y,y∈z1p x acc'->y∈z1c l acc
 |[],acc,h=>by cases h
 |z::l,acc,h=>by
  rw[z1c]
  rcases Qbf.1 h with rfl|h
  exact⟨acc,λy hy=>zel l (λw _=>zuy w) _ y hy⟩;exact zui l _ h
theorem zl7{env env':yzb}:∀(l:yz3) (k:Nat),(∀x∈l,eev env x=eev env' x)->z16 env l k=z16 env' l k
 |[],k,h=>by rw[z16,z16]
 |x::l,0,h=>by rw[z16,z16];exact h x Qak
 |x::l,k+1,h=>by rw[z16,z16];exact zl7 l k λy hy=>h y (Qai _ hy)
theorem yhp{env env':yzb}(l:yz3)(h:∀x∈l,eev env x=eev env' x):zad env l=zad env' l:=by
 cases l with
 |nil=>rw[zad,zad]
 |cons c l=>
  have hl:∀x∈l,eev env x=eev env' x:=λx hx=>h x (Qai _ hx)
  rw[zad,zad,h c Qak,zl7 l 0 hl,zl7 l 1 hl]
theorem y2y{env env':yzb}:∀(l:yz3),(∀x∈l,eev env x=eev env' x)->z5i env l=z5i env' l
 |[],h=>by rw[z5i,z5i]
 |x::l,h=>by rw[z5i,z5i,h x Qak,y2y l λy hy=>h y (Qai _ hy)]
theorem ynh{env env':yzb}:∀(e:zz1) (acc:List B8),(∀nm,nm∈z1p e acc->look env nm=look env' nm)->eev env e=eev env' e:=z90 λe ih acc h=>by
 have harg:∀x∈e.args,eev env x=eev env' x:=λx hx=>by
  obtain⟨acc',ha⟩:=zui e.args (if e.op=2∧e.name∉acc then acc++[e.name]else acc) hx;exact ih x hx acc' λnm hn=>h nm (by rw[zcu];exact ha nm hn)
 rw[zfn,zfn,yhp e.args harg,y2y e.args harg];by_cases h2:e.op=2
 rw[h e.name (by
  rw[zcu];refine zel e.args (λw _=>zuy w) _ _ ?_;by_cases hn:e.name∈acc;rw[Qbp (by simp[hn])];exact hn
  rw[Qbo ⟨h2,hn⟩];simp)]
 rw[Qbp h2,Qbp h2]
mutual
def zkr(nm:B8):zz1->Prop
 |⟨op,_,n,l⟩=>(op=2∧n=nm)∨zr3 nm l
def zr3(nm:B8):yz3->Prop
 |[]=>False
 |x::l=>zkr nm x∨zr3 nm l
end
theorem zr1(nm:B8)(e:zz1):zkr nm e=((e.op=2∧e.name=nm)∨zr3 nm e.args):=by cases e;rw[zkr]
theorem zio{nm:B8}:∀{l:yz3},zr3 nm l↔∃x∈l,zkr nm x
 |[]=>by simp[zr3]
 |x::l=>by rw[zr3,zio (l:=l)];simp
theorem zjk(nm:B8):∀(e:zz1) (acc:List B8),nm∈z1p e acc↔nm∈acc∨zkr nm e:=z90 λe ih acc=>by
 have hL:∀(l:yz3),(∀x∈l,x∈e.args)->∀acc:List B8,nm∈z1c l acc↔nm∈acc∨zr3 nm l:=λl=>by
  induction l with
  |nil=>intro _ acc;simp[z1c,zr3]
  |cons x l ihl=>
   intro hm acc;rw[z1c,ihl (λy hy=>hm y (Qai _ hy)),ih x (hm x Qak),zr3,or_assoc]
 rw[zcu,hL _ (λ_ h=>h),zr1];by_cases h2:e.op=2;by_cases hn:e.name∈acc;rw[Qbp (by simp[hn])];constructor
 rintro (h|h)
 exact .inl h;exact .inr (.inr h)
 rintro (h|⟨_,h⟩|h)
 exact .inl h;exact .inl (h▸hn);exact .inr h;rw[Qbo ⟨h2,hn⟩,List.mem_append,List.mem_singleton,or_assoc];simp only[h2,true_and,eq_comm];rw[Qbp (λh=>h2 h.1)];simp only[h2,false_and,false_or]
theorem yrz{e:zz1}:z1p e []=[]↔∀nm,¬zkr nm e:=by
 constructor;intro h nm hn;have:=(zjk nm e []).2 (.inr hn);rw[h]at this;cases this;intro h
 cases hl:z1p e []with
 |nil=>rfl
 |cons x l=>
  have:=(zjk x e []).1 (by rw[hl];simp)
  rcases this with h'|h'
  cases h';exact(h x h').elim
theorem yhf{e:zz1}(h:∀nm,¬zkr nm e)(env env':yzb):eev env e=eev env' e:=ynh e [] λnm hn=>by
 rcases(zjk nm e []).1 hn with h'|h'
 cases h';exact(h nm h').elim
mutual
def z8f:zz0->zz1
 |⟨k,q,t,s,l⟩=>if k=4 then ⟨18,v0,[],ylm l⟩else ⟨1,⟨k,q,t,s,l⟩,[],[]⟩
def ylm:kz2->yz3
 |[]=>[]
 |x::l=>z8f x::ylm l
end
theorem y87:∀l:kz2,ylm l=l.map z8f
 |[]=>rfl
 |x::l=>by rw[ylm,y87 l];rfl
theorem yll(v:zz0):z8f v=if v.kind=4 then ⟨18,v0,[],v.list.map z8f⟩else ⟨1,v,[],[]⟩:=by cases v;rw[z8f,y87]
theorem zpu{v:zz0}(h:v.kind=4):z8f v=⟨18,v0,[],v.list.map z8f⟩:=by rw[yll,Qbo h]
theorem zp4{v:zz0}(h:v.kind≠4):z8f v=⟨1,v,[],[]⟩:=by rw[yll,Qbp h]
theorem yjc:∀v:zz0,yzc (z8f v)=kzi v∧z2b (z8f v)=z5j v:=zeu λv ih=>by
 by_cases hk:v.kind=4
 have hl:∀l:kz2,(∀x∈l,x∈v.list)->zz7 (l.map z8f)=kz7 l∧z4h (l.map z8f)=z08 l:=λl=>by
  induction l with
  |nil=>intro _;exact⟨rfl,rfl⟩
  |cons x l ihl=>
   intro hm;obtain⟨h1,h2⟩:=ihl λy hy=>hm y (Qai _ hy)
   obtain⟨h3,h4⟩:=ih x (hm x Qak);simp only[List.map_cons,zz7,z4h,kz7,z08,h1,h2,h3,h4,and_self]
 obtain⟨h1,h2⟩:=hl v.list λ_ h=>h
 rw[zpu hk,kzb,Qbo hk,z1x,Qbo hk,yzj,zcg];exact⟨by rw[h1],by rw[h2]⟩;rw[zp4 hk,kzb,Qbp hk,z1x,Qbp hk,yzj,zcg];exact⟨rfl,rfl⟩
theorem ypr:∀(v:zz0) (nm:B8),¬zkr nm (z8f v):=zeu λv ih nm=>by
 by_cases hk:v.kind=4;rw[zpu hk,zr1,zio]
 rintro (⟨h,_⟩|⟨x,hx,h⟩)
 exact absurd h (by show ¬((18:Int)=2);decide);obtain⟨y,hy,rfl⟩:=Qbc.1 hx;exact ih y hy nm h;rw[zp4 hk,zr1,zio]
 rintro (⟨h,_⟩|⟨x,hx,h⟩)
 exact absurd h (by show ¬((1:Int)=2);decide);cases hx
theorem y85:∀v:zz0,yz5 v=0->z0f (z8f v)=true:=zeu λv ih hv=>by
 by_cases hk:v.kind=4;rw[zpu hk,zcn];simp only[zjo,zh1,kzl,zpl,List.all_map];simp;intro x hx;exact ih x hx (y23 hv hk hx);rw[zp4 hk,zcn];simp[z6c,zh1,kzl,zpl,hv,hk]
theorem v4_eq{v:zz0}(h:z4s v=true)(hk:v.kind=4):v=zav v.list:=by
 obtain⟨h1,h2,h3,h4⟩:=yov h hk;exact vext hk h1 h2 h3 h4 rfl
theorem yrc(env:yzb):∀v:zz0,yz5 v=0->eev env (z8f v)=(0,v):=zeu λv ih hv=>by
 by_cases hk:v.kind=4
 have hl:∀l:kz2,(∀x∈l,x∈v.list)->z5i env (l.map z8f)=(0,l):=λl=>by
  induction l with
  |nil=>intro _;rw[List.map_nil,z5i]
  |cons x l ihl=>
   intro hm;rw[List.map_cons,z5i,ih x (hm x Qak) (y23 hv hk (hm x Qak)),ihl λy hy=>hm y (Qai _ hy)];simp
 rw[zpu hk,eev];rw[Qbp (by decide),Qbp (by decide),Qbp (by decide),hl v.list λ_ h=>h];have e:=v4_eq (zzq hv).1 hk;have hc:yz5 (zav v.list)=0:=by rw[<-e];exact hv
 simp only[if_true];unfold z14;rw[Qbp (by decide),Qbp (by decide),Qbp (by decide),Qbp (by decide),Qbp (by decide),Qbp (by decide),Qbp (by decide),Qbp (by decide),Qbp (by decide),Qbp (by decide),Qbp (by decide),Qbp (by decide),Qbp (by simpa using hc)];rw[<-e];rw[zp4 hk,eev,Qbo rfl]
theorem zqk:kzi v0=1∧z5j v0=1:=by rw[kzb,z1x];exact⟨rfl,rfl⟩
theorem yfw{v:zz0}(hk:v.kind≠4):kzi v=1∧z5j v=1:=by rw[kzb,z1x,Qbp hk,Qbp hk];exact⟨rfl,rfl⟩
def Small(v:zz0)(l:kz2):Prop:=kzi v<=1+kz7 l∧z5j v<=max 1 (z08 l)
theorem z9s{v:zz0}(hk:v.kind≠4)(l:kz2):Small v l:=by
 obtain⟨h1,h2⟩:=yfw hk;exact⟨by omega,by omega⟩
theorem yn2{v:zz0}{l:kz2}(h:v∈l):Small v l:=by
 obtain⟨h1,h2⟩:=zmg h;exact⟨by omega,by omega⟩
theorem y7v{l:kz2}{i:Nat}:Small (l.getD i v0) l:=by
 rcases Nat.lt_or_ge i l.length with h|h
 rw[Qaz,Qab h];exact yn2 (Qad h);rw[Qaz,Qbs h];exact z9s (by show ¬((0:Int)=4);decide) _
theorem zl3:∀a b:kz2,kz7 (a++b)=kz7 a+kz7 b∧z08 (a++b)=max (z08 a) (z08 b)
 |[],b=>by simp[kz7,z08]
 |x::a,b=>by
  obtain⟨h1,h2⟩:=zl3 a b;simp only[List.cons_append,kz7,z08,h1,h2];exact⟨by omega,by omega⟩
theorem zu7(r:Int×yz1)(l:kz2):Small (zeg r).2 l:=by
 unfold zeg;split;exact z9s (by show ¬((1:Int)=4);decide) _;exact z9s (by show ¬((0:Int)=4);decide) _
theorem zc7(l:kz2):Small v0 l:=z9s (by show ¬((0:Int)=4);decide) _
theorem yin{a b:zz0}{l:kz2}(hs:kzi a+kzi b<=2+kz7 l)(ha:Small a l)(hb:Small b l):Small (zqe a b).2 l:=by
 unfold zqe;split;exact zc7 _;rename_i hv0;split;exact zc7 _;rename_i hk;split;split;exact zc7 _;exact z9s (by show ¬((1:Int)=4);decide) _;rename_i h1;split;split;exact zc7 _;exact z9s (by show ¬((3:Int)=4);decide) _;rename_i h3;split;exact zc7 _;by_cases h4:a.kind=4;have h4b:b.kind=4:=by omega
 obtain⟨e1,e2⟩:=zl3 a.list b.list;obtain⟨a1,a2⟩:=ha;obtain⟨b1,b2⟩:=hb;rw[kzb,Qbo h4]at a1 hs;rw[kzb b,Qbo h4b]at hs b1;rw[z1x,Qbo h4]at a2;rw[z1x,Qbo h4b]at b2;refine⟨?_,?_⟩;rw[kzb,Qbo rfl];show 1+kz7 (a.list++b.list)<=_;omega;rw[z1x,Qbo rfl];show max 1 (z08 (a.list++b.list))<=_;omega
 exfalso
 have:yz5 a=0:=(zia (by simpa using hv0)).1
 rcases zfi (zzq this).1 with h|h|h|h <;> omega
theorem yo6{v:zz0}{i:Int}{l:kz2}(hv:Small v l):Small (vat v i).2 l:=by
 unfold vat;split;exact zc7 _;split;exact zc7 _;split;rename_i hk
 cases hx:v.list[i.toNat]? with
 |none=>exact zc7 _
 |some x=>
  obtain⟨h1,h2⟩:=zmg (Qaw hx);obtain⟨a1,a2⟩:=hv;rw[kzb,Qbo hk]at a1;rw[z1x,Qbo hk]at a2;exact⟨by show kzi x<=_;omega,by show z5j x<=_;omega⟩
 exact z9s (by show ¬((3:Int)=4);decide) _
theorem ync:∀l:kz2,kzi (l.getD 0 v0)+kzi (l.getD 1 v0)<=2+kz7 l
 |[]=>by have:=zqk.1;simp[kz7];omega
 |[x]=>by have:=zqk.1;simp[kz7];omega
 |x::y::l=>by simp[kz7];omega
theorem y9w{op:Int}{l:kz2}:Small (z14 op l).2 l:=by
 have tr:∀b,Small (ze2 b) l:=λb=>z9s (by show ¬((2:Int)=4);decide) _
 have nm:∀r,Small (yds r) l:=λb=>z9s (by show ¬((1:Int)=4);decide) _
 have z:=zc7 l;have g0:Small (l.getD 0 v0) l:=y7v;have g1:Small (l.getD 1 v0) l:=y7v;have pk:∀{c:Prop}[Decidable c] {a b:Int×zz0},Small a.2 l->Small b.2 l->Small (if c then a else b).2 l:=λ{c} _ {a b} ha hb=>by split <;> assumption
 have pv:∀{c:Prop}[Decidable c] {k:Int} {a b:zz0},Small a l->Small b l->Small ((k,if c then a else b):Int×zz0).2 l:=λ{c} _ {k a b} ha hb=>by show Small (if c then a else b) l;split <;> assumption
 have last:Small (zav l) l:=by
  refine⟨?_,?_⟩;rw[kzb,Qbo (show(zav l).kind=4 from rfl)];show 1+kz7 l<=_;omega;rw[z1x,Qbo (show(zav l).kind=4 from rfl)];show max 1 (z08 l)<=_;omega
 unfold z14
 exact pk (yin (ync l) g0 g1)<|pk (pk (zu7 _ _) z)<|pk (pk (zu7 _ _) z)<|pk (pk (zu7 _ _) z)<|pk (tr _) <|
  pk (pk z<|pk (tr _)<|pk (pv g1 g0) (pv g1 g0))<|pk (pk (tr _) z)<|pk (pk (tr _) z)<|pk (pk (tr _) z)<|pk (pk (nm _) z)<|pk (pk z (nm _)) <|
  pk (pk z<|pk z<|pk z (yo6 g0))<|pk z last
def Fits(v:zz0)(p d:Nat):Prop:=kzi v<=p∧z5j v<=d
theorem y7w(env:yzb):∀l:yz3,(∀x∈l,(eev env x).1=0->Fits (eev env x).2 (yzc x) (z2b x))->(z5i env l).1=0->kz7 (z5i env l).2<=zz7 l∧z08 (z5i env l).2<=z4h l
 |[],h,hz=>by rw[z5i];simp[kz7,z08]
 |x::l,h,hz=>by
  rw[z5i]at hz ⊢;by_cases hx:(eev env x).1=0;rw[Qbp (by simpa using hx)]at hz ⊢;obtain⟨h1,h2⟩:=y7w env l (λy hy=>h y (Qai _ hy)) hz;obtain⟨h3,h4⟩:=h x Qak hx;simp only[kz7,z08,zz7,z4h];exact⟨by omega,by omega⟩;rw[Qbo (by simpa using hx)]at hz;exact(hx hz).elim
theorem zpo(env:yzb):∀(l:yz3) (k:Nat),(∀x∈l,(eev env x).1=0->Fits (eev env x).2 (yzc x) (z2b x))->(z16 env l k).1=0->Fits (z16 env l k).2 (1+zz7 l) (max 1 (z4h l))
 |[],k,h,hz=>by rw[z16];have:=zqk;exact⟨by simp only;omega,by simp only;omega⟩
 |x::l,0,h,hz=>by
  rw[z16]at hz ⊢;obtain⟨h1,h2⟩:=h x Qak hz;simp only[zz7,z4h]
  exact⟨by omega,by omega⟩
 |x::l,k+1,h,hz=>by
  rw[z16]at hz ⊢;obtain⟨h1,h2⟩:=zpo env l k (λy hy=>h y (Qai _ hy)) hz;simp only[zz7,z4h];exact⟨by omega,by omega⟩
theorem yrj:∀e:zz1,z0f e=true->(eev [] e).1=0->Fits (eev [] e).2 (yzc e) (z2b e):=z90 λe ih hf hz=>by
 have ih':∀x∈e.args,(eev [] x).1=0->Fits (eev [] x).2 (yzc x) (z2b x):=λx hx=>ih x hx (z2z hf x hx)
 rw[yzj,zcg];rw[zfn]at hz ⊢;by_cases h1:e.op=1;rw[Qbo h1];have ho:=zhp hf;unfold zpl at ho;rw[Qbo h1]at ho;simp only[Qag,bne_iff_ne]at ho;obtain⟨a,b⟩:=yfw ho.2.1;exact⟨by show kzi e.value<=_;omega,by show z5j e.value<=_;omega⟩;rw[Qbp h1]at hz ⊢;by_cases h2:e.op=2;rw[Qbo h2]at hz;exact absurd hz (by show ¬((6:Int)=0);decide);rw[Qbp h2]at hz ⊢;by_cases h12:e.op=12;rw[Qbo h12]at hz ⊢
 cases hl:e.args with
 |nil=>rw[zad];have:=zqk;exact⟨by simp only;omega,by simp only;omega⟩
 |cons c l=>
  rw[hl]at hz ih';rw[zad]at hz ⊢;have ihl:∀x∈l,(eev [] x).1=0->Fits (eev [] x).2 (yzc x) (z2b x):=λx hx=>ih' x (Qai _ hx)
  by_cases hc:(eev [] c).1=0;rw[Qbp (by simpa using hc)]at hz ⊢;by_cases hk:(eev [] c).2.kind=2;rw[Qbp (by simpa using hk)]at hz ⊢;simp only[zz7,z4h];cases ht:(eev [] c).2.truth;rw[ht]at hz;obtain⟨a,b⟩:=zpo [] l 1 ihl hz;exact⟨by simp only[Bool.false_eq_true,if_false];omega,by simp only[Bool.false_eq_true,if_false];omega⟩;rw[ht]at hz;obtain⟨a,b⟩:=zpo [] l 0 ihl hz
  exact⟨by simp only[if_true];omega,by simp only[if_true];omega⟩;rw[Qbo (by simpa using hk)]at hz;exact absurd hz (by show ¬((20:Int)=0);decide);rw[Qbo (by simpa using hc)]at hz;exact(hc hz).elim
 rw[Qbp h12]at hz ⊢;by_cases hl:(z5i [] e.args).1=0;rw[Qbo hl]at hz ⊢;obtain⟨a,b⟩:=y7w [] e.args ih' hl;obtain⟨c,d⟩:=y9w (op:=e.op) (l:=(z5i [] e.args).2);exact⟨by omega,by omega⟩;rw[Qbp hl]at hz;exact(hl hz).elim
theorem zxk:zxt []:=⟨λb hb=>(by cases hb),by show(0:Nat)<=_;exact Qbm _⟩
noncomputable def z8h(e:zz1):zz1 :=
 if e.op=12∧(e.args.getD 0 e).op=1∧(e.args.getD 0 e).value.kind=2 then (if (e.args.getD 0 e).value.truth then e.args.getD 1 e else e.args.getD 2 e)
 else if z1p e []≠[]then e
 else if (eev [] e).1=0 then z8f (eev [] e).2 else e
mutual
noncomputable def z61:zz1->zz1
 |⟨op,v,nm,l⟩=>z8h ⟨op,v,nm,y31 l⟩
noncomputable def y31:yz3->yz3
 |[]=>[]
 |x::l=>z61 x::y31 l
end
theorem y09:∀l:yz3,y31 l=l.map z61
 |[]=>by rw[y31];rfl
 |x::l=>by rw[y31,y09 l];rfl
def within(e:zz1)(l:yz3):zz1:=⟨e.op,e.value,e.name,l⟩
theorem zym(e:zz1):z61 e=z8h (within e (e.args.map z61)):=by cases e;rw[z61,y09];rfl
theorem three{l:yz3}(h:l.length=3):∃a b c,l=[a,b,c]:=by
 match l,h with
 |[a,b,c],_=>exact⟨a,b,c,rfl⟩
theorem zxb{e:zz1}(hf:z0f e=true)(h:e.op=12):∃c a b,e.args=[c,a,b]:=by
 have:=z8y hf
 rcases zgb this with ⟨h',_⟩|⟨h',_⟩|⟨h',_⟩|⟨_,h'⟩|h'
 omega;rw[h]at h';exact absurd h' (by decide);rw[h]at h';exact absurd h' (by decide);exact three h';omega
theorem ygx(e:zz1)(hf:z0f e=true) :
  (∃c a b,e.op=12∧e.args=[c,a,b]∧c.op=1∧c.value.kind=2∧z8h e=if c.value.truth then a else b)∨(z8h e=e∧((∃nm,zkr nm e)∨(eev [] e).1≠0))∨((∀nm,¬zkr nm e)∧(eev [] e).1=0∧z8h e=z8f (eev [] e).2):=by
 by_cases h1:e.op=12∧(e.args.getD 0 e).op=1∧(e.args.getD 0 e).value.kind=2;left;obtain⟨c,a,b,hl⟩:=zxb hf h1.1;refine⟨c,a,b,h1.1,hl,?_,?_,?_⟩;have:=h1.2.1;rw[hl]at this;exact this;have:=h1.2.2;rw[hl]at this;exact this;unfold z8h;rw[Qbo h1,hl];rfl;right;by_cases h2:z1p e []=[];by_cases h3:(eev [] e).1=0;right;exact⟨yrz.1 h2,h3,by unfold z8h;rw[Qbp h1,Qbp (by simpa using h2),Qbo h3]⟩
 left;exact⟨by unfold z8h;rw[Qbp h1,Qbp (by simpa using h2),Qbp h3],.inr h3⟩;left;refine⟨by unfold z8h;rw[Qbp h1,Qbo h2],.inl ?_⟩
 cases hl:z1p e []with
 |nil=>exact(h2 hl).elim
 |cons x l=>
  refine⟨x,?_⟩
  rcases(zjk x e []).1 (by rw[hl];simp)with h|h
  cases h;exact h
theorem yso(env:yzb){c:zz1}(h:c.op=1):eev env c=(0,c.value):=by rw[zfn,Qbo h]
theorem ysj(env:yzb){e c a b:zz1}(h1:e.op=12)(h2:e.args=[c,a,b])(h3:c.op=1)(h4:c.value.kind=2):eev env e=if c.value.truth then eev env a else eev env b:=by
 rw[zfn,Qbp (by omega),Qbp (by omega),Qbo h1,h2,zad,yso env h3];simp only[ne_eq,not_true_eq_false,if_false,h4,z16]
theorem zov{e:zz1}(hf:z0f e=true)(hz:(eev [] e).1=0):yz5 (eev [] e).2=0:=ycc zxk e hf hz
theorem ypy(e:zz1)(hf:z0f e=true):z0f (z8h e)=true∧yzc (z8h e)<=yzc e∧z2b (z8h e)<=z2b e∧(∀env,eev env (z8h e)=eev env e)∧(∀nm,zkr nm (z8h e)->zkr nm e):=by
 rcases ygx e hf with ⟨c,a,b,h1,h2,h3,h4,h5⟩|⟨h1,_⟩|⟨h1,h2,h3⟩
 have ha:a∈e.args:=by rw[h2];simp
 have hb:b∈e.args:=by rw[h2];simp
 rw[h5];have hp:=yzj e;have hd:=zcg e;rw[h2]at hp hd;simp only[zz7,z4h]at hp hd;refine⟨?_,?_,?_,λenv =>?_,λnm hn =>?_⟩;split;exact z2z hf a ha;exact z2z hf b hb;split <;> omega
 split <;> omega
 rw[ysj env h1 h2 h3 h4];split <;> rfl
 rw[zr1,zio];right;split at hn;exact⟨a,ha,hn⟩;exact⟨b,hb,hn⟩;rw[h1];exact⟨hf,Qbn _,Qbn _,λ_=>rfl,λ_ h=>h⟩;have hv:=zov hf h2;obtain⟨f1,f2⟩:=yrj e hf h2;obtain⟨p1,p2⟩:=yjc (eev [] e).2;rw[h3];refine⟨y85 _ hv,by omega,by omega,λenv =>?_,λnm hn=>(ypr _ nm hn).elim⟩;rw[yrc env _ hv,yhf h1 env []];exact Prod.ext h2.symm rfl
theorem yid{f:zz1->zz1}{env:yzb}:∀l:yz3,(∀x∈l,eev env (f x)=eev env x)->z5i env (l.map f)=z5i env l
 |[],h=>rfl
 |x::l,h=>by rw[List.map_cons,z5i,z5i,h x Qak,yid l λy hy=>h y (Qai _ hy)]
theorem zt4{f:zz1->zz1}{env:yzb}:∀(l:yz3) (k:Nat),(∀x∈l,eev env (f x)=eev env x)->z16 env (l.map f) k=z16 env l k
 |[],k,h=>rfl
 |x::l,0,h=>by rw[List.map_cons,z16,z16,h x Qak]
 |x::l,k+1,h=>by rw[List.map_cons,z16,z16,zt4 l k λy hy=>h y (Qai _ hy)]
theorem yma{f:zz1->zz1}{env:yzb}(l:yz3)(h:∀x∈l,eev env (f x)=eev env x):zad env (l.map f)=zad env l:=by
 cases l with
 |nil=>rfl
 |cons c l=>
  have hl:∀x∈l,eev env (f x)=eev env x:=λx hx=>h x (Qai _ hx)
  rw[List.map_cons,zad,zad,h c Qak,zt4 l 0 hl,zt4 l 1 hl]
theorem yj5{f:zz1->zz1}{env:yzb}(e:zz1)(h:∀x∈e.args,eev env (f x)=eev env x):eev env (within e (e.args.map f))=eev env e:=by
 rw[zfn,zfn env e];simp only[within,yma e.args h,yid e.args h]
theorem yqi{f g:zz1->zz1}:∀l:yz3,(∀x∈l,yzc (f x)<=yzc x∧z2b (f x)<=z2b x)->zz7 (l.map f)<=zz7 l∧z4h (l.map f)<=z4h l
 |[],h=>⟨Qbn _,Qbn _⟩
 |x::l,h=>by
  obtain⟨h1,h2⟩:=yqi (g:=g) l λy hy=>h y (Qai _ hy)
  obtain⟨h3,h4⟩:=h x Qak;simp only[List.map_cons,zz7,z4h];exact⟨by omega,by omega⟩
theorem zuc(e:zz1){f:zz1->zz1}(hf:z0f e=true)(h:∀x∈e.args,z0f (f x)=true∧yzc (f x)<=yzc x∧z2b (f x)<=z2b x∧(∀env,eev env (f x)=eev env x)∧(∀nm,zkr nm (f x)->zkr nm x)) :
  z0f (within e (e.args.map f))=true∧yzc (within e (e.args.map f))<=yzc e∧z2b (within e (e.args.map f))<=z2b e∧(∀env,eev env (within e (e.args.map f))=eev env e)∧(∀nm,zkr nm (within e (e.args.map f))->zkr nm e):=by
 obtain⟨h1,h2⟩:=yqi (f:=f) (g:=f) e.args λx hx=>⟨(h x hx).2.1,(h x hx).2.2.1⟩
 refine⟨?_,?_,?_,λenv=>yj5 e λx hx=>(h x hx).2.2.2.1 env,λnm hn =>?_⟩;rw[zcn];simp only[within,List.length_map,zjo,Qag,Qas,Qbc];refine⟨z8y hf,zhp hf,?_⟩
 rintro x ⟨y,hy,rfl⟩
 exact(h y hy).1;rw[yzj,yzj e];show 1+zz7 (e.args.map f)<=_;omega;rw[zcg,zcg e];show max 1 (z4h (e.args.map f))<=_;omega;rw[zr1,zio]at hn ⊢
 rcases hn with hn|⟨x,hx,hn⟩
 exact .inl hn;obtain⟨y,hy,rfl⟩:=Qbc.1 (show x∈e.args.map f from hx);exact .inr ⟨y,hy,(h y hy).2.2.2.2 nm hn⟩
theorem zy5:∀e:zz1,z0f e=true->z0f (z61 e)=true∧yzc (z61 e)<=yzc e∧z2b (z61 e)<=z2b e∧(∀env,eev env (z61 e)=eev env e)∧(∀nm,zkr nm (z61 e)->zkr nm e):=z90 λe ih hf=>by
 obtain⟨a1,a2,a3,a4,a5⟩:=zuc e (f:=z61) hf λx hx=>ih x hx (z2z hf x hx)
 obtain⟨b1,b2,b3,b4,b5⟩:=ypy _ a1;rw[zym];exact⟨b1,by omega,by omega,λenv=>(b4 env).trans (a4 env),λnm hn=>a5 nm (b5 nm hn)⟩
theorem yfd:∀e:zz1,z0f e=true->e.wf∧e.size<=7000 * yzc e:=z90 λe ih hf=>by
 have hL:∀l:yz3,(∀x∈l,x∈e.args)->(∀x∈l,x.wf)∧(l.map zz1.size).sum<=7000 * zz7 l:=λl=>by
  induction l with
  |nil=>intro _;exact⟨λx hx=>(by cases hx),by simp⟩
  |cons x l ihl=>
   intro hm;obtain⟨h1,h2⟩:=ihl λy hy=>hm y (Qai _ hy)
   obtain⟨h3,h4⟩:=ih x (hm x Qak) (z2z hf x (hm x Qak));refine⟨λy hy =>?_,by simp only[List.map_cons,List.sum_cons,zz7];omega⟩
   rcases Qbf.1 hy with rfl|hy
   exact h3;exact h1 y hy
 obtain⟨h1,h2⟩:=hL e.args λ_ h=>h
 have hop:1<=e.op∧e.op<=18:=by
  have ha:=z8y hf;unfold zh1 at ha;simp only[Qag,bne_iff_ne,ne_eq]at ha
  rcases ops e.op with h|h|h|h|h|h|h|h|h|h|h|h|h|h|h|h|h|h|h
  all_goals first|(exact⟨by omega,by omega⟩)|skip
  exfalso
  apply ha.1;unfold kzl;rw[Qbp (by omega),Qbp (by omega),Qbp (by omega),Qbp (by omega),Qbp (by omega)]
 have hv:e.value.wf∧e.value.size<=6800∧e.name.length<=40:=by
  have ho:=zhp hf;have hv0:v0.size<=6800:=by rw[zz0.size_eq,yz1.size_eq];simp[v0]
  unfold zpl at ho;split at ho;simp only[Qag,Qbg]at ho;obtain⟨a,b⟩:=vok ho.1;have:=ho.2.2;simp only[List.isEmpty_iff]at this;exact⟨a,b,by rw[this];simp⟩;split at ho;simp only[Qag,zao]at ho;refine⟨by rw[ho.2];exact ysw,by rw[ho.2];exact hv0,?_⟩;have:=ho.1;unfold zd2 at this;simp only[Qag]at this;have hn:=this.1;unfold zfc at hn;split at hn;cases hn
  simp only[Qag,Qaq]at hn;exact hn.2;simp only[Qag,zao,List.isEmpty_iff]at ho;exact⟨by rw[ho.2];exact ysw,by rw[ho.2];exact hv0,by rw[ho.1];simp⟩
 refine⟨?_,?_⟩;rw[zz1.zbe];exact⟨by have:IntKind.u8.min=0:=rfl;have:IntKind.u8.max=255:=rfl;omega,hv.1,trivial,h1⟩;rw[zz1.size_eq,yzj];omega
theorem z8b{α β:Type}{f:α->β}{l:List α}{k:Nat}(h:k<l.length):(l.take k).map f++[f l[k]]=(l.take (k+1)).map f:=by
 rw[<-z3p h,List.map_append];rfl
abbrev TupE:=Int×Int×Int×Int×Bool×B8×kz2×B8×yz3
def zf7(e:zz1):TupE:=(e.op,e.value.kind,e.value.num.num,e.value.num.den,e.value.truth,e.value.str,e.value.list,e.name,e.args)
theorem y02(v:zz0):zz0.mk v.kind (yz1.mk v.num.num v.num.den) v.truth v.str v.list=v:=by
 cases v with
 |mk k q t s l2=>cases q;rfl
theorem ylj(e:zz1):zz1.mk e.op e.value e.name e.args=e:=by cases e;rfl
theorem yln{a:yz3}(y:zz1)(h:a.length<16777216):ext a [zz1.mk y.op (zz0.mk y.value.kind (yz1.mk y.value.num.num y.value.num.den) y.value.truth y.value.str y.value.list) y.name []]=some (a++[zz1.mk y.op y.value y.name []]):=by
 rw[y02];exact z9v (by simp;omega)
theorem yly{a:yz3}{z:zz1}:ix (a++[z]) (a.length:Int)=some z:=by
 have hl:a.length<(a++[z]).length:=by simp
 rw[zzb hl];simp
theorem ylz{a:yz3}(y:zz1):(a++[zz1.mk y.op y.value y.name []]).set (Int.toNat (a.length:Int)) (zz1.mk (zz1.mk y.op y.value y.name []).op (zz1.mk y.op y.value y.name []).value.re (zz1.mk y.op y.value y.name []).name y.args)=a++[y]:=by
 rw[Int.toNat_natCast,List.set_append_right _ _ (Qbn _),zz0.yz2];simp only[Nat.sub_self,List.set_cons_zero];rw[ylj]
theorem yeg:∀v:zz0,v.size<=8388608->Ev (λn=>z4m n v) (zf7 (z8f v)):=zeu λv ih hs=>by
 have hsl:=zzc v;have hlen:=kzw v.list;rw[ye8];by_cases hk:v.kind=4;rw[Ev.kz1 (by simp[hk]),zpu hk]
 have loop:∀k,k<=v.list.length->∀i,i=(v.list.take k).map z8f->Ev (λn=>z5e n (k:Int) v.list (v.list.length:Int) 18 0 0 0 false [] [] [] 0 0 0 0 false [] [] [] i []) (zf7 ⟨18,v0,[],v.list.map z8f⟩) :=
  down (λi hi=>by
   rw[zls,Ev.kz1 (by simp),Ev.yz0,hi,List.take_length];rfl) λk hk ihk i hi=>by
   have hm:=Qad hk;rw[zls,Ev.zz2 (by simpa using hk),Ev.zz3 (zzb hk),zz0.yz2,Ev.kz0 (ih _ hm (by have:=z5h hm;omega))];simp only[zf7];rw[Ev.zz3 (yln (z8f v.list[k]) (by rw[hi];simp;omega)),Ev.zz3 yly,ylz,wrk (by omega)];exact ihk _ (by rw[hi,z8b hk])
 exact loop 0 (Qbm _) [] rfl;rw[Ev.zz2 (by simpa using hk),Ev.yz0,zp4 hk];rfl
noncomputable def yn4(nm:B8)(v:zz0)(e:zz1):zz1:=if e.op=2∧e.name=nm then z8f v else e
mutual
noncomputable def z8o(nm:B8)(v:zz0):zz1->zz1
 |⟨op,w,n,l⟩=>yn4 nm v ⟨op,w,n,ygp nm v l⟩
noncomputable def ygp(nm:B8)(v:zz0):yz3->yz3
 |[]=>[]
 |x::l=>z8o nm v x::ygp nm v l
end
theorem y7p(nm:B8)(v:zz0):∀l:yz3,ygp nm v l=l.map (z8o nm v)
 |[]=>by rw[ygp];rfl
 |x::l=>by rw[ygp,y7p nm v l];rfl
theorem yaz(nm:B8)(v:zz0)(e:zz1):z8o nm v e=yn4 nm v (within e (e.args.map (z8o nm v))):=by cases e;rw[z8o,y7p];rfl
theorem zya{nm:B8}{v:zz0}{e:zz1}(h:e.op=2∧e.name=nm):z8o nm v e=z8f v:=by rw[yaz];exact Qbo h
theorem ztu{nm:B8}{v:zz0}{e:zz1}(h:¬(e.op=2∧e.name=nm)):z8o nm v e=within e (e.args.map (z8o nm v)):=by rw[yaz];exact Qbp h
theorem ynm{nm:B8}{v:zz0}(hv:yz5 v=0):∀e:zz1,z0f e=true->z0f (z8o nm v e)=true:=z90 λe ih hf=>by
 by_cases h:e.op=2∧e.name=nm;rw[zya h];exact y85 v hv;rw[ztu h,zcn];simp only[within,List.length_map,zjo,Qag,Qas,Qbc];refine⟨z8y hf,zhp hf,?_⟩
 rintro x ⟨y,hy,rfl⟩
 exact ih y hy (z2z hf y hy)
theorem ynl:∀v:zz0,(z8f v).size<=v.size+40 * kzi v:=zeu λv ih=>by
 by_cases hk:v.kind=4
 have hl:∀l:kz2,(∀x∈l,x∈v.list)->((l.map z8f).map zz1.size).sum<=(l.map zz0.size).sum+40 * kz7 l:=λl=>by
  induction l with
  |nil=>intro _;exact Qbn _
  |cons x l ihl=>
   intro hm;have h1:=ihl λy hy=>hm y (Qai _ hy)
   have h2:=ih x (hm x Qak);simp only[List.map_cons,List.sum_cons,kz7];omega
 have:=hl v.list λ_ h=>h
 have h0:v0.size<=20:=by rw[zz0.size_eq,yz1.size_eq];simp[v0]
 rw[zpu hk,zz1.size_eq,zz0.size_eq v,kzb,Qbo hk];show 1+v0.size+(([]:B8).length+1)+(((v.list.map z8f).map zz1.size).sum+1)+1<=_;simp only[List.length_nil];omega;rw[zp4 hk,zz1.size_eq,kzb,Qbp hk];show 1+v.size+(([]:B8).length+1)+((([]:yz3).map zz1.size).sum+1)+1<=_;simp;omega
theorem yog{nm:B8}{v:zz0}:∀e:zz1,(z8o nm v e).size<=e.size+yzc e * (z8f v).size:=z90 λe ih=>by
 by_cases h:e.op=2∧e.name=nm;rw[zya h,yzj,Nat.add_mul];omega
 have hl:∀l:yz3,(∀x∈l,x∈e.args)->((l.map (z8o nm v)).map zz1.size).sum<=(l.map zz1.size).sum+zz7 l * (z8f v).size:=λl=>by
  induction l with
  |nil=>intro _;exact Qbm _
  |cons x l ihl=>
   intro hm;have h1:=ihl λy hy=>hm y (Qai _ hy)
   have h2:=ih x (hm x Qak);simp only[List.map_cons,List.sum_cons,zz7,Nat.add_mul];omega
 have:=hl e.args λ_ h=>h
 rw[ztu h,zz1.size_eq,zz1.size_eq e,yzj,Nat.add_mul];show 1+e.value.size+(e.name.length+1)+(((e.args.map (z8o nm v)).map zz1.size).sum+1)+1<=_;omega
theorem zq4{nm:B8}{v:zz0}{e:zz1}(hv:yz5 v=0)(hp:yzc e<=100)(hs:e.size<=1048776):(z8o nm v e).size<=8388608:=by
 have h1:=yog (nm:=nm) (v:=v) e;have h2:=ynl v;have h3:=(zzq hv).2.1;have h4:=(vok hv).2;have h5:yzc e * (z8f v).size<=100 * 10800:=Nat.mul_le_mul hp (by omega);omega
abbrev Cap:=B8×Int×Int×Int×Bool×B8×kz2×TupE
def cap(nm:B8)(v:zz0)(e:zz1):Cap:=(nm,v.kind,v.num.num,v.num.den,v.truth,v.str,v.list,zf7 e)
theorem yfm{nm:B8}{v:zz0}{e:zz1}(hs:v.size<=8388608):Ev (λn=>z7d n e.op e.value.kind e.value.num.num e.value.num.den e.value.truth e.value.str e.value.list e.name nm v.kind v.num.num v.num.den v.truth v.str v.list e.args) (cap nm v (yn4 nm v e)):=by
 have l0:∀b:Bool,(b=true↔e.op=2∧e.name=nm)->Ev (λn=>z1o n b nm v.kind v.num.num v.num.den v.truth v.str v.list (zz1.mk 0 (zz0.mk 0 (yz1.mk 0 0) false [] []) [] []) e.op e.value.kind e.value.num.num e.value.num.den e.value.truth e.value.str e.value.list e.name e.args) (cap nm v (yn4 nm v e)):=λb hb=>by
  rw[zrv,y02];cases b;have:¬(e.op=2∧e.name=nm):=λh=>by have:=hb.2 h;cases this
  rw[Ev.kz1 (by rfl),Ev.yz0];unfold yn4;rw[Qbp this];rfl;rw[Ev.zz2 (by rfl),Ev.kz0 (yeg v hs),Ev.yz0];unfold yn4;rw[Qbo (hb.1 rfl)];rfl
 rw[zy0];by_cases h2:e.op=2;rw[Ev.zz2 (by simpa using h2)];exact l0 _ (by simp[h2]);rw[Ev.kz1 (by simpa using h2)];exact l0 _ (by simp[h2])
theorem y98{nm:B8}{v:zz0}(hv:v.size<=8388608):∀e:zz1,e.size<=8388608->Ev (λn=>z55 n e nm v.kind v.num.num v.num.den v.truth v.str v.list) (cap nm v (z8o nm v e)):=z90 λe ih hs=>by
 have hsz:=z0a e;have hln:=z4v e.args
 have loop:∀k,k<=e.args.length->∀i,i=(e.args.take k).map (z8o nm v)->Ev (λn=>z1f n (k:Int) e.args (e.args.length:Int) nm v.kind v.num.num v.num.den v.truth v.str v.list e.op e.value.kind e.value.num.num e.value.num.den e.value.truth e.value.str e.value.list e.name 0 0 0 0 false [] [] [] i []) (cap nm v (z8o nm v e)) :=
  down (λi hi=>by
   rw[zg5,Ev.kz1 (by simp)];rw[hi,List.take_length];have:=yfm (nm:=nm) (e:=within e (e.args.map (z8o nm v))) hv;simp only[within]at this;rw[Ev.kz0 this,Ev.yz0,yaz]
   rfl) λk hk ihk i hi=>by
   have hm:=Qad hk;rw[zg5,Ev.zz2 (by simpa using hk),Ev.zz3 (zzb hk),zz1.yz2,Ev.kz0 (ih _ hm (by have:=z73 hm;omega))];simp only[cap,zf7];rw[Ev.zz3 (yln (z8o nm v e.args[k]) (by rw[hi];simp;omega)),Ev.zz3 yly,ylz,wrk (by omega)];exact ihk _ (by rw[hi,z8b hk])
 rw[y2t];exact loop 0 (Qbm _) [] rfl
noncomputable def zyk(e:zz1)(nm:B8)(v:zz0):Int×zz1 :=
 if z2r e≠0 then (z2r e,⟨0,v0,[],[]⟩)else if zd2 nm=false∨yz5 v≠0 then (8,⟨0,v0,[],[]⟩)
 else if z2r (z8o nm v e)≠0 then (z2r (z8o nm v e),⟨0,v0,[],[]⟩)else (0,z8o nm v e)
theorem ymf{e:zz1}{nm:B8}{v:zz0}(hw:e.wf)(hs':e.size<=1048776)(hn:nm.length<=8388608)(hvw:v.wf)(hvs:v.size<=8388608):Ev (λn=>za1 n e nm v) ((zyk e nm v).1,zf7 (zyk e nm v).2):=by
 have hs:e.size<=8388608:=by omega
 have l0:∀b:Bool,z2r e=0->(b=false->yz5 v=0)->Ev (λn=>z48 n b (zz1.mk 0 (zz0.mk 0 (yz1.mk 0 0) false [] []) [] []) nm v e) (if b then (8,zf7 ⟨0,v0,[],[]⟩)else if z2r (z8o nm v e)≠0 then (z2r (z8o nm v e),zf7 ⟨0,v0,[],[]⟩)else (0,zf7 (z8o nm v e))):=λb hc hb=>by
  rw[zvn];cases b
  case true=>rw[Ev.zz2 (by rfl),Ev.yz0];rfl
  have hv:=hb rfl;have hf:=ynm (nm:=nm) hv e (z8u hc).1;obtain⟨ow,os⟩:=yfd _ hf;have os:(z8o nm v e).size<=8388608:=zq4 hv (z8u hc).2.1 hs';rw[Ev.kz1 (by rfl)];simp only[zz1.yz2];rw[Ev.kz0 (y98 hvs e hs)];simp only[cap,zf7];rw[y02,ylj,Ev.kz0 (zor ow os)];by_cases h:z2r (z8o nm v e)=0;rw[Ev.kz1 (by simpa using h),Ev.yz0];simp[h];rw[Ev.zz2 (by simpa using h),Ev.yz0];simp[h,v0]
 unfold zyk;rw[y97];simp only[zz1.yz2,zz0.yz2];rw[Ev.kz0 (zor hw hs)];by_cases hc:z2r e=0
 case neg=>rw[Ev.zz2 (by simpa using hc),Ev.yz0,Qbo hc];rfl
 rw[Ev.kz1 (by simpa using hc),Qbp (by simpa using hc),Ev.kz0 (y2p hn)];cases hm:zd2 nm;rw[Ev.zz2 (by rfl),Qbo (.inl rfl)];exact l0 true hc (λh=>by cases h);rw[Ev.kz1 (by rfl),Ev.kz0 (zbd hvw hvs)];by_cases hv:yz5 v=0;rw[Qbp (by simp[hv]),show(yz5 v != 0)=false by simpa using hv];have:=l0 false hc (λ_=>hv);by_cases h:z2r (z8o nm v e)=0;rw[Qbp (by simp[h])];simpa[h]using this
 rw[Qbo h];simpa[h]using this;rw[Qbo (.inr hv),show(yz5 v != 0)=true by simpa using hv];exact l0 true hc (λh=>by cases h)
theorem yqr{α:Type}{a b:List α}(h:¬a.length=b.length):((a.length:Int) != (b.length:Int))=true:=by simp;omega
theorem ypg{α:Type}{a b:List α}(h:a.length=b.length):((a.length:Int) != (b.length:Int))=false:=by simp;omega
theorem ynz{α:Type}{F:Nat->List α->List α->Option Bool}{L:Nat->Int->List α->List α->Int->Option Bool}{S:Nat->α->α->Option Bool}{a b:List α}
  (hF:∀n,F (n+1) a b=pIf ((a.length:Int) != (b.length:Int)) (some false) (L n 0 b a (a.length:Int)))
  (hL:∀n (k:Int),L (n+1) k b a (a.length:Int)=pIf (decide (k<(a.length:Int))) ((ix a k).bind λx0=>(ix b k).bind λx1=>(S n x0 x1).bind λy2=>pIf (!y2) (some false) (L n (IntKind.i64.wrap (k+1)) b a (a.length:Int))) (some true))
  (hb:a.length<=8388608) (hS:∀x∈a,∀y,Ev (λn=>S n x y) (eqB x y)):Ev (λn=>F n a b) (eqB a b):=by
 rw[Ev.zqn hF];by_cases hlen:a.length=b.length
 case neg=>rw[Ev.zz2 (yqr hlen),Ev.yz0,kzh.2 (λh=>hlen (by rw[h]))]
 rw[Ev.kz1 (ypg hlen)]
 have:=ypz (L:=λn k=>L n k b a (a.length:Int)) (fail:=false) (r:=true) hlen
  (by rw[Ev.zqn (λn=>hL n _),Ev.kz1 (by simp),Ev.yz0]) λk hk hk' v hv=>by
   rw[Ev.zqn (λn=>hL n _),Ev.zz2 (by simpa using hk),Ev.zz3 (zzb hk),Ev.zz3 (zzb hk'),Ev.kz0 (hS _ (Qad hk) _)];by_cases he:a[k]=b[k];rw[he,z7r,Ev.kz1 (by rfl),wrk (by omega)];exact hv;rw[kzh.2 he,Ev.zz2 (by rfl),Ev.yz0];rfl
 cases h:eqB a b <;> rw[h]at this <;> exact this
theorem yni:∀a b:zz1,a.size<=8388608->Ev (λn=>z4l n a b) (eqB a b):=z90 (P:=λa=>∀b:zz1,a.size<=8388608->Ev (λn=>z4l n a b) (eqB a b)) λa ih b hs=>by
 have hsz:=z0a a;have hlen:=z4v a.args;rw[yb9];by_cases h1:a.op=b.op
 case neg=>rw[Ev.kz1 (by simpa using h1),Ev.yz0,kzh.2 (λh=>h1 (by rw[h]))]
 rw[Ev.zz2 (by simpa using h1)];by_cases h2:a.name=b.name
 case neg=>rw[Ev.kz1 (by simpa using h2),Ev.yz0,kzh.2 (λh=>h2 (by rw[h]))]
 rw[Ev.zz2 (by simpa using h2),zz0.yz2,zz0.yz2,Ev.kz0 (zjv _ _ (by omega))];by_cases h3:a.value=b.value
 case neg=>rw[kzh.2 h3,Ev.kz1 rfl,Ev.yz0,kzh.2 (λh=>h3 (by rw[h]))]
 rw[h3,z7r,Ev.zz2 rfl,Ev.kz0 (ynz (S:=λn x y=>z4l n x.re y.re) (λn=>yz8.eq_2 _ _ n) (λn k=>zz5.eq_2 _ _ _ _ n) (by omega) λx hx y=>by rw[zz1.yz2,zz1.yz2];exact ih x hx y (by have:=z73 hx;omega)),Ev.yz0];obtain⟨a1,a2,a3,a4⟩:=a;obtain⟨b1,b2,b3,b4⟩:=b;cases h1;cases h2;cases h3;by_cases h:a4=b4;cases h;rw[z7r,z7r];rw[kzh.2 h,kzh.2 (λe=>h (by injection e))]
theorem zfl:∀a b:zz1,a.size<=8388608->Ev (λn=>kzx n a b) (eqB a b):=z90 (P:=λa=>∀b:zz1,a.size<=8388608->Ev (λn=>kzx n a b) (eqB a b)) λa ih b hs=>by
 have hsz:=z0a a;have hlen:=z4v a.args;have bad:a≠b->Ev (λn=>zzz n true b a) (eqB a b):=λh=>by rw[zis,Ev.zz2 rfl,Ev.yz0,kzh.2 h]
 rw[y57,zz1.yz2,zz1.yz2];by_cases h1:a.op=b.op
 case neg=>rw[Ev.zz2 (by simpa using h1)];exact bad λh=>h1 (by rw[h])
 rw[Ev.kz1 (by simpa using h1)];by_cases h2:a.name=b.name
 case neg=>rw[Ev.zz2 (by simpa using h2)];exact bad λh=>h2 (by rw[h])
 rw[Ev.kz1 (by simpa using h2),zz0.yz2,zz0.yz2,Ev.kz0 (zjs _ _ (by omega))];by_cases h3:a.value=b.value
 case neg=>rw[kzh.2 h3,Ev.zz2 (by rfl)];exact bad λh=>h3 (by rw[h])
 rw[h3,z7r,Ev.kz1 (by rfl)];by_cases h4:a.args.length=b.args.length
 case neg=>rw[yqr h4];exact bad λh=>h4 (by rw[h])
 rw[ypg h4,zis,Ev.kz1 rfl,zz1.yz2,zz1.yz2]
 have:=ypz (L:=λn k=>z35 n k b a) (fail:=false) (r:=true) h4
  (by rw[zhy,Ev.kz1 (by simp),Ev.yz0]) λk hk hk' v hv=>by
   rw[zhy,Ev.zz2 (by simpa using hk),Ev.zz3 (zzb hk),Ev.zz3 (zzb hk'),zz1.yz2,zz1.yz2,Ev.kz0 (ih _ (Qad hk) _ (by have:=z73 (Qad hk);omega))];by_cases he:a.args[k]=b.args[k];rw[he,z7r,Ev.kz1 (by rfl),wrk (by omega),zz1.yz2,zz1.yz2];exact hv;rw[kzh.2 he,Ev.zz2 (by rfl),Ev.yz0];rfl
 have e:(if eqB a.args b.args=true then true else false)=eqB a b:=by
  obtain⟨a1,a2,a3,a4⟩:=a;obtain⟨b1,b2,b3,b4⟩:=b;cases h1;cases h2;cases h3;by_cases h:a4=b4;cases h;rw[z7r,z7r];rfl;rw[kzh.2 h,kzh.2 (λe=>h (by injection e))];rfl
 rw[<-e];exact this
theorem zid(e:zz1):zz1.mk e.op (zz0.mk e.value.kind (yz1.mk e.value.num.num e.value.num.den) e.value.truth e.value.str e.value.list) e.name e.args=e:=by
 cases e with|mk o v n a=>cases v;rfl
theorem yjr:∀e:zz1,e.size<=8388608->Ev (λn=>z69 n e) e:=z90 λe ih hs=>by
 have hsl:=z0a e;have hlen:=z4v e.args;have hve:e.value.size<=e.size:=by rw[zz1.size_eq];omega
 have loop:∀k,k<=e.args.length->∀b1 b2 b3 b4 b5 b6 b7 b8 b9,Ev (λn=>z3c n (k:Int) e.op e.value.kind e.value.num.num e.value.num.den e.value.truth e.value.str e.value.list e.name e b1 b2 b3 b4 b5 b6 b7 b8 (e.args.take k) b9) e :=
  down (λb1 b2 b3 b4 b5 b6 b7 b8 b9=>by
   rw[zj0,Ev.kz1 (by simp),List.take_length,zid,Ev.yz0]) λk hk ihk b1 b2 b3 b4 b5 b6 b7 b8 b9=>by
   have hx:=Qad hk;have hsx:=z73 hx;rw[zj0,Ev.zz2 (by simpa using hk),Ev.zz3 (zzb hk),zz1.yz2,Ev.kz0 (ih _ hx (by omega)),zz1.yz2,Ev.zz3 (z9v (by simp only[Qax,List.length_cons,List.length_nil];omega)),wrk (by omega),zz1.yz2,z3p hk];exact ihk _ _ _ _ _ _ _ _ _
 rw[y5g,zz0.yz2,Ev.kz0 (zpp e.value (by omega)),zz1.yz2];exact loop 0 (Qbm _) _ _ _ _ _ _ _ _ _
theorem yfq{e:zz1}(hs:e.value.size<=8388608):Ev (λn=>z3w n e.op e.value.kind e.value.num.num e.value.num.den e.value.truth e.value.str e.value.list e.name e.args) (zf7 e):=by
 rw[zqj,y02,Ev.kz0 (zou hs),Ev.yz0];rfl
theorem y8v:∀e:zz1,e.size<=8388608->Ev (λn=>z1j n e) (zf7 e):=z90 λe ih hs=>by
 have hsz:=z0a e;have hln:=z4v e.args;have hve:e.value.size<=e.size:=by rw[zz1.size_eq];omega
 have loop:∀k,k<=e.args.length->∀i,i=e.args.take k->Ev (λn=>yzw n (k:Int) e.args (e.args.length:Int) e.op e.value.kind e.value.num.num e.value.num.den e.value.truth e.value.str e.value.list e.name 0 0 0 0 false [] [] [] i []) (zf7 e) :=
  down (λi hi=>by
   rw[zdy,Ev.kz1 (by simp)]
   rw[hi,List.take_length,Ev.kz0 (yfq (by omega)),Ev.yz0]) λk hk ihk i hi=>by
   have hm:=Qad hk;rw[zdy,Ev.zz2 (by simpa using hk),Ev.zz3 (zzb hk),zz1.yz2,Ev.kz0 (ih _ hm (by have:=z73 hm;omega))];simp only[zf7];rw[Ev.zz3 (yln (e.args[k]) (by rw[hi];simp;omega)),Ev.zz3 yly,ylz,wrk (by omega)];exact ihk _ (by rw[hi,z3p hk])
 rw[zrr];exact loop 0 (Qbm _) [] rfl
theorem yoc{e:zz1}(hs:e.size<=8388608):Ev (λn=>z9n n e) (zf7 e):=by
 rw[y9x,zz1.yz2,Ev.kz0 (y8v e hs),Ev.yz0]
theorem y8k:∀v:zz0,v.size<=8388608->Ev (λn=>z67 n v) (z8f v):=zeu λv ih hs=>by
 have hsl:=zzc v;have hlen:=kzw v.list;rw[ydw];by_cases hk:v.kind=4
 case neg=>rw[Ev.zz2 (by simpa using hk),Ev.yz0,zz0.yz2,zp4 hk]
 rw[Ev.kz1 (by simpa using hk),zpu hk]
 have loop:∀k,k<=v.list.length->Ev (λn=>z4g n (k:Int) 18 0 0 0 false [] [] [] v 0 0 0 0 false [] [] [] ((v.list.take k).map z8f) []) ⟨18,v0,[],v.list.map z8f⟩ :=
  down (by rw[zkh,Ev.kz1 (by simp),Ev.yz0,List.take_length];rfl) λk hk ihk=>by
   have hm:=Qad hk;have hx:=z5h hm;rw[zkh,Ev.zz2 (by simpa using hk),Ev.zz3 (zzb hk),zz0.yz2,Ev.kz0 (ih _ hm (by omega)),zz1.yz2,Ev.zz3 (z9v (by simp;omega)),wrk (by omega),z8b hk,zz0.yz2];exact ihk
 simp only[zz0.yz2];exact loop 0 (Qbm _)
theorem ycn{nm:B8}{v:zz0}(hv:v.size<=8388608):∀e:zz1,e.size<=8388608->Ev (λn=>z3y n e nm v) (z8o nm v e):=z90 λe ih hs=>by
 have hsz:=z0a e;have hln:=z4v e.args
 have l1 (h:¬(e.op=2∧e.name=nm)):∀k,k<=e.args.length->Ev (λn=>z0s n (k:Int) nm e.op e.value.kind e.value.num.num e.value.num.den e.value.truth e.value.str e.value.list e.name v e 0 0 0 0 false [] [] [] ((e.args.take k).map (z8o nm v)) []) (z8o nm v e) :=
  down (by
   rw[zfk,Ev.kz1 (by simp),Ev.yz0,List.take_length,y02,ztu h];rfl) λk hk ihk=>by
   have hm:=Qad hk;rw[zfk,Ev.zz2 (by simpa using hk),Ev.zz3 (zzb hk),zz1.yz2,zz0.yz2,Ev.kz0 (ih _ hm (by have:=z73 hm;omega)),zz1.yz2,Ev.zz3 (z9v (by simp;omega)),wrk (by omega),z8b hk,zz1.yz2];exact ihk
 have l0:∀b:Bool,(b=true↔e.op=2∧e.name=nm)->Ev (λn=>z0q n nm b 0 0 0 0 false [] [] [] v e []) (z8o nm v e):=λb hb=>by
  rw[zpj];cases b;have h:¬(e.op=2∧e.name=nm):=λh=>by have:=hb.2 h;cases this
  rw[Ev.kz1 (by rfl)];simp only[zz0.yz2,zz1.yz2];exact l1 h 0 (Qbm _);rw[Ev.zz2 (by rfl),zz0.yz2,Ev.kz0 (y8k v hv),Ev.yz0,zz1.yz2,zya (hb.1 rfl)]
 rw[zwy,zz0.yz2,zz1.yz2];by_cases h2:e.op=2;rw[Ev.zz2 (by simpa using h2)];exact l0 _ (by simp[h2]);rw[Ev.kz1 (by simpa using h2)];exact l0 _ (by simp[h2])
theorem yjh{e:zz1}{nm:B8}{v:zz0}(hs':e.size<=1048776)(hn:nm.length<=8388608)(hvs:v.size<=8388608):Ev (λn=>z8c n e nm v) (zyk e nm v):=by
 have hs:e.size<=8388608:=by omega
 have l0:∀b:Bool,z2r e=0->(b=false->yz5 v=0)->Ev (λn=>z32 n nm b (zz1.mk 0 (zz0.mk 0 (yz1.mk 0 0) false [] []) [] []) v e) (if b then (8,⟨0,v0,[],[]⟩)else if z2r (z8o nm v e)≠0 then (z2r (z8o nm v e),⟨0,v0,[],[]⟩)else (0,z8o nm v e)):=λb hc hb=>by
  rw[zso];cases b
  case true=>rw[Ev.zz2 (by rfl),Ev.yz0];rfl
  have hv:=hb rfl;have os:(z8o nm v e).size<=8388608:=zq4 hv (z8u hc).2.1 hs';rw[Ev.kz1 (by rfl)];simp only[zz1.yz2,zz0.yz2];rw[Ev.kz0 (ycn hvs e hs),Ev.kz0 (zbi os)];by_cases h:z2r (z8o nm v e)=0;rw[Ev.kz1 (by simpa using h),Ev.yz0];simp[h];rw[Ev.zz2 (by simpa using h),Ev.kz0 (zbi os),Ev.yz0];simp[h,v0]
 unfold zyk;rw[y5k];simp only[zz1.yz2,zz0.yz2];rw[Ev.kz0 (zbi hs)];by_cases hc:z2r e=0
 case neg=>rw[Ev.zz2 (by simpa using hc),Ev.kz0 (zbi hs),Ev.yz0,Qbo hc];rfl
 rw[Ev.kz1 (by simpa using hc),Qbp (by simpa using hc),Ev.kz0 (zv2 hn)];cases hm:zd2 nm;rw[Ev.zz2 (by rfl),Qbo (.inl rfl)];exact l0 true hc (λh=>by cases h);rw[Ev.kz1 (by rfl),Ev.kz0 (z7j hvs)];by_cases hv:yz5 v=0;rw[Qbp (by simp[hv]),show(yz5 v != 0)=false by simpa using hv];exact l0 false hc (λ_=>hv);rw[Qbo (.inr hv),show(yz5 v != 0)=true by simpa using hv];exact l0 true hc (λh=>by cases h)
noncomputable def zxz(e:zz1):Int×zz1:=if z2r e≠0 then (z2r e,⟨0,v0,[],[]⟩)else (0,z61 e)
theorem y7l(e:zz1):zhl e []=[]↔z1p e []=[]:=by
 have h:(zhl e []).length=(z1p e []).length:=by rw[<-yf0];exact(zpn _).length_eq
 rw[<-List.length_eq_zero_iff,<-List.length_eq_zero_iff,h]
theorem y6o{e:zz1}(hf:z0f e=true)(hp:yzc e<=100)(b:Bool)(hb:b=true↔e.op=12∧(e.args.getD 0 e).op=1∧(e.args.getD 0 e).value.kind=2) :
  ∀a1 a2 a3 a4 a5 a6 a7 a8 a17,Ev (λn=>kzv n b a1 a2 a3 a4 a5 a6 a7 a8 e.op e.value.kind e.value.num.num e.value.num.den e.value.truth e.value.str e.value.list e.name a17 e.args) (z8h e):=λa1 a2 a3 a4 a5 a6 a7 a8 a17=>by
 rw[zpb,zid];cases b
 case true=>
  obtain⟨h12,h1,hk⟩:=hb.1 rfl;obtain⟨c,a,b,hl⟩:=zxb hf h12
  have hfo:z8h e=if c.value.truth then a else b:=by
   unfold z8h;rw[Qbo ⟨h12,h1,hk⟩,hl];rfl
  rw[Ev.zz2 (by rfl),hl,Ev.zz3 (show ix [c,a,b] 0=some c from rfl),hfo];cases ht:c.value.truth;rw[Ev.kz1 (by rfl),Ev.zz3 (show ix [c,a,b] 2=some b from rfl),Ev.yz0,zz1.yz2];rfl;rw[Ev.zz2 (by rfl),Ev.zz3 (show ix [c,a,b] 1=some a from rfl),Ev.yz0,zz1.yz2];rfl
 case false=>
  have hno:¬(e.op=12∧(e.args.getD 0 e).op=1∧(e.args.getD 0 e).value.kind=2):=λh=>by have:=hb.2 h;cases this
  have hfo:z8h e=if z1p e []≠[]then e else if (eev [] e).1=0 then z8f (eev [] e).2 else e:=by unfold z8h;exact Qbp hno
  have l2:∀b1 b2 b3 b4 b5 b6 b7 b8 b9,Ev (λn=>z0n n b1 b2 b3 b4 b5 b6 b7 b8 e b9) e:=λb1 b2 b3 b4 b5 b6 b7 b8 b9=>by
   rw[zp8,Ev.yz0,zz1.yz2]
  rw[Ev.kz1 (by rfl),Ev.kz0 (yj8 e [] (by simp;omega)),hfo];by_cases hn:z1p e []=[];rw[Qbp (by simpa using hn),(y7l e).2 hn,Ev.zz2 (by rfl),Ev.kz0 (yi7 zxk e hf hp)];by_cases hz:(eev [] e).1=0;have hv:=zov hf hz;have:=(vok hv).2;rw[Ev.zz2 (by simpa using hz),zz0.yz2,Ev.kz0 (y8k (eev [] e).2 (by omega)),Ev.yz0,zz1.yz2,Qbo hz];rw[Ev.kz1 (by simpa using hz),Qbp hz];exact l2 _ _ _ _ _ _ _ _ _
  have hl:¬zhl e []=[]:=λh=>hn ((y7l e).1 h)
  rw[Qbo hn,Ev.kz1 (by simpa using hl)];exact l2 _ _ _ _ _ _ _ _ _
theorem yai:∀e:zz1,z0f e=true->yzc e<=100->Ev (λn=>z42 n e) (z61 e):=z90 λe ih hf hp=>by
 have hpe:=yzj e;have hln:=z8v e.args;have hw:=zuc e (f:=z61) hf λx hx=>zy5 x (z2z hf x hx)
 have loop:∀k,k<=e.args.length->Ev (λn=>z0p n (k:Int) e.op e.value.kind e.value.num.num e.value.num.den e.value.truth e.value.str e.value.list e.name e 0 0 0 0 false [] [] [] ((e.args.take k).map z61) []) (z61 e) :=
  down (by
   have l1:=λb hb=>y6o (e:=within e (e.args.map z61)) hw.1 (by omega) b hb
   rw[zfo,Ev.kz1 (by simp),List.take_length,zym];simp only[within]at l1 ⊢;by_cases h12:e.op=12;obtain⟨c,a,b,hl⟩:=zxb hw.1 (show(within e (e.args.map z61)).op=12 from h12);replace hl:e.args.map z61=[c,a,b]:=hl;have i0:ix (e.args.map z61) 0=some c:=by rw[hl];rfl
   have g0:∀d,(e.args.map z61).getD 0 d=c:=λd=>by rw[hl];rfl
   rw[Ev.zz2 (by simpa using h12),Ev.zz3 i0];by_cases h1:c.op=1;rw[Ev.zz2 (by simpa using h1),Ev.zz3 i0];exact l1 (c.value.kind==2) (by rw[g0];simp[h12,h1]) _ _ _ _ _ _ _ _ _;rw[Ev.kz1 (by simpa using h1)];exact l1 false (by rw[g0];simp[h1]) _ _ _ _ _ _ _ _ _;rw[Ev.kz1 (by simpa using h12)]
   exact l1 false (by simp[h12]) _ _ _ _ _ _ _ _ _) λk hk ihk=>by
   have hm:=Qad hk;have hx:=zg9 hm;rw[zfo,Ev.zz2 (by simpa using hk),Ev.zz3 (zzb hk),zz1.yz2,Ev.kz0 (ih _ hm (z2z hf _ hm) (by omega)),zz1.yz2,Ev.zz3 (z9v (by simp;omega)),wrk (by omega),z8b hk,zz1.yz2];exact ihk
 rw[zw4,zz1.yz2];exact loop 0 (Qbm _)
theorem yiw{e:zz1}(hs:e.size<=8388608):Ev (λn=>z83 n e) (zxz e):=by
 unfold zxz;rw[y3r];simp only[zz1.yz2];rw[Ev.kz0 (zbi hs)];by_cases hc:z2r e=0;obtain⟨h1,h2,_⟩:=z8u hc;rw[Ev.kz1 (by simpa using hc),Qbp (by simpa using hc),Ev.kz0 (yai e h1 h2),Ev.yz0];rw[Ev.zz2 (by simpa using hc),Ev.kz0 (zbi hs),Ev.yz0,Qbo hc];rfl
theorem ymq{e:zz1}(hf:z0f e=true)(hp:yzc e<=100):Ev (λn=>z5v n e.op e.value.kind e.value.num.num e.value.num.den e.value.truth e.value.str e.value.list e.name e.args) (zf7 (z8h e)):=by
 have rest:Ev (λn=>kzu n false (zz1.mk 0 (zz0.mk 0 (yz1.mk 0 0) false [] []) [] []) e.op e.value.kind e.value.num.num e.value.num.den e.value.truth e.value.str e.value.list e.name e.args) (zf7 (if z1p e []≠[]then e else if (eev [] e).1=0 then z8f (eev [] e).2 else e)):=by
  rw[zfv,Ev.kz1 (by rfl),Ev.kz0 (yjp e [] (by simp;omega))];by_cases hn:z1p e []=[];rw[Qbp (by simpa using hn),hn,Ev.kz1 (by simp),zid,Ev.kz0 (zum zxk hf hp)];by_cases hz:(eev [] e).1=0;have hv:=zov hf hz;have:=(vok hv).2
  have fin:Ev (λn=>(z4m n (eev [] e).2).bind λy=>some (y.1,y.2.1,y.2.2.1,y.2.2.2.1,y.2.2.2.2.1,y.2.2.2.2.2.1,y.2.2.2.2.2.2.1,y.2.2.2.2.2.2.2.1,y.2.2.2.2.2.2.2.2)) (zf7 (z8f (eev [] e).2)):=by
   rw[Ev.kz0 (yeg (eev [] e).2 (by omega)),Ev.yz0]
  rw[Qbo hz];by_cases hl:((eev [] e).2.list.length:Int)<=0;rw[Ev.zz2 (by simpa using hl),Ev.zz2 (by simpa using hz),zz0.yz2];exact fin;rw[Ev.kz1 (by simpa using hl),Ev.kz0 (zum zxk hf hp),Ev.zz2 (by simpa using hz),zz0.yz2];exact fin;have h0:(eev [] e).2=v0:=ylk e hz;rw[Qbp hz,h0,Ev.zz2 (by rfl),Ev.kz1 (by simpa using hz),Ev.yz0];rfl;have hl:0<(z1p e []).length:=List.length_pos_iff.2 hn
  rw[Qbo hn,Ev.zz2 (by simpa using hl),Ev.yz0];rfl
 have hno:¬(e.op=12∧(e.args.getD 0 e).op=1∧(e.args.getD 0 e).value.kind=2)->z8h e=if z1p e []≠[]then e else if (eev [] e).1=0 then z8f (eev [] e).2 else e:=λh=>by
  unfold z8h;exact Qbp h
 rw[zx6];by_cases h12:e.op=12;obtain⟨c,a,b,hl⟩:=zxb hf h12;rw[Ev.zz2 (by simpa using h12)];have i0:ix e.args 0=some c:=by rw[hl];rfl
 have i1:ix e.args 1=some a:=by rw[hl];rfl
 have i2:ix e.args 2=some b:=by rw[hl];rfl
 rw[Ev.zz3 i0,Ev.zz3 i0];by_cases h1:c.op=1;rw[Ev.zz2 (by simpa using h1),Ev.zz3 i0,Ev.zz3 i0];by_cases hk:c.value.kind=2;rw[show(c.value.kind==2)=true by simpa using hk,zfv,Ev.zz2 (by rfl),Ev.zz3 i0,Ev.zz3 i0]
 have hfo:z8h e=if c.value.truth then a else b:=by
  unfold z8h;rw[hl,Qbo ⟨h12,h1,hk⟩];rfl
 rw[hfo];cases ht:c.value.truth;rw[Ev.kz1 (by rfl),Ev.zz3 i2,Ev.zz3 i2,Ev.zz3 i2,Ev.yz0];rfl;rw[Ev.zz2 (by rfl),Ev.zz3 i1,Ev.zz3 i1,Ev.zz3 i1,Ev.yz0];rfl;rw[show(c.value.kind==2)=false by simpa using hk,hno λh=>hk (by have:=h.2.2;rw[hl]at this;exact this)];exact rest;rw[Ev.kz1 (by simpa using h1),hno λh=>h1 (by have:=h.2.1;rw[hl]at this;exact this)];exact rest
 rw[Ev.kz1 (by simpa using h12),hno λh=>h12 h.1];exact rest
theorem ycm:∀e:zz1,z0f e=true->yzc e<=100->Ev (λn=>z1d n e) (zf7 (z61 e)):=z90 λe ih hf hp=>by
 have hpe:=yzj e;have hln:=z8v e.args;have hw:=zuc e (f:=z61) hf λx hx=>zy5 x (z2z hf x hx)
 have loop:∀k,k<=e.args.length->∀i,i=(e.args.take k).map z61->Ev (λn=>zzw n (k:Int) e.args (e.args.length:Int) e.op e.value.kind e.value.num.num e.value.num.den e.value.truth e.value.str e.value.list e.name 0 0 0 0 false [] [] [] i []) (zf7 (z61 e)) :=
  down (λi hi=>by
   rw[zdp,Ev.kz1 (by simp)];rw[hi,List.take_length];have:=ymq (e:=within e (e.args.map z61)) hw.1 (by omega);simp only[within]at this;rw[Ev.kz0 this,Ev.yz0,zym]
   rfl) λk hk ihk i hi=>by
   have hm:=Qad hk;have hx:=zg9 hm;rw[zdp,Ev.zz2 (by simpa using hk),Ev.zz3 (zzb hk),zz1.yz2,Ev.kz0 (ih _ hm (z2z hf _ hm) (by omega))];simp only[zf7];rw[Ev.zz3 (yln (z61 e.args[k]) (by rw[hi];simp;omega)),Ev.zz3 yly,ylz,wrk (by omega)];exact ihk _ (by rw[hi,z8b hk])
 rw[zr9];exact loop 0 (Qbm _) [] rfl
theorem ym3{e:zz1}(hw:e.wf)(hs:e.size<=8388608):Ev (λn=>za0 n e) ((zxz e).1,zf7 (zxz e).2):=by
 unfold zxz;rw[ydx];simp only[zz1.yz2];rw[Ev.kz0 (zor hw hs)];by_cases hc:z2r e=0;obtain⟨h1,h2,_⟩:=z8u hc;rw[Ev.kz1 (by simpa using hc),Qbp (by simpa using hc),Ev.kz0 (ycm e h1 h2),Ev.yz0];rw[Ev.zz2 (by simpa using hc),Ev.yz0,Qbo hc];rfl
theorem yig:∀e:zz1,e.size<=8388608->∃r,Ev (λn=>zzf n e.args) r:=z90 λe ih hs=>by
 have hsz:=z0a e;have hln:=z4v e.args
 have loop:∀k,k<=e.args.length->∀l:yz3,l.length=e.args.length->(∀j x,k<=j->l[j]? = some x->x∈e.args)->∃r,Ev (λn=>zzh n (k:Int) l) r :=
  down (λl hl _=>⟨l,by rw[zat,Ev.kz1 (by simp[hl]),Ev.yz0]⟩) λk hk ihk l hl hx=>by
   have hk':k<l.length:=by omega
   have hm:l[k]∈e.args:=hx k _ (Qbn _) (Qab hk');obtain⟨r1,h1⟩:=ih _ hm (by have:=z73 hm;omega)
   obtain⟨r,h⟩:=ihk ((l.set k (zz1.mk l[k].op l[k].value.re l[k].name r1)).set k (zz1.mk 77 (zz0.mk 0 (yz1.mk 0 0) false [] []) [] [])) (by simp[hl]) (λj x hj h=>by
    rw[Qam (by omega),Qam (by omega)]at h
    exact hx j x (by omega) h)
   refine⟨r,?_⟩;rw[zat,Ev.zz2 (by simpa using hk'),Ev.zz3 (zzb hk'),Ev.zz3 (zzb hk'),Ev.zz3 (zzb hk'),Ev.kz0 h1,Ev.zz3 (zzb hk'),Ev.zz3 (zzb hk'),Int.toNat_natCast,Ev.zz3 (zzb (by simpa using hk')),wrk (by omega)];exact h
 obtain⟨r,h⟩:=loop 0 (Qbm _) e.args rfl λj x _ h=>Qaw h
 exact⟨r,by rw[zkq];exact h⟩
theorem yiv{e:zz1}{nm:B8}{v:zz0}(hs:e.size<=1048776):(zyk e nm v).2.size<=8388608:=by
 have z:(⟨0,v0,[],[]⟩:zz1).size<=8388608:=by rw[zz1.size_eq,zz0.size_eq,yz1.size_eq];simp[v0]
 unfold zyk;split;exact z;split;exact z;split;exact z;rename_i h1 h2 h3;have h1:z2r e=0:=by simpa using h1
 have h2:yz5 v=0:=by
  have:¬yz5 v≠0:=λh=>h2 (.inr h)
  simpa using this
 exact zq4 h2 (z8u h1).2.1 hs
theorem yjt{e:zz1}:(zxz e).2.size<=8388608:=by
 unfold zxz;split;show(⟨0,v0,[],[]⟩:zz1).size<=8388608;rw[zz1.size_eq,zz0.size_eq,yz1.size_eq];simp[v0];rename_i h1;have h1:z2r e=0:=by simpa using h1
 obtain⟨hf,hp,_⟩:=z8u h1;obtain⟨a1,a2,_⟩:=zy5 e hf;have:=(yfd _ a1).2;show(z61 e).size<=8388608;have:7000 * yzc (z61 e)<=7000 * 100:=Nat.mul_le_mul (Qbn _) (by omega);omega
theorem y5h(e o:zz1)(nm:B8)(v:zz0)(hw:e.wf)(how:o.wf)(hvw:v.wf)(hs:e.size+o.size+nm.length+v.size<=1048576):∃n,yzd n e o nm v=some true:=by
 refine Ev.get (r:=true) ?_;have se:e.size<=8388608:=by omega
 have lt:Ev (λn=>kz4 n nm true e o v) true:=by rw[z77,Ev.zz2 (by rfl),Ev.yz0]
 have lf:Ev (λn=>kz4 n nm false e o v) true:=by
  have sb:=yiv (e:=e) (nm:=nm) (v:=v) (by omega);have sf:=yjt (e:=e);obtain⟨r1,s1⟩:=yig _ sb;obtain⟨r2,s2⟩:=yig _ sf;obtain⟨r3,s3⟩:=yig e se;rw[z77,Ev.kz1 (by rfl)];simp only[zz1.yz2,zz0.yz2];rw[Ev.kz0 (yjr e se),Ev.kz0 (ymf hw (by omega) (by omega) hvw (by omega)),Ev.kz0 (yjh (by omega) (by omega) (by omega)),Ev.kz0 (ym3 hw se),Ev.kz0 (yiw se),Ev.kz0 (yoc se)];simp only[zf7]
  rw[zid,zid,zid,Ev.kz0 (zfl _ _ sb),z7r,Ev.kz1 (by rfl),Ev.kz1 (by simp),Ev.kz0 (zfl _ _ sf),z7r,Ev.kz1 (by rfl),Ev.kz1 (by simp),Ev.kz0 (yni e o se),Ev.kz0 (zfl e o se),Ev.kz1 (by simp),Ev.kz0 (zfl e e se),z7r,zd7,Ev.kz1 (by rfl),Ev.kz0 s1,Ev.kz0 s2,Ev.kz0 s3];simp only[zz1.yz2];rw[Ev.kz0 (zfl e e se),z7r,Ev.yz0]
 have both:∀b,Ev (λn=>kz4 n nm b e o v) true:=λb=>by cases b <;> assumption
 obtain⟨b1,g1⟩:=zun (e:=e) se;obtain⟨b2,g2⟩:=zun (e:=o) (by omega);obtain⟨b3,g3⟩:=zv8 (v:=v) (by omega);rw[zep];simp only[zz1.yz2,zz0.yz2];rw[Ev.kz0 g1];cases b1;rw[Ev.kz1 (by rfl),Ev.kz0 g2];cases b2;rw[Ev.kz1 (by rfl),Ev.pif];split;exact both _;rw[Ev.kz0 g3];exact both _;rw[Ev.zz2 (by rfl)];exact both _;rw[Ev.zz2 (by rfl)];exact both _
end Go.Proofs.YtcaehabdaleamaaGreat
