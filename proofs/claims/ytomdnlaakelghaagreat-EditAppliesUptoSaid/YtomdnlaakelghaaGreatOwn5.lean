/-
  ONE EDIT.
-/
import Derived.Test.YtomdnlaakelghaaGreatOwn4
namespace Go.Proofs.YtomdnlaakelghaaGreat
open Go Go.Ab
set_option linter.unusedVariables false
set_option linter.unusedSimpArgs false
noncomputable def zlw (p:zz0) (e:yz6):Int×zz0 :=
 if e.kind=1 then (if atI (yz8 p) e.rule_.name<0 then (0,⟨p.attrs,p.rules++[e.rule_]⟩) else (14,p))
 else if e.kind=2 then (if atI (yz8 p) e.name<0 then (6,p) else (0,⟨p.attrs,p.rules.take (atI (yz8 p) e.name).toNat++p.rules.drop ((atI (yz8 p) e.name).toNat+1)⟩))
 else if e.kind=3 then (if atI (yz8 p) e.rule_.name<0 then (6,p) else (0,⟨p.attrs,p.rules.set (atI (yz8 p) e.rule_.name).toNat e.rule_⟩))
 else if e.kind=4 then (if atI (yz8 p) e.name<0 then (6,p) else if atI (yz8 p) e.to_<0 then (0,y5g e.name e.to_ p) else (14,p))
 else (if atI (kzf p) e.name<0 then (6,p) else (0,⟨p.attrs.set (atI (kzf p) e.name).toNat ⟨e.name,e.value⟩,p.rules⟩))
theorem yv8 {α γ:Type} {L:Nat->Int->Option γ} {xs:List α} {nm:α->List UInt8} {s:List UInt8} {out:Int->γ}
  (he:Ev (λn=>L n (xs.length:Int)) (out (-1))) (hy:∀k (h:k<xs.length),nm xs[k]=s->Ev (λn=>L n (k:Int)) (out (k:Int)))
  (hn:∀k (h:k<xs.length) v,nm xs[k]≠s->Ev (λn=>L n ((k+1:Nat):Int)) v->Ev (λn=>L n (k:Int)) v):Ev (λn=>L n 0) (out (atI (xs.map nm) s)):=by
 by_cases h:s∈xs.map nm
 ·obtain ⟨i,hi,h1,h2,h3⟩:=zu0 h;have hi':i<xs.length:=by simpa using hi
  rw [h1];exact down (len:=i) (Q:=λk=>Ev (λn=>L n (k:Int)) (out (i:Int))) (hy i hi' (by simpa using h2)) (λk hk ih=>hn k (by omega) _ (by simpa using h3 k hk) ih) 0 (Qbr _)
 ·have h1:atI (xs.map nm) s = -1:=by
   have:=zui.2 h;have:=@z01m (xs.map nm) s;omega
  rw [h1];exact down (len:=xs.length) (Q:=λk=>Ev (λn=>L n (k:Int)) (out (-1))) he (λk hk ih=>hn k hk _ (λq=>h (Qbf.2 ⟨_,Qad hk,q⟩)) ih) 0 (Qbr _)
theorem y2c {α:Type} {xs:List α} {nm:α->List UInt8} {s:List UInt8} (h:¬atI (xs.map nm) s<0):∃i:Nat,∃hi:i<xs.length,atI (xs.map nm) s=(i:Int)∧nm xs[i]=s:=by
 have h:s∈xs.map nm:=Classical.byContradiction λq=>h (zui.2 q)
 obtain ⟨i,hi,h1,h2,h3⟩:=zu0 h;exact ⟨i,by simpa using hi,h1,by simpa using h2⟩
theorem yxs {l:List yz3} {s:List UInt8} (hb:l.length<=8388608):Ev (λn=>yzf n l s) (atI (l.map (·.name)) s,s):=by
 have h1:∀r:yz3,Ev (λn=>zb9 n r s) (r.name==s,s):=λr=>by rw [ybg,Ev.yz0]
 rw [zer];refine yv8 (L:=λn k=>yza n k l (l.length:Int) s) (nm:=λr:yz3=>r.name) (out:=λi=>(i,s)) ?_ (λk hk h => ?_) λk hk v h hv => ?_
 ·rw [z0n,Ev.zz2 (by simp),Ev.yz0]
 ·rw [z0n,Ev.yz2 (by simpa using hk),Ev.zz1 (zz6 hk),Ev.kz0 (h1 _),Ev.yz2 (by simpa using h),Ev.yz0]
 ·rw [z0n,Ev.yz2 (by simpa using hk),Ev.zz1 (zz6 hk),Ev.kz0 (h1 _),Ev.zz2 (by simpa using h),wrk (by omega)];exact hv
theorem yxj {l:List yz5} {s:List UInt8} (hb:l.length<=8388608):Ev (λn=>zzf n s l) (atI (l.map (·.name)) s,s,l):=by
 have h1:∀r:yz5,Ev (λn=>zbf n r s) (r.name==s,s):=λr=>by rw [yav,Ev.yz0]
 rw [zek];refine yv8 (L:=λn k=>zza n k (l.length:Int) s l) (nm:=λr:yz5=>r.name) (out:=λi=>(i,s,l)) ?_ (λk hk h => ?_) λk hk v h hv => ?_
 ·rw [z0o,Ev.zz2 (by simp),Ev.yz0]
 ·rw [z0o,Ev.yz2 (by simpa using hk),Ev.zz1 (zz6 hk),yz5.zz4,Ev.kz0 (h1 _),Ev.yz2 (by simpa using h),Ev.yz0]
 ·rw [z0o,Ev.yz2 (by simpa using hk),Ev.zz1 (zz6 hk),yz5.zz4,Ev.kz0 (h1 _),Ev.zz2 (by simpa using h),wrk (by omega)];exact hv
theorem yw8 {p:zz0} {s:List UInt8} (hb:p.rules.length<=8388608):Ev (λn=>z9u n p s) (atI (yz8 p) s):=by
 rw [ymz,Ev.kz0 (yxs hb),Ev.yz0];rfl
theorem z04q {α:Type} {l:List α} {k:Nat} (h:k<=l.length):sub l 0 (k:Int)=some (l.take k):=by
 unfold sub;rw [Qbt (by omega)];simp
theorem z00d {α:Type} {l:List α} {k:Nat} (h:k<=l.length):sub l (k:Int) (l.length:Int)=some (l.drop k):=by
 unfold sub;rw [Qbt (by omega)];simp
section
variable {p : zz0} {e : yz6} (hs : p.sz + e.size ≤ 1048575)
include hs
theorem yss:Ev (λn=>zd3 n p e) (zlw p e):=by
 have hp:=@zhq p;have ha:=@zl5 p;have he:=e.size_eq;have hr:=yz3.zq4 e.rule_;have l0:∀x a r y,Ev (λn=>z0i n x a r y) (0,⟨a,r⟩):=λx a r y=>by rw [y1k,Ev.yz0]
 have at_:∀s,Ev (λn=>z0k n (yz8 p) s) (atI (yz8 p) s):=λs=>zpz (by rw [yz8,List.length_map];omega)
 rw [yc4,Ev.kz0 (zvv (by omega)),Ev.kz0 (znb (by omega))];unfold zlw;by_cases k1:e.kind=1
 ·rw [Ev.yz2 (by simpa using k1),Ev.kz0 (at_ _),Qbt k1];by_cases h:atI (yz8 p) e.rule_.name<0
  ·rw [Ev.zz2 (by simp;omega),Qbt h,Ev.kz0 (zhu (by omega)),Ev.zz1 (zab (by simp;omega)),Ev.zz1 (zll _ _)];dsimp only;rw [zhw];exact l0 _ _ _ _
  ·rw [Ev.yz2 (by simp;omega),Qbu h,Ev.yz0]
 rw [Ev.zz2 (by simpa using k1),Qbu k1];by_cases k2:e.kind=2
 ·rw [Ev.yz2 (by simpa using k2),Ev.kz0 (at_ _),Qbt k2];by_cases h:atI (yz8 p) e.name<0
  ·rw [Ev.yz2 (by simpa using h),Qbt h,Ev.yz0]
  ·obtain ⟨i,hi,h1,h2⟩:=y2c h;have h1:atI (yz8 p) e.name=(i:Int):=h1;rw [Ev.zz2 (by simpa using h),Qbu h,h1,wrk (by omega)];dsimp only;rw [Ev.zz1 (z04q (by omega)),Ev.zz1 (z00d (by omega)),Ev.zz1 (zab (by rw [Qby,Qay];omega)),List.nil_append,Ev.zz1 (zab (by rw [Qay,List.length_drop];omega)),Qbm];exact l0 _ _ _ _
 rw [Ev.zz2 (by simpa using k2),Qbu k2];by_cases k3:e.kind=3
 ·rw [Ev.yz2 (by simpa using k3),Ev.kz0 (at_ _),Qbt k3];by_cases h:atI (yz8 p) e.rule_.name<0
  ·rw [Ev.yz2 (by simpa using h),Qbt h,Ev.yz0]
  ·obtain ⟨i,hi,h1,h2⟩:=y2c h;have h1:atI (yz8 p) e.rule_.name=(i:Int):=h1;rw [Ev.zz2 (by simpa using h),Qbu h,h1,Ev.kz0 (zhu (by omega)),Ev.zz1 (zz6 hi),Ev.zz1 (zz6 hi),z3n,Ev.zz1 (kzs hi _)];dsimp only;rw [z3n,List.set_set,Qbm];exact l0 _ _ _ _
 rw [Ev.zz2 (by simpa using k3),Qbu k3];by_cases k4:e.kind=4
 ·rw [Ev.yz2 (by simpa using k4),Ev.kz0 (at_ _),Qbt k4];by_cases h:atI (yz8 p) e.name<0
  ·rw [Ev.yz2 (by simpa using h),Qbt h,Ev.yz0]
  ·rw [Ev.zz2 (by simpa using h),Qbu h,Ev.kz0 (at_ _)];by_cases h2:atI (yz8 p) e.to_<0
   ·rw [Ev.zz2 (by simp;omega),Qbt h2];have hR:Ev (λn=>z6t n (zz0.mk p.attrs p.rules) e.name e.to_) (y5g e.name e.to_ p):=ybz (p:=p) (by omega);rw [Ev.kz0 hR];exact l0 _ _ _ _
   ·rw [Ev.yz2 (by simp;omega),Qbu h2,Ev.yz0]
 rw [Ev.zz2 (by simpa using k4),Qbu k4,Ev.kz0 (znl (by omega)),Ev.kz0 (zpz (by rw [kzf,List.length_map];omega))];by_cases h:atI (kzf p) e.name<0
 ·rw [Ev.yz2 (by simpa using h),Qbt h,Ev.yz0]
 ·obtain ⟨i,hi,h1,h2⟩:=y2c h;have h1:atI (kzf p) e.name=(i:Int):=h1;rw [Ev.zz2 (by simpa using h),Qbu h,h1,yz1.zz4,Ev.kz0 (zly _ (by omega)),Ev.zz1 (zz6 hi),z3n,yz1.zz4,Qbm,h2];exact l0 _ _ _ _
theorem yy4 (hk:e.kind=1∨e.kind=2∨e.kind=3∨e.kind=4∨e.kind=5):Ev (λn=>zbz n e p.attrs p.rules) ((zlw p e).1,(zlw p e).2.attrs,(zlw p e).2.rules):=by
 have hp:=@zhq p;have ha:=@zl5 p;have he:=e.size_eq;have hr:=yz3.zq4 e.rule_;have l4:∀a r,Ev (λn=>z1m n a r) (0,a,r):=λa r=>by rw [y5f,Ev.yz0]
 have at_:∀s,Ev (λn=>z9u n (zz0.mk p.attrs p.rules) s) (atI (yz8 p) s):=λs=>yw8 (p:=p) (by omega)
 have start:∀v,Ev (λn=>z5e n (if e.kind=5 then atI (kzf p) e.name else atI (yz8 p) (if e.kind=1∨e.kind=3 then e.rule_.name else e.name)) p.attrs p.rules e) v->Ev (λn=>zbz n e p.attrs p.rules) v:=λv hv=>by
  have s1:∀nm,nm=(if e.kind=1∨e.kind=3 then e.rule_.name else e.name)->Ev (λn=>z7o n p.attrs p.rules e nm) v:=λnm hnm=>by
   rw [y4d,Ev.kz0 (at_ nm),yz6.zz4];by_cases k5:e.kind=5
   ·rw [Ev.yz2 (by simpa using k5)];have hnm:nm=e.name:=by rw [hnm,Qbu (by omega)]
    rw [Ev.kz0 (yxj (by omega)),hnm];rw [Qbt k5] at hv;exact hv
   ·rw [Ev.zz2 (by simpa using k5)];rw [Qbu k5,<-hnm] at hv;exact hv
  have s0:∀b,b=decide (e.kind=1∨e.kind=3)->Ev (λn=>z7y n b p.attrs p.rules e e.name) v:=λb hb=>by
   rw [y5t,yz6.zz4];by_cases h:e.kind=1∨e.kind=3
   ·rw [Ev.yz2 (by rw [hb];simpa using h)];exact s1 _ (by rw [Qbt h])
   ·rw [Ev.zz2 (by rw [hb];simpa using h)];exact s1 _ (by rw [Qbu h])
  rw [yn1,yz6.zz4];by_cases k1:e.kind=1
  ·rw [Ev.yz2 (by simpa using k1)];exact s0 _ (by simp [k1])
  ·rw [Ev.zz2 (by simpa using k1)];exact s0 _ (by by_cases k3:e.kind=3 <;> simp [k1,k3])
 refine start _ ?_
 have l3:∀i b,b=(decide (i<0)&&(e.kind != 1))->∀v,Ev (λn=>z7u n i b p.attrs p.rules e) v->Ev (λn=>z5e n i p.attrs p.rules e) v:=λi b hb v hv=>by
  rw [y4l,yz6.zz4];by_cases h:i<0
  ·rw [Ev.yz2 (by simpa using h)];rw [hb] at hv;simpa [h] using hv
  ·rw [Ev.zz2 (by simpa using h)];rw [hb] at hv;simpa [h] using hv
 unfold zlw;by_cases k1:e.kind=1
 ·rw [Qbu (by omega),Qbt (Or.inl k1),Qbt k1];refine l3 _ false (by simp [k1]) _ ?_;rw [z2s,Ev.zz2 rfl,Ev.yz2 (by simpa using k1)];by_cases h:atI (yz8 p) e.rule_.name<0
  ·rw [Ev.zz2 (by simp;omega),Qbt h,Ev.kz0 (yiw (by omega)),Ev.zz1 (zab (by simp;omega)),Ev.zz1 (zll _ _)];dsimp only;rw [zhw];exact l4 _ _
  ·rw [Ev.yz2 (by simp;omega),Qbu h,Ev.yz0]
 by_cases k2:e.kind=2
 ·rw [Qbu (by omega),Qbu (by omega),Qbu k1,Qbt k2];refine l3 _ _ rfl _ ?_;by_cases h:atI (yz8 p) e.name<0
  ·rw [z2s,Ev.yz2 (by simp [h,k2]),Qbt h,Ev.yz0]
  ·obtain ⟨i,hi,h1,h2⟩:=y2c h;have h1:atI (yz8 p) e.name=(i:Int):=h1
   have hd:Ev (λn=>z3a n (i:Int) ((i+1:Nat):Int) p.rules) (p.rules.take i++p.rules.drop (i+1)):=⟨0,λ_ _=>by
    show yiv _ _ _=_;unfold yiv
    rw [Qbt (by omega),Qbm,Qbm]⟩
   rw [z2s,Ev.zz2 (by simp [h]),Ev.zz2 (by simpa using k1),Ev.yz2 (by simpa using k2),Qbu h,h1,wrk (by omega),Ev.kz0 hd,Qbm];exact l4 _ _
 by_cases k3:e.kind=3
 ·rw [Qbu (by omega),Qbt (Or.inr k3),Qbu k1,Qbu k2,Qbt k3];refine l3 _ _ rfl _ ?_;by_cases h:atI (yz8 p) e.rule_.name<0
  ·rw [z2s,Ev.yz2 (by simp [h,k3]),Qbt h,Ev.yz0]
  ·obtain ⟨i,hi,h1,h2⟩:=y2c h;have h1:atI (yz8 p) e.rule_.name=(i:Int):=h1;rw [z2s,Ev.zz2 (by simp [h]),Ev.zz2 (by simpa using k1),Ev.zz2 (by simpa using k2),Ev.yz2 (by simpa using k3),Qbu h,h1,Ev.kz0 (yiw (by omega)),Ev.zz1 (zz6 hi),Ev.zz1 (zz6 hi),z3n,Ev.zz1 (kzs hi _)];dsimp only;rw [z3n,List.set_set,Qbm];exact l4 _ _
 by_cases k4:e.kind=4
 ·rw [Qbu (by omega),Qbu (by omega),Qbu k1,Qbu k2,Qbu k3,Qbt k4];refine l3 _ _ rfl _ ?_;by_cases h:atI (yz8 p) e.name<0
  ·rw [z2s,Ev.yz2 (by simp [h,k4]),Qbt h,Ev.yz0]
  ·rw [z2s,Ev.zz2 (by simp [h]),Ev.zz2 (by simpa using k1),Ev.zz2 (by simpa using k2),Ev.zz2 (by simpa using k3),Ev.yz2 (by simpa using k4),Qbu h,Ev.kz0 (at_ _)];by_cases h2:atI (yz8 p) e.to_<0
   ·rw [Ev.zz2 (by simp;omega),Qbt h2,Ev.kz0 (ypn (by omega))];exact l4 _ _
   ·rw [Ev.yz2 (by simp;omega),Qbu h2,Ev.yz0]
 have k5:e.kind=5:=by omega
 rw [Qbt k5,Qbu k1,Qbu k2,Qbu k3,Qbu k4];refine l3 _ _ rfl _ ?_;by_cases h:atI (kzf p) e.name<0
 ·rw [z2s,Ev.yz2 (by simp [h,k5]),Qbt h,Ev.yz0]
 ·obtain ⟨i,hi,h1,h2⟩:=y2c h;have h1:atI (kzf p) e.name=(i:Int):=h1;rw [z2s,Ev.zz2 (by simp [h]),Ev.zz2 (by simpa using k1),Ev.zz2 (by simpa using k2),Ev.zz2 (by simpa using k3),Ev.zz2 (by simpa using k4),Qbu h,h1,yz1.zz4,Ev.kz0 (zuj (by omega)),Ev.zz1 (zz6 hi),z3n,yz1.zz4,Qbm,h2];exact l4 _ _
end
theorem yw4 {e:yz6} (h:yb6 e=true):e.kind=1∨e.kind=2∨e.kind=3∨e.kind=4∨e.kind=5:=by
 unfold yb6 at h;by_cases k1:e.kind=1
 ·exact .inl k1
 by_cases k2:e.kind=2
 ·exact .inr (.inl k2)
 by_cases k3:e.kind=3
 ·exact .inr (.inr (.inl k3))
 by_cases k4:e.kind=4
 ·exact .inr (.inr (.inr (.inl k4)))
 by_cases k5:e.kind=5
 ·exact .inr (.inr (.inr (.inr k5)))
 simp [k1,k2,k3,k4,k5] at h
theorem ym2 {α:Type} {f:α->Nat}:∀{a b:List α},((a++b).map f).sum=(a.map f).sum+(b.map f).sum
 |[],b=>by simp
 |x::a,b=>by simp only [List.cons_append,List.map_cons,List.sum_cons];rw [ym2];omega
theorem z02k {α:Type} {f:α->Nat} (l:List α) (k:Nat):((l.take k++l.drop (k+1)).map f).sum<=(l.map f).sum:=by
 have h1:((l.take k++l.drop k).map f).sum=(l.map f).sum:=by rw [List.take_append_drop]
 rw [ym2] at h1 ⊢
 have h2:((l.drop (k+1)).map f).sum<=((l.drop k).map f).sum:=by
  rw [<-List.tail_drop]
  cases l.drop k with
  |nil=>exact Qbs _
  |cons x r=>simp
 omega
theorem yo8 {α:Type} {f:α->Nat} (x:α):∀(l:List α) (k:Nat),((l.set k x).map f).sum<=(l.map f).sum+f x
 |[],k=>by simp
 |y::l,0=>by simp only [List.set_cons_zero,List.map_cons,List.sum_cons];omega
 |y::l,k+1=>by have:=yo8 (f:=f) x l k;simp only [List.set_cons_succ,List.map_cons,List.sum_cons];omega
theorem y9n (p:zz0) {e:yz6} (he:e.size<=1048575):(zlw p e).2.sz<=p.sz+e.size:=by
 have h:=e.size_eq;have hr:=yz3.zq4 e.rule_;unfold zlw;by_cases k1:e.kind=1
 ·rw [Qbt k1];split
  ·show zz0.sz ⟨_,_⟩<=_;rw [zz0.zzr,zz0.zzr];dsimp only;rw [ym2];simp only [List.map_cons,List.map_nil,List.sum_cons,List.sum_nil];omega
  ·exact Nat.le_add_right _ _
 rw [Qbu k1];by_cases k2:e.kind=2
 ·rw [Qbt k2];split
  ·exact Nat.le_add_right _ _
  ·show zz0.sz ⟨_,_⟩<=_;rw [zz0.zzr,zz0.zzr];dsimp only;have:=z02k (f:=yz3.sz) p.rules (atI (yz8 p) e.name).toNat;omega
 rw [Qbu k2];by_cases k3:e.kind=3
 ·rw [Qbt k3];split
  ·exact Nat.le_add_right _ _
  ·show zz0.sz ⟨_,_⟩<=_;rw [zz0.zzr,zz0.zzr];dsimp only;have:=yo8 (f:=yz3.sz) e.rule_ p.rules (atI (yz8 p) e.rule_.name).toNat;omega
 rw [Qbu k3];by_cases k4:e.kind=4
 ·rw [Qbt k4];split
  ·exact Nat.le_add_right _ _
  ·split
   ·exact Nat.le_trans (z03k (by omega) p) (Nat.le_add_right _ _)
   ·exact Nat.le_add_right _ _
 rw [Qbu k4];split
 ·exact Nat.le_add_right _ _
 ·show zz0.sz ⟨_,_⟩<=_;rw [zz0.zzr,zz0.zzr];dsimp only;have:=yo8 (f:=yz5.size) (yz5.mk e.name e.value) p.attrs (atI (kzf p) e.name).toNat;rw [yz5.size_eq] at this;dsimp only at this;omega
theorem yra {α:Type} {x y:α}:∀{l:List α} {k:Nat},y∈l.set k x->y∈l∨y=x:=λh=>by
 rcases List.mem_or_eq_of_mem_set h with h|h
 ·exact .inl h
 ·exact .inr h
theorem yqq {p:zz0} {e:yz6} (hp:p.wf) (he:e.wf):(zlw p e).2.wf:=by
 rw [yz6.z04] at he;have hp':=hp;rw [zz0.z04] at hp';have hr:e.rule_.wf:=he.2.2.2.1;have hv:e.value.wf:=he.2.2.2.2;unfold zlw;by_cases k1:e.kind=1
 ·rw [Qbt k1];split
  ·show zz0.wf ⟨_,_⟩;rw [zz0.z04];refine ⟨hp'.1,λr h => ?_⟩
   rcases Qbb.1 h with h|h
   ·exact hp'.2 r h
   ·rw [Qbc.1 h];exact hr
  ·exact hp
 rw [Qbu k1];by_cases k2:e.kind=2
 ·rw [Qbt k2];split
  ·exact hp
  ·show zz0.wf ⟨_,_⟩;rw [zz0.z04];refine ⟨hp'.1,λr h => ?_⟩
   rcases Qbb.1 h with h|h
   ·exact hp'.2 r (List.mem_of_mem_take h)
   ·exact hp'.2 r (List.mem_of_mem_drop h)
 rw [Qbu k2];by_cases k3:e.kind=3
 ·rw [Qbt k3];split
  ·exact hp
  ·show zz0.wf ⟨_,_⟩;rw [zz0.z04];refine ⟨hp'.1,λr h => ?_⟩
   rcases yra h with h|h
   ·exact hp'.2 r h
   ·rw [h];exact hr
 rw [Qbu k3];by_cases k4:e.kind=4
 ·rw [Qbt k4];split
  ·exact hp
  ·split
   ·exact z032 hp
   ·exact hp
 rw [Qbu k4];split
 ·exact hp
 ·show zz0.wf ⟨_,_⟩;rw [zz0.z04];refine ⟨λr h => ?_,hp'.2⟩
  rcases yra h with h|h
  ·exact hp'.1 r h
  ·rw [h,yz5.z04];exact ⟨trivial,hv⟩
noncomputable def zjh:List yz6->zz0->Int×zz0
 |[],p=>if zjl p=0 then (0,p) else (zjl p,⟨[],[]⟩)
 |e::l,p=>if yb6 e=true then (if (zlw p e).1=0 then zjh l (zlw p e).2 else ((zlw p e).1,⟨[],[]⟩)) else (8,⟨[],[]⟩)
theorem z02o {l:List yz6} {e:yz6} (h:e∈l):e.size<=(l.map yz6.size).sum:=znj (f:=yz6.size) h
theorem yv4 (e:yz6):e.value.size+1<=e.size:=by rw [e.size_eq];omega
theorem yt9 {l:List yz6} (hl:∀e∈l,e.wf) (z:zz0) (hb:l.length<=1048576):∀(m k:Nat),k+m=l.length->∀p:zz0,p.wf->p.sz+((l.drop k).map yz6.size).sum<=1048575->Ev (λn=>z4l n (k:Int) l z p) (zjh (l.drop k) p):=by
 intro m
 induction m with
 |zero=>
  intro k hk p hp hs;have hkl:k=l.length:=by omega
  subst hkl;have c:=y41 hp (by omega);rw [List.drop_length,zjh,zo7,Ev.zz2 (by simp),Ev.kz0 c];by_cases h:zjl p=0
  · rw [Ev.zz2 (by simpa using h),Qbt h,Ev.yz0]
  · rw [Ev.yz2 (by simpa using h),Ev.kz0 c,Qbu h,Ev.yz0]
 |succ m ih=>
  intro k hk p hp hs;have hlt:k<l.length:=by omega
  have he:=Qad hlt;rw [<-Qah (h:=hlt)] at hs ⊢;simp only [List.map_cons,List.sum_cons] at hs;have hv:=yv4 l[k];rw [zjh,zo7,Ev.yz2 (by simpa using hlt),Ev.zz1 (zz6 hlt),yz6.zz4,Ev.kz0 (ym4 (by omega))];cases hf:yb6 l[k]
  · rw [Ev.yz2 (by rfl),Qbu (by simp),Ev.yz0]
  · rw [Ev.zz2 (by rfl),Qbt rfl,Ev.zz1 (zz6 hlt),yz6.zz4,Ev.kz0 (yss (by omega))];by_cases h0:(zlw p l[k]).1=0
    · have hz:=y9n p (e:=l[k]) (by omega);rw [Ev.zz2 (by simpa using h0),Qbt h0,wrk (by omega)];exact ih (k+1) (by omega) _ (yqq hp (hl _ he)) (by omega)
    · rw [Ev.yz2 (by simpa using h0),Qbu h0,Ev.yz0]
theorem ywj {l:List yz6} (hl:∀e∈l,e.wf) (z:zz0) (hb:l.length<=1048576):∀(m k:Nat),k+m=l.length->∀p:zz0,p.wf->p.sz+((l.drop k).map yz6.size).sum<=1048575->Ev (λn=>z5w n (k:Int) l (l.length:Int) z p.attrs p.rules) ((zjh (l.drop k) p).1,(zjh (l.drop k) p).2.attrs,(zjh (l.drop k) p).2.rules):=by
 intro m
 induction m with
 |zero=>
  intro k hk p hp hs;have hkl:k=l.length:=by omega
  subst hkl;have c:Ev (λn=>z7e n (zz0.mk p.attrs p.rules)) (zjl p):=y3b (p:=p) hp (by omega);rw [List.drop_length,zjh,zrd,Ev.zz2 (by simp),Ev.kz0 c];by_cases h:zjl p=0
  · rw [Ev.zz2 (by simpa using h),Qbt h,Ev.yz0]
  · rw [Ev.yz2 (by simpa using h),Qbu h,Ev.yz0]
 |succ m ih=>
  intro k hk p hp hs;have hlt:k<l.length:=by omega
  have he:=Qad hlt;rw [<-Qah (h:=hlt)] at hs ⊢;simp only [List.map_cons,List.sum_cons] at hs;have hv:=yv4 l[k];rw [zjh,zrd,Ev.yz2 (by simpa using hlt),Ev.zz1 (zz6 hlt),yz6.zz4,Ev.kz0 (ypx (by omega))];cases hf:yb6 l[k]
  · rw [Ev.yz2 (by rfl),Qbu (by simp),Ev.yz0]
  · rw [Ev.zz2 (by rfl),Qbt rfl,Ev.kz0 (yy4 (by omega) (yw4 hf))];by_cases h0:(zlw p l[k]).1=0
    · have hz:=y9n p (e:=l[k]) (by omega);rw [Ev.zz2 (by simpa using h0),Qbt h0,wrk (by omega)];exact ih (k+1) (by omega) _ (yqq hp (hl _ he)) (by omega)
    · rw [Ev.yz2 (by simpa using h0),Qbu h0,Ev.yz0]
theorem y23 (l:List yz6):l.length<=(l.map yz6.size).sum:=zog (λe=>by rw [e.size_eq];omega) l
noncomputable def y5h (p:zz0) (l:List yz6):Int×zz0:=if zjl p=0 then (if l.length<=40 then zjh l p else (4,⟨[],[]⟩)) else (zjl p,⟨[],[]⟩)
section
variable {p : zz0} {l : List yz6} (hp : p.wf) (hl : ∀ e ∈ l, e.wf) (hs : p.sz + (l.map yz6.size).sum ≤ 1048575)
include hp hl hs
theorem yr7:Ev (λn=>zb6 n p l) (y5h p l):=by
 have hn:=y23 l;have c:=y41 hp (by omega);unfold y5h;rw [y7c,Ev.kz0 c];by_cases h:zjl p=0
 ·rw [Ev.zz2 (by simpa using h),Qbt h];by_cases h4:l.length<=40
  ·rw [Ev.zz2 (by simp;omega),Qbt h4,Ev.kz0 (yas (by omega))];exact yt9 hl _ (by omega) l.length 0 (by omega) p hp (by simpa using hs)
  ·rw [Ev.yz2 (by simp;omega),Qbu h4,Ev.yz0]
 ·rw [Ev.yz2 (by simpa using h),Qbu h,Ev.kz0 c,Ev.yz0]
theorem yum:Ev (λn=>zd0 n p l) ((y5h p l).1,(y5h p l).2.attrs,(y5h p l).2.rules):=by
 have hn:=y23 l;have c:=y3b hp (by omega);unfold y5h;rw [yh5,Ev.kz0 c];by_cases h:zjl p=0
 ·rw [Ev.zz2 (by simpa using h),Qbt h];by_cases h4:l.length<=40
  ·rw [Ev.zz2 (by simp;omega),Qbt h4,Ev.kz0 (y6r (by omega))];exact ywj hl _ (by omega) l.length 0 (by omega) p hp (by simpa using hs)
  ·rw [Ev.yz2 (by simp;omega),Qbu h4,Ev.yz0]
 ·rw [Ev.yz2 (by simpa using h),Qbu h,Ev.yz0]
end
theorem y92 {p:zz0} (hs:p.sz<=4000000):Ev (λn=>z8f n p p) true:=by
 have h1:=@zl5 p;have h2:=@zhq p
 have l3:∀k,k<=p.rules.length->Ev (λn=>z6h n (k:Int) p p) true :=
  down (by rw [zr7,Ev.zz2 (by simp),Ev.yz0]) λk hk ih=>by
   have:=zl6 (Qad hk);have e:=yqz (a:=p.rules[k]) (b:=p.rules[k]) (by omega);rw [za4] at e;rw [zr7,Ev.yz2 (by simpa using hk),Ev.zz1 (zz6 hk),Ev.zz1 (zz6 hk),Ev.kz0 e,Ev.zz2 (by rfl),wrk (by omega)];exact ih
 have l1:∀k,k<=p.attrs.length->Ev (λn=>z6l n (k:Int) p p) true :=
  down (by rw [zpi,Ev.zz2 (by simp)];exact l3 0 (Qbr _)) λk hk ih=>by
   have:=zye (Qad hk);have:=@zxv p.attrs[k];have e:=zs8 p.attrs[k].value p.attrs[k].value (by omega);rw [za4] at e;rw [zpi,Ev.yz2 (by simpa using hk),Ev.zz1 (zz6 hk),Ev.zz1 (zz6 hk),Ev.zz2 (by simp),Ev.zz1 (zz6 hk),Ev.zz1 (zz6 hk),yz1.zz4,Ev.kz0 e,y2z,Ev.zz2 (by rfl),wrk (by omega)];exact ih
 rw [ych,Ev.zz2 (by simp)];have e:(((p.rules.length:Int)) != (p.rules.length:Int))=false:=by simp
 rw [e,y2n,Ev.zz2 rfl];exact l1 0 (Qbr _)
theorem ypj {l:List yz6} (hs:(l.map yz6.size).sum<=1048575):∃b,Ev (λn=>zax n l) b:=by
 have hn:=y23 l
 have h:=zmh (L:=λn k=>z4h n k l) (len:=l.length) ⟨_,by rw [zn8,Ev.zz2 (by simp),Ev.yz0]⟩ λk hk v hv=>by
  have he:=z02o (Qad hk);have hz:=(l[k]).size_eq;have hr:=yz3.zq4 l[k].rule_
  have l1:∀b,∃w,Ev (λn=>z2b n l (k:Int) b) w:=λb=>by
   cases b
   ·exact ⟨v,by rw [zo1,Ev.zz2 rfl,wrk (by omega)];exact hv⟩
   ·exact ⟨true,by rw [zo1,Ev.yz2 rfl,Ev.yz0]⟩
  obtain ⟨b,hb⟩:=z042 (p:=⟨[⟨[],l[k].value⟩],[l[k].rule_]⟩) (by rw [zz0.zzr];simp only [List.map_cons,List.map_nil,List.sum_cons,List.sum_nil];rw [yz5.size_eq];simp only [Qby];omega);obtain ⟨w1,hw1⟩:=l1 true;obtain ⟨w2,hw2⟩:=l1 (decide ((l[k].to_.length:Int)>100));refine ⟨if b=true then w1 else if (l[k].name.length:Int)>100 then w1 else w2,?_⟩
  rw [zn8,Ev.yz2 (by simpa using hk),Ev.zz1 (zz6 hk),Ev.zz1 (zz6 hk),yz1.zz4,Ev.kz0 hb];cases b
  ·rw [Ev.zz2 rfl,Qbu (by simp),Ev.zz1 (zz6 hk)];by_cases hn:(l[k].name.length:Int)>100
   ·rw [Ev.yz2 (by simpa using hn),Qbt hn];exact hw1
   ·rw [Ev.zz2 (by simpa using hn),Qbu hn,Ev.zz1 (zz6 hk)];exact hw2
  ·rw [Ev.yz2 rfl,Qbt rfl];exact hw1
 obtain ⟨b,hb⟩:=h;exact ⟨b,by rw [ya0];exact hb⟩
theorem yxo {l:List yz6}:∀{p:zz0},p.sz+(l.map yz6.size).sum<=1048575->(zjh l p).2.sz<=1048575:=by
 induction l with
 |nil=>
  intro p hs;rw [zjh];split
  · simp at hs;exact hs
  · show zz0.sz ⟨[],[]⟩<=_;rw [zz0.zzr];simp
 |cons e l ih=>
  intro p hs;simp only [List.map_cons,List.sum_cons] at hs;rw [zjh];split
  · split
    · have:=y9n p (e:=e) (by omega);exact ih (by omega)
    · show zz0.sz ⟨[],[]⟩<=_;rw [zz0.zzr];simp
  · show zz0.sz ⟨[],[]⟩<=_;rw [zz0.zzr];simp
theorem z02u {p:zz0} {l:List yz6} (hs:p.sz+(l.map yz6.size).sum<=1048575):(y5h p l).2.sz<=1048575:=by
 unfold y5h;split
 ·split
  ·exact yxo hs
  ·show zz0.sz ⟨[],[]⟩<=_;rw [zz0.zzr];simp
 ·show zz0.sz ⟨[],[]⟩<=_;rw [zz0.zzr];simp
theorem yc2 (p:zz0) (l:List yz6) (hp:p.wf) (hl:∀e∈l,e.wf) (w:p.size+((l.map yz6.size).sum+1)<=1048576):∃n,kzo n p l=some true:=by
 have hz:=zz0.zq4 p;have hs:p.sz+(l.map yz6.size).sum<=1048575:=by omega
 have l0:∀b,Ev (λn=>yzj n l b p) true:=λb=>by
  cases b
  ·have r:=z02u hs;have e5:Ev (λn=>z8f n (zz0.mk (y5h p l).2.attrs (y5h p l).2.rules) (y5h p l).2) true:=y92 (p:=(y5h p l).2) (by omega);rw [zbk,Ev.zz2 rfl,Ev.kz0 (yas (by omega)),Ev.kz0 (yum hp hl hs),Ev.kz0 (yr7 hp hl hs),Ev.kz0 e5,Ev.yz2 rfl,Ev.yz2 (by simp),Ev.kz0 (y92 (by omega)),Ev.yz0]
  ·rw [zbk,Ev.yz2 rfl,Ev.yz0]
 obtain ⟨g1,hg1⟩:=z042 (p:=p) (by omega);obtain ⟨g2,hg2⟩:=ypj (l:=l) (by omega);refine Ev.get ?_;rw [zle,Ev.kz0 hg1];cases g1
 ·rw [Ev.zz2 rfl,Ev.kz0 hg2];exact l0 _
 ·rw [Ev.yz2 rfl];exact l0 _
end Go.Proofs.YtomdnlaakelghaaGreat
