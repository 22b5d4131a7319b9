/-
  FORESTS (plain): check.open against the reference's Nodes, and Find.
-/
import Derived.Test.YtdcbdnediadfcaaRun1
import Derived.Test.YtdcbdnediadfcaaLib10
import Derived.Test.YtdcbdnediadfcaaLib2
namespace Go.Proofs.Ytdcbdnediadfcaa
open Go Go.Ab
set_option linter.unusedVariables false
set_option linter.unusedSimpArgs false
open Classical in
noncomputable def bE(s:zz5):Int:=if h:s.wf then (y0e s h).choose else 0
theorem zyk{s:zz5}(h:s.wf):∃b b',Ev (λn=>z19 n s) (bE s,b)∧Ev (λn=>z18 n s) (bE s,b'):=by
 unfold bE;rw[dif_pos h];exact(y0e s h).choose_spec
noncomputable def z1r(x:zz9):Bool:=kzf x.path==0&&(!(x.path==[])&&(bE x.scope==0||bE x.scope==6))
def z6j(l:zz6):List B8:=l.map (·.path)
theorem z7c(l:zz6):(z6j l).length=l.length:=by simp[z6j]
theorem zb0{l:zz6}{k:Nat}(h:k<l.length):(z6j l)[k]'(by rw[z7c];exact h)=l[k].path:=by simp[z6j]
theorem zqe{l:zz6}{k:Nat}(h:k<l.length):(z6j l).take (k+1)=(z6j l).take k++[l[k].path]:=by
 rw[List.take_add_one,Qab (by rw[z7c];exact h),zb0 h];rfl
def zbl(l:zz6)(k:Nat):Prop:=∀j,k<=j->∀h:j<l.length,z1r l[j]=true∧l[j].path∉(z6j l).take j
theorem ze9{l:zz6}{k:Nat}(h:k<l.length):zbl l k↔(z1r l[k]=true∧l[k].path∉(z6j l).take k)∧zbl l (k+1) :=
 ⟨λz=>⟨z k (Qbq _) h,λj hj=>z j (by omega)⟩,λ⟨a,z⟩ j hj hl=>by
  by_cases e:j=k;subst e;exact a
  exact z j (by omega) hl⟩
def opened(l:zz6)(p:Prop)(f:Nat->Option (Res (Int×Unit) (Int×zz6×z1y×List Bool×List B8×List Int))):Prop :=
 (p∧∃bs bd m,Ev f (Res.ok (0,l,bs,bd,mks m,mvs m))∧RM m (z6j l))∨(¬p∧Ev f (Res.pan (8,())))
theorem zxo{l:zz6}(hl:l.length<=2000)(hw:∀x∈l,x.scope.wf)(hp:∀x∈l,x.path.length<=5000):opened l (zbl l 0) (λn=>z1h n l):=by
 have main:∀k,k<=l.length->∀(bs:z1y) (bd:List Bool) (m:List (B8×Int)),bs.length<=k->bd.length<=k->RM m ((z6j l).take k) ->
   opened l (zbl l k) (λn=>kzc n (k:Int) l (l.length:Int) l bs bd (mks m) (mvs m)) :=
  down (λbs bd m _ _ hm=>.inl ⟨λj hj h=>by omega,bs,bd,m,by
   rw[z0k,Ev.kz1 (by simp),Ev.yz2,zzi],by
   rw[<-z7c,List.take_length]at hm;exact hm⟩) λk hk ih bs bd m h1 h2 hm=>by
   obtain⟨b,b',hb,_⟩:=zyk (hw _ (Qad hk));have hc:=zjn (s:=l[k].path) (by have:=hp _ (Qad hk);omega);have bad (h:¬(z1r l[k]=true∧l[k].path∉(z6j l).take k)):¬zbl l k:=λz=>h ((ze9 hk).1 z).1
   have pan {X}:Ev (λn=>kzg n l (l.length:Int) (k:Int) X (k:Int) true l b l[k] bs bd (mks m) (mvs m)) (Res.pan (8,())):=by
    rw[zat,Ev.zz3 (by rfl),Ev.yz2]
   have st (e:Ev (λn=>kzg n l (l.length:Int) (k:Int) (bE l[k].scope) (k:Int) true l b l[k] bs bd (mks m) (mvs m)) (Res.pan (8,()))->Ev (λn=>kzc n (k:Int) l (l.length:Int) l bs bd (mks m) (mvs m)) (Res.pan (8,()))) (h:¬(z1r l[k]=true∧l[k].path∉(z6j l).take k)) :
    opened l (zbl l k) (λn=>kzc n (k:Int) l (l.length:Int) l bs bd (mks m) (mvs m)):=.inr ⟨bad h,e pan⟩
   have hg:Option.isSome (z1x m l[k].path)=decide (l[k].path∈(z6j l).take k):=by rw[hm];split <;> simp[*]
   have go (hn:l[k].path∉(z6j l).take k) (hok:z1r l[k]=true) (e:∀r,Ev (λn=>kzg n l (l.length:Int) (k:Int) (bE l[k].scope) (k:Int) false l b l[k] bs bd (mks m) (mvs m)) r->Ev (λn=>kzc n (k:Int) l (l.length:Int) l bs bd (mks m) (mvs m)) r) :
     opened l (zbl l k) (λn=>kzc n (k:Int) l (l.length:Int) l bs bd (mks m) (mvs m)):=by
    have hl1 {r}:Ev (λn=>kzc n ((k+1:Nat):Int) l (l.length:Int) l (bs++[b]) (bd++[bE l[k].scope==0]) (mks (z4v m l[k].path (k:Int))) (mvs (z4v m l[k].path (k:Int)))) r ->
      Ev (λn=>kzc n (k:Int) l (l.length:Int) l bs bd (mks m) (mvs m)) r:=λz=>e r (by
     rw[zat,Ev.kz1 (by rfl),Ev.yz1 (zn4 (by simp;omega)),Ev.yz1 (zn4 (by simp;omega)),wrk (by omega),zzi];exact z)
    have hm':RM (z4v m l[k].path (k:Int)) ((z6j l).take (k+1)):=by
     rw[zqe hk];have:=hm.put hn;rwa[Qay,z7c,Nat.min_eq_left (by omega)]at this
    rcases ih (bs++[b]) (bd++[bE l[k].scope==0]) _ (by simp;omega) (by simp;omega) hm' with ⟨h,x,y,z,hz,hr⟩|⟨h,hz⟩
    exact .inl ⟨(ze9 hk).2 ⟨⟨hok,hn⟩,h⟩,x,y,z,hl1 hz,hr⟩;exact .inr ⟨λz=>h ((ze9 hk).1 z).2,hl1 hz⟩
   by_cases c1:l[k].path∈(z6j l).take k;refine st (λz =>?_) λz=>z.2 c1
   rw[z0k,Ev.zz3 (by simpa using hk),Ev.yz1 (zzb hk),Ev.zz1 hb,zzi,hg,Ev.zz3 (by simpa using c1)];exact z;by_cases c2:(l[k].path==[])=true;refine st (λz =>?_) λz=>by have:=z.1;simp only[z1r,c2]at this;simp at this
   rw[z0k,Ev.zz3 (by simpa using hk),Ev.yz1 (zzb hk),Ev.zz1 hb,zzi,hg,Ev.kz1 (by simpa using c1),Ev.zz3 c2];exact z;have c2':(l[k].path==[])=false:=by simpa using c2
   by_cases c3:kzf l[k].path=0;by_cases c4:bE l[k].scope=0;refine go c1 (by simp[z1r,c2',c3,c4]) λr z =>?_
   rw[z0k,Ev.zz3 (by simpa using hk),Ev.yz1 (zzb hk),Ev.zz1 hb,zzi,hg,Ev.kz1 (by simpa using c1),Ev.kz1 c2',Ev.zz1 hc,Ev.kz1 (by simpa using c3),Ev.kz1 (by simpa using c4)];exact z;by_cases c5:bE l[k].scope=6;refine go c1 (by simp[z1r,c2',c3,c5]) λr z =>?_
   rw[z0k,Ev.zz3 (by simpa using hk),Ev.yz1 (zzb hk),Ev.zz1 hb,zzi,hg,Ev.kz1 (by simpa using c1),Ev.kz1 c2',Ev.zz1 hc,Ev.kz1 (by simpa using c3),Ev.zz3 (by simpa using c4),show(bE l[k].scope != 6)=false by simpa using c5];exact z;refine st (λz =>?_) λz=>by have:=z.1;simp[z1r,c4,c5]at this
   rw[z0k,Ev.zz3 (by simpa using hk),Ev.yz1 (zzb hk),Ev.zz1 hb,zzi,hg,Ev.kz1 (by simpa using c1),Ev.kz1 c2',Ev.zz1 hc,Ev.kz1 (by simpa using c3),Ev.zz3 (by simpa using c4),show(bE l[k].scope != 6)=true by simpa using c5];exact z;refine st (λz =>?_) λz=>by have:=z.1;simp[z1r,c3]at this
   rw[z0k,Ev.zz3 (by simpa using hk),Ev.yz1 (zzb hk),Ev.zz1 hb,zzi,hg,Ev.kz1 (by simpa using c1),Ev.kz1 c2',Ev.zz1 hc,Ev.zz3 (by simpa using c3)];exact z
 have h:=main 0 (Qbp _) [] [] [] (by simp) (by simp) RM.nil
 have e {r}:Ev (λn=>z1h n l) r↔Ev (λn=>kzc n ((0:Nat):Int) l (l.length:Int) l [] [] (mks ([]:List (B8×Int))) (mvs ([]:List (B8×Int)))) r:=by
  rw[zfr,Ev.kz1 (by simp;omega)];exact Iff.rfl
 rcases h with ⟨a,x,y,z,hz,hr⟩|⟨a,hz⟩
 exact .inl ⟨a,x,y,z,e.2 hz,hr⟩;exact .inr ⟨a,e.2 hz⟩
theorem zwt{l:zz6}{s:B8}(hb:l.length<=1048576):∀k,k<=l.length->s∉(z6j l).take k ->
  (∃j,∃h:j<l.length,l[j].path=s∧s∉(z6j l).take j∧Ev (λn=>kzw n (k:Int) s l) ((j:Int),0))∨(s∉z6j l∧Ev (λn=>kzw n (k:Int) s l) (0,6)) :=
 down (λh=>.inr ⟨by rw[<-z7c,List.take_length]at h;exact h,by rw[z4q,Ev.kz1 (by simp),Ev.yz2]⟩) λk hk ih h=>by
  by_cases c:l[k].path=s;exact .inl ⟨k,hk,c,h,(by rw[z4q,Ev.zz3 (by simpa using hk),Ev.yz1 (zzb hk),Ev.zz3 (by simpa using c),Ev.yz2])⟩
  have h':s∉(z6j l).take (k+1):=by
   rw[zqe hk,List.mem_append];simp[h,Ne.symm c]
  rcases ih h' with ⟨j,hj,a,b,z⟩|⟨a,z⟩
  exact .inl ⟨j,hj,a,b,(by rw[z4q,Ev.zz3 (by simpa using hk),Ev.yz1 (zzb hk),Ev.kz1 (by simpa using c),wrk (by omega)];exact z)⟩;exact .inr ⟨a,(by rw[z4q,Ev.zz3 (by simpa using hk),Ev.yz1 (zzb hk),Ev.kz1 (by simpa using c),wrk (by omega)];exact z)⟩
theorem zv6{l:zz6}{s:B8}(hb:l.length<=1048576) :
  (∃j,∃h:j<l.length,l[j].path=s∧s∉(z6j l).take j∧Ev (λn=>z1d n l s) ((j:Int),0))∨(s∉z6j l∧Ev (λn=>z1d n l s) (0,6)):=by
 rcases zwt (l:=l) (s:=s) hb 0 (Qbp _) (by simp)with ⟨j,hj,a,b,z⟩|⟨a,z⟩
 exact .inl ⟨j,hj,a,b,by rw[zf3];exact z⟩;exact .inr ⟨a,by rw[zf3];exact z⟩
theorem z6v{l:zz6}{j k:Nat}(hj:j<l.length)(h:j<k):l[j].path∈(z6j l).take k :=
 List.mem_iff_getElem.2 ⟨j,by rw[Qay,z7c];omega,by rw[List.getElem_take];exact zb0 hj⟩
theorem y95{l:zz6}(hb:l.length<=1048576):∀k,k<=l.length ->
  ((∀j,k<=j->∀h:j<l.length,l[j].path∉(z6j l).take j)∧Ev (λn=>zze n (k:Int) l) 0)∨((¬∀j,k<=j->∀h:j<l.length,l[j].path∉(z6j l).take j)∧Ev (λn=>zze n (k:Int) l) 8) :=
 down (.inl ⟨λj h1 h2=>by omega,by rw[z69,Ev.kz1 (by simp),Ev.yz2]⟩) λk hk ih=>by
  rcases zv6 (l:=l) (s:=l[k].path) hb with ⟨j,hj,a,b,z⟩|⟨a,z⟩
  by_cases c:j=k;subst c
  have h1 {r}:Ev (λn=>zze n ((j+1:Nat):Int) l) r->Ev (λn=>zze n (j:Int) l) r:=λw=>(by
   rw[z69,Ev.zz3 (by simpa using hk),Ev.yz1 (zzb hk),Ev.zz1 z,Ev.kz1 (by simp),wrk (by omega)];exact w)
  rcases ih with ⟨q,z⟩|⟨q,z⟩
  exact .inl ⟨λi hi hl=>by
   by_cases e:i=j;subst e;exact b
   exact q i (by omega) hl,h1 z⟩
  exact .inr ⟨λw=>q λi hi=>w i (by omega),h1 z⟩;refine .inr ⟨λw =>?_,(by rw[z69,Ev.zz3 (by simpa using hk),Ev.yz1 (zzb hk),Ev.zz1 z,Ev.zz3 (by simp;omega),Ev.yz2])⟩
  have hjk:j<k:=by
   rcases Nat.lt_or_ge j k with h|h
   exact h;exact(b (z6v hk (by omega))).elim
  exact w k (Qbq _) hk (a▸z6v hj hjk);exact(a (by rw[<-zb0 hk];exact Qad _)).elim
theorem y99{l:zz6}(hl:l.length<=2000)(hw:∀x∈l,x.scope.wf):∀k,k<=l.length ->
  ((∀j,k<=j->∀h:j<l.length,z1r l[j]=true)∧∀r,Ev (λn=>zze n 0 l) r->Ev (λn=>kzd n (k:Int) l) r)∨((¬∀j,k<=j->∀h:j<l.length,z1r l[j]=true)∧Ev (λn=>kzd n (k:Int) l) 8) :=
 down (.inl ⟨λj h1 h2=>by omega,λr z=>by rw[z0x,Ev.kz1 (by simp)];exact z⟩) λk hk ih=>by
  obtain⟨b,b',_,hb⟩:=zyk (hw _ (Qad hk));have pan:Ev (λn=>zzh n l (k:Int) true) 8:=by rw[za4,Ev.zz3 (by rfl),Ev.yz2]
  have on {r}:Ev (λn=>kzd n ((k+1:Nat):Int) l) r->Ev (λn=>zzh n l (k:Int) false) r:=λz=>by
   rw[za4,Ev.kz1 (by rfl),wrk (by omega)];exact z
  have bad (h:¬z1r l[k]=true):¬∀j,k<=j->∀h:j<l.length,z1r l[j]=true:=λw=>h (w k (Qbq _) hk)
  have go (h:z1r l[k]=true) (e:∀r,Ev (λn=>zzh n l (k:Int) false) r->Ev (λn=>kzd n (k:Int) l) r) :
    ((∀j,k<=j->∀h:j<l.length,z1r l[j]=true)∧∀r,Ev (λn=>zze n 0 l) r->Ev (λn=>kzd n (k:Int) l) r)∨((¬∀j,k<=j->∀h:j<l.length,z1r l[j]=true)∧Ev (λn=>kzd n (k:Int) l) 8):=by
   rcases ih with ⟨q,z⟩|⟨q,z⟩
   exact .inl ⟨λi hi hl=>by
    by_cases e:i=k;subst e;exact h
    exact q i (by omega) hl,λr w=>e r (on (z r w))⟩
   exact .inr ⟨λw=>q λi hi=>w i (by omega),e _ (on z)⟩
  by_cases c3:kzf l[k].path=0;by_cases c2:(l[k].path==[])=true;have:((l[k].path.length:Int)==0)=true:=by simpa using c2
  exact .inr ⟨bad (by simp only[z1r,c2];simp),(by rw[z0x,Ev.zz3 (by simpa using hk),Ev.yz1 (zzb hk),Ev.zz1 hb,Ev.yz1 (zzb hk),Ev.zz1 z6r,Ev.kz1 (by simpa using c3),Ev.yz1 (zzb hk),Ev.zz3 this];exact pan)⟩;have c2':(l[k].path==[])=false:=by simpa using c2
  have c2i:((l[k].path.length:Int)==0)=false:=by simpa using c2
  by_cases c4:bE l[k].scope=0;exact go (by simp[z1r,c2',c3,c4]) λr z=>(by rw[z0x,Ev.zz3 (by simpa using hk),Ev.yz1 (zzb hk),Ev.zz1 hb,Ev.yz1 (zzb hk),Ev.zz1 z6r,Ev.kz1 (by simpa using c3),Ev.yz1 (zzb hk),Ev.kz1 c2i,Ev.kz1 (by simpa using c4)];exact z)
  by_cases c5:bE l[k].scope=6;exact go (by simp[z1r,c2',c3,c5]) λr z=>(by rw[z0x,Ev.zz3 (by simpa using hk),Ev.yz1 (zzb hk),Ev.zz1 hb,Ev.yz1 (zzb hk),Ev.zz1 z6r,Ev.kz1 (by simpa using c3),Ev.yz1 (zzb hk),Ev.kz1 c2i,Ev.zz3 (by simpa using c4),show(bE l[k].scope != 6)=false by simpa using c5];exact z)
  exact .inr ⟨bad (by simp[z1r,c4,c5]),(by rw[z0x,Ev.zz3 (by simpa using hk),Ev.yz1 (zzb hk),Ev.zz1 hb,Ev.yz1 (zzb hk),Ev.zz1 z6r,Ev.kz1 (by simpa using c3),Ev.yz1 (zzb hk),Ev.kz1 c2i,Ev.zz3 (by simpa using c4),show(bE l[k].scope != 6)=true by simpa using c5];exact pan)⟩
  exact .inr ⟨bad (by simp[z1r,c3]),(by rw[z0x,Ev.zz3 (by simpa using hk),Ev.yz1 (zzb hk),Ev.zz1 hb,Ev.yz1 (zzb hk),Ev.zz1 z6r,Ev.zz3 (by simpa using c3)];exact pan)⟩
theorem zqa{l:zz6}(hl:l.length<=2000)(hw:∀x∈l,x.scope.wf):(zbl l 0∧Ev (λn=>z07 n l) 0)∨(¬zbl l 0∧Ev (λn=>z07 n l) 8):=by
 rw[z8v,z8v,Ev.kz1 (by simp;omega),Ev.kz1 (by simp;omega)]
 rcases y99 hl hw 0 (Qbp _)with ⟨q,z⟩|⟨q,z⟩
 rcases y95 (l:=l) (by omega) 0 (Qbp _)with ⟨q',z'⟩|⟨q',z'⟩
 exact .inl ⟨λj hj h=>⟨q j hj h,q' j hj h⟩,z _ z'⟩;exact .inr ⟨λw=>q' λj hj h=>(w j hj h).2,z _ z'⟩;exact .inr ⟨λw=>q λj hj h=>(w j hj h).1,z⟩
theorem y7p{α:Type}{x y:List α}(h:x.length+y.length<=268435456):ext x y=some (x++y):=by unfold ext;rw[Qbr (by simpa[z4u]using h)]
theorem zf2{α:Type}{l:List α}{k:Nat}(h:k<l.length):l.take k++[l[k]]=l.take (k+1):=by
 rw[List.take_add_one,Qab h];rfl
theorem zy4{α:Type}{p:α->Bool}:∀{l:List α},(∀x∈l,p x=true)->l.takeWhile p=l∧l.dropWhile p=[]
 |[],_=>⟨rfl,rfl⟩
 |x::l,h=>by
  have hx:=h x Qak;obtain⟨h1,h2⟩:=zy4 (l:=l) λy hy=>h y (Qai _ hy)
  rw[List.takeWhile_cons_of_pos hx,List.dropWhile_cons_of_pos hx,h1,h2];exact⟨rfl,rfl⟩
theorem y0t{l:List B8}{k:Nat}(hk:k<=l.length)(s:B8) :
  zgk (l++[[]]) ((k+1:Nat):Int) (k:Int)=some (l.take k++[(l++[[]])[k]'(by simp;omega)]++l.drop k)∧((l.take k++[(l++[[]])[k]'(by simp;omega)]++l.drop k).set k s=l.take k++s::l.drop k):=by
 constructor;unfold zgk;rw[Qbr (by simp;omega)]
 congr 1
 have e1:((k+1:Nat):Int).toNat=k+1:=by simp
 have e2:((k:Nat):Int).toNat=k:=by simp
 rw[e1,e2];have e3:min ((l++[[]]).length-k) ((l++[[]]).length-(k+1))=l.length-k:=by simp;omega
 rw[e3,show k+1+(l.length-k)=l.length+1 by omega];have e4:(l++[[]]).drop (l.length+1)=[]:=List.drop_of_length_le (by simp)
 have e5:((l++[[]]).drop k).take (l.length-k)=l.drop k:=by
  rw[List.drop_append_of_le_length hk,List.take_append_of_le_length (by simp),List.take_of_length_le (by simp)]
 have e6:(l++[[]]).take (k+1)=l.take k++[(l++[[]])[k]'(by simp;omega)]:=by
  have hlt:k<(l++[[]]).length:=by simp;omega
  rw[<-zf2 hlt,List.take_append_of_le_length hk]
 rw[e4,e5,e6,List.append_nil];have hl:(l.take k).length=k:=by simp;omega
 rw[Qaz,List.set_append,Qbs (by omega),hl,Nat.sub_self];rfl
theorem zsn{s:B8}{acc:List B8}(hb:acc.length<=8000000):Ev (λn=>z2d n s acc) (ins acc s):=by
 have hil:=zsb s acc
 have fin:∀k,k<=acc.length->acc.takeWhile (λx=>Op.bytesLess x s)=acc.take k->acc.dropWhile (λx=>Op.bytesLess x s)=acc.drop k->Ev (λn=>zzv n s (k:Int) false acc) (ins acc s):=λk hk ht hd=>by
  have hins:=y4n s acc;rw[ht,hd]at hins
  have put:ins acc s=acc.take k++s::acc.drop k->Ev (λn=>yzv n s (k:Int) false acc) (ins acc s):=λhi=>by
   obtain⟨s1,s2⟩:=y0t hk s;have hx:ext acc [[]]=some (acc++[[]]):=y7p (by simp;omega);have hc1:zv4 (acc++[[]]) ((k+1:Nat):Int)=some ():=by unfold zv4;rw[Qbr (by simp;omega)]
   have hc2:zv4 (acc++[[]]) (k:Int)=some ():=by unfold zv4;rw[Qbr (by simp;omega)]
   have hg:ix (acc.take k++[(acc++[[]])[k]'(by simp;omega)]++acc.drop k) (k:Int)=some ((acc++[[]])[k]'(by simp;omega)):=by
    rw[y4r,Qaz,Qav (by simp;omega)];simp[Nat.min_eq_left hk]
   rw[z97,Ev.kz1 (by rfl),Ev.yz1 hx,wrk (by omega),Ev.yz1 hc1,Ev.yz1 hc2,Ev.yz1 s1,Ev.yz1 hg,Int.toNat_natCast,s2,<-hi,Ev.yz2]
  rw[z8z,Ev.kz1 (by rfl)];by_cases he:k=acc.length;rw[Ev.kz1 (by simp;omega)];exact put (by rw[hins,Qbs (by rw[List.drop_of_length_le (by omega)];simp)]);have hlt:k<acc.length:=by omega
  rw[Ev.zz3 (by simp;omega),Ev.yz1 (zzb hlt)];have hhead:(acc.drop k).head?=some acc[k]:=by rw[<-Qah (h:=hlt)];rfl
  by_cases heq:acc[k]=s;rw[show(acc[k]==s)=true by simpa using heq,z97,Ev.zz3 (by rfl),Ev.yz2];rw[hins,Qbr (by rw[hhead,heq])];rw[show(acc[k]==s)=false by simpa using heq];exact put (by rw[hins,Qbs (by rw[hhead];simpa using heq)])
 have place:∀k,k<=acc.length->(acc.take k).all (λx=>Op.bytesLess x s)=true->Ev (λn=>zzr n (k:Int) s acc) (ins acc s) :=
  down (Q:=λk=>(acc.take k).all (λx=>Op.bytesLess x s)=true->Ev (λn=>zzr n (k:Int) s acc) (ins acc s)) (λhall=>by
   rw[List.take_length]at hall;rw[Qat]at hall;rw[z9e,Ev.kz1 (by simp)];refine fin _ (Qbq _) ?_ ?_;rw[List.take_length];exact(zy4 hall).1
   rw[List.drop_length];exact(zy4 hall).2) λk hk ihk hall=>by
   have hsplit:acc=acc.take k++acc.drop k:=(List.take_append_drop k acc).symm;rw[z9e,Ev.zz3 (by simpa using hk),Ev.yz1 (zzb hk)];cases hb:Op.bytesLess acc[k] s;rw[Qat]at hall;refine fin k (by omega) ?_ ?_
   conv=>lhs;rw[hsplit]
   rw[List.takeWhile_append_of_pos hall,<-Qah (h:=hk),List.takeWhile_cons_of_neg (by simp[hb]),List.append_nil]
   conv=>lhs;rw[hsplit]
   rw[List.dropWhile_append_of_pos hall,<-Qah (h:=hk),List.dropWhile_cons_of_neg (by simp[hb])];rw[z8z,Ev.zz3 (by rfl),wrk (by omega)];refine ihk ?_;rw[<-zf2 hk,List.all_append,hall];simp[hb]
 rw[zku];exact place 0 (Qbp _) (by simp)
def jn:List B8->B8
 |[]=>[]
 |[x]=>x
 |x::y::l=>x++47::jn (y::l)
theorem zu4:∀s:B8,jn (parts 47 s)=s
 |[]=>by simp[parts,jn]
 |c::t=>by
  have ih:=zu4 t;rw[parts];by_cases h:c=47;subst h;rw[Qbr (by rfl)]
  cases hp:parts 47 t with
  |nil=>exact(zdu 47 t hp).elim
  |cons a r=>rw[hp]at ih;rw[jn,ih];rfl
  rw[Qbs (by simpa using h)]
  cases hp:parts 47 t with
  |nil=>exact(zdu 47 t hp).elim
  |cons a r=>
   rw[hp]at ih
   cases r with
   |nil=>simp only[jn]at ih ⊢;rw[ih]
   |cons b r=>simp only[jn]at ih ⊢;rw[<-ih];rfl
theorem zys{x:B8}:∀{L:List B8},L≠[]->jn (L++[x])=jn L++47::x
 |[],h=>(h rfl).elim
 |[a],_=>by simp[jn]
 |a::b::l,_=>by
  have ih:=zys (x:=x) (L:=b::l) (by simp);rw[List.cons_append]at ih;show jn (a::b::(l++[x]))=_;rw[jn,ih,jn,Qaz];rfl
theorem y2f{x:B8}(h:(47:UInt8)∉x):parts 47 x=[x]:=by
 induction x with
 |nil=>rfl
 |cons c t ih=>
  rw[parts,Qbs (by simpa using λe=>h (by rw[e];exact Qak)),ih λz=>h (Qai _ z)]
theorem y0z{x t:B8}(h:(47:UInt8)∉x):parts 47 (x++47::t)=x::parts 47 t:=by
 induction x with
 |nil=>rw[List.nil_append,parts,Qbr (by rfl)]
 |cons c u ih=>
  rw[List.cons_append,parts,Qbs (by simpa using λe=>h (by rw[e];exact Qak)),ih λz=>h (Qai _ z)]
theorem zwe:∀{L:List B8},L≠[]->(∀x∈L,(47:UInt8)∉x)->parts 47 (jn L)=L
 |[],h,_=>(h rfl).elim
 |[a],_,h=>y2f (h a Qak)
 |a::b::l,_,h=>by
  rw[jn,y0z (h a Qak),zwe (by simp) λx hx=>h x (Qai _ hx)]
theorem zhz:∀{s x:B8},x∈parts 47 s->(47:UInt8)∉x
 |[],x,h=>by simp[parts]at h;simp[h]
 |c::t,x,h=>by
  rw[parts]at h;by_cases hc:c=47;rw[Qbr (by simpa using hc)]at h
  rcases Qbi.1 h with rfl|h
  simp;exact zhz h;rw[Qbs (by simpa using hc)]at h
  cases hp:parts 47 t with
  |nil=>exact(zdu 47 t hp).elim
  |cons a r=>
   rw[hp]at h
   rcases Qbi.1 h with rfl|h
   have:=zhz (s:=t) (x:=a) (by rw[hp];exact Qak);intro z
   rcases Qbi.1 z with z|z
   exact hc z.symm;exact this z;exact zhz (s:=t) (by rw[hp];exact Qai _ h)
def okS(L:List B8):Prop:=∀x∈L,x≠[]∧(47:UInt8)∉x
theorem y4u{L:List B8}(h:okS L)(hn:L≠[]):jn L≠[]:=by
 match L,hn with
 |[a],_=>exact(h a Qak).1
 |a::b::l,_=>simp[jn]
theorem y5e{L:List B8}(h:okS L):steps (jn L)=L:=by
 unfold steps;by_cases e:L=[];subst e;rfl;rw[Qbs (by simpa using y4u h e),zwe e λx hx=>(h x hx).2]
theorem zhn(s:B8):jn (steps s)=s:=by
 unfold steps;by_cases e:s=[];subst e;rfl;rw[Qbs (by simpa using e),zu4]
theorem zv0{s x:B8}(h:x∈steps s):(47:UInt8)∉x:=by
 unfold steps at h;split at h;cases h;exact zhz h
theorem lc0{s:B8}:kzf s=0↔s.length<=4000∧(steps s).length<=40∧(steps s).all z4t=true:=by
 unfold kzf;by_cases h1:4000<s.length;rw[Qbr h1];exact⟨λh=>(by cases h),λh=>by omega⟩;rw[Qbs h1];by_cases h2:40<(steps s).length;rw[Qbr h2];exact⟨λh=>(by cases h),λh=>by omega⟩;rw[Qbs h2];by_cases h3:(steps s).all z4t=true;rw[Qbr h3];exact⟨λ_=>⟨by omega,by omega,h3⟩,λ_=>rfl⟩;rw[Qbs h3];exact⟨λh=>(by cases h),λh=>(h3 h.2.2).elim⟩
theorem y8m{s:B8}(h:kzf s=0):okS (steps s):=λx hx=>by
 refine⟨λe =>?_,zv0 hx⟩;have:=Qat.1 (lc0.1 h).2.2 x hx;subst e
 revert this;decide
theorem zkd:∀(L:List B8) (k:Nat),(jn (L.take k)).length<=(jn L).length
 |[],k=>by simp[jn]
 |a::l,0=>by simp[jn]
 |[a],k+1=>by simp[jn]
 |a::b::l,1=>by simp[jn]
 |a::b::l,k+2=>by
  have:=zkd (b::l) (k+1);show(jn (a::b::l.take k)).length<=_;rw[jn,jn];simp only[List.take_succ_cons]at this;simp only[Qap,List.length_cons];omega
theorem y02{s:B8}(h:kzf s=0)(k:Nat):steps (jn ((steps s).take k))=(steps s).take k∧kzf (jn ((steps s).take k))=0:=by
 have h1:okS ((steps s).take k):=λx hx=>y8m h x (List.mem_of_mem_take hx)
 have e:=y5e h1;obtain⟨a,b,c⟩:=lc0.1 h;refine⟨e,lc0.2 ⟨?_,?_,?_⟩⟩;have:=zkd (steps s) k;rw[zhn]at this;omega;rw[e,Qay];omega;rw[e,Qat];exact λx hx=>Qat.1 c x (List.mem_of_mem_take hx)
theorem zyl{a x:B8}(h:(47:UInt8)∉x)(hb:(a++47::x).length<=1000000):∀k,k<=x.length->Ev (λn=>yz5 n (((a.length+1+k:Nat):Int)-1) 47 (a++47::x)) (a.length:Int)
 |0,_=>by
  have hk:a.length<(a++47::x).length:=by simp
  have e:((a.length+1+0:Nat):Int)-1=(a.length:Int):=by omega
  rw[e,yzd,Ev.zz3 (by simp),Ev.yz1 (zzb hk),b47,Ev.zz3 (by simp),Ev.yz2]
 |k+1,hk=>by
  have hl:a.length+1+k<(a++47::x).length:=by simp;omega
  have e:((a.length+1+(k+1):Nat):Int)-1=((a.length+1+k:Nat):Int):=by omega
  have hg:(a++47::x)[a.length+1+k]=x[k]:=by
   rw[List.getElem_append_right (by omega)];have:a.length+1+k-a.length=k+1:=by omega
   simp only[this,List.getElem_cons_succ]
  rw[e,yzd,Ev.zz3 (by simp;omega),Ev.yz1 (zzb hl),b47,hg,Ev.kz1 (by rw[beq_eq_false_iff_ne];intro e;exact h (e▸Qad _)),wI (by omega)];exact zyl h hb k (by omega)
theorem zyx{s:B8}(h:(47:UInt8)∉s)(hb:s.length<=1000000):∀k,k<=s.length->Ev (λn=>yz5 n ((k:Int)-1) 47 s) (-1)
 |0,_=>by rw[yzd,Ev.kz1 (by rfl),Ev.yz2]
 |k+1,hk=>by
  have hl:k<s.length:=by omega
  have e:((k+1:Nat):Int)-1=(k:Int):=by omega
  rw[e,yzd,Ev.zz3 (by simp),Ev.yz1 (zzb hl),b47,Ev.kz1 (by rw[beq_eq_false_iff_ne];intro e;exact h (e▸Qad _)),wI (by omega)];exact zyx h hb k (by omega)
theorem y2h{A:List B8}{x:B8}(h:(47:UInt8)∉x)(hb:(jn (A++[x])).length<=1000000):Ev (λn=>z3f n (jn (A++[x]))) (jn A,x):=by
 by_cases e:A=[];subst e;have hx:x.length<=1000000:=hb
 have h1:Ev (λn=>kzh n x 47) (-1):=by
  have h2:Ev (λn=>zz8 n x 47) (-1):=by
   rw[z0n,wI (by omega)];exact zyx h hx _ (Qbq _)
  rw[z50,Ev.zz1 h2,Ev.yz2]
 show Ev (λn=>z3f n x) ([],x);rw[zi1,Ev.zz1 h1];have e1:mxI (-1) 0=((0:Nat):Int):=by rfl
 have e2:IntKind.i64.wrap ((-1:Int)+1)=((0:Nat):Int):=by rfl
 rw[e1,e2];have s1:sub x 0 ((0:Nat):Int)=some (x.take 0):=z8n (by omega)
 have s2:sub x ((0:Nat):Int) (x.length:Int)=some x:=by
  have:=zbw (l:=x) (lo:=0) (hi:=x.length) (by omega) (Qbq _);rw[this];simp
 rw[Ev.yz1 s1,Ev.yz1 s2,Ev.yz2];rfl;rw[zys e]at hb ⊢
 have h1:Ev (λn=>kzh n (jn A++47::x) 47) ((jn A).length:Int):=by
  have h2:Ev (λn=>zz8 n (jn A++47::x) 47) ((jn A).length:Int):=by
   rw[z0n,wI (by omega)];have:=zyl h hb x.length (Qbq _);have e:((jn A++47::x).length:Int)-1=(((jn A).length+1+x.length:Nat):Int)-1:=by simp;omega
   rw[e];exact this
  rw[z50,Ev.zz1 h2,Ev.yz2]
 have hl:(jn A++47::x).length=(jn A).length+1+x.length:=by simp;omega
 rw[hl]at hb;rw[zi1,Ev.zz1 h1]
 have e1:mxI ((jn A).length:Int) 0=((jn A).length:Int):=by
  have:=@y8c (jn A).length 0;simp at this;exact this
 rw[e1,wrk (by omega)]
 have s1:sub (jn A++47::x) 0 ((jn A).length:Int)=some (jn A):=by
  rw[z8n (by omega)];simp
 have s2:sub (jn A++47::x) (((jn A).length+1:Nat):Int) ((jn A++47::x).length:Int)=some x:=by
  rw[zbw (by omega) (Qbq _),List.take_length]
  congr 1
  rw[List.drop_append,List.drop_of_length_le (by omega)];have:(jn A).length+1-(jn A).length=1:=by omega
  rw[this];rfl
 rw[Ev.yz1 s1,Ev.yz1 s2,Ev.yz2]
theorem ztb{s:B8}(h:kzf s=0){k:Nat}(hk:k<(steps s).length):Ev (λn=>z1z n (jn ((steps s).take (k+1)))) (jn ((steps s).take k),0):=by
 obtain⟨h1,h2⟩:=y02 h (k+1);have hl:=(lc0.1 h2).1
 have hne:jn ((steps s).take (k+1))≠[]:=λe=>by
  rw[e]at h1;have:=congrArg List.length h1;rw[Qay,show steps []=[]from rfl]at this;simp only[List.length_nil]at this;omega
 have ht:(steps s).take (k+1)=(steps s).take k++[(steps s)[k]]:=by
  rw[List.take_add_one,Qab hk];rfl
 have hc:=zjn (s:=jn ((steps s).take (k+1))) (by omega);rw[zkg,Ev.zz1 hc,h2,Ev.kz1 (by rfl),Ev.kz1 (by simpa using hne)];rw[ht]at hl ⊢;rw[Ev.zz1 (y2h (zv0 (Qad hk)) (by omega)),Ev.yz2]
theorem zxp{A B:List B8}(ha:A.length<=1048576):∃c:Int,Ev (λn=>z29 n A B) c∧(c=(B.length:Int)↔B <+: A):=by
 have main:∀k,k<=min A.length B.length->A.take k=B.take k->∃c:Int,Ev (λn=>kzu n (k:Int) B A) c∧(c=(B.length:Int)↔B <+: A) :=
  down (λhe=>by
   have l1:Ev (λn=>kzr n B A ((min A.length B.length:Nat):Int) false) ((min A.length B.length:Nat):Int):=by
    rw[z5d,Ev.kz1 (by rfl),Ev.yz2]
   refine⟨((min A.length B.length:Nat):Int),?_,?_⟩;rw[z5i];by_cases h:B.length<A.length;rw[Ev.zz3 (by simp;omega),Ev.kz1 (by simp;omega)];exact l1;rw[Ev.kz1 (by simp;omega)];exact l1;constructor;intro hc;have:min A.length B.length=B.length:=by omega
   rw[this,List.take_length]at he;exact he▸List.take_prefix _ _;intro hp;have:=hp.length_le
   omega) λk hk ih he=>by
   have h1:k<A.length:=by omega
   have h2:k<B.length:=by omega
   by_cases c:A[k]=B[k]
   obtain⟨r,hr,hi⟩:=ih (by
    rw[List.take_add_one,List.take_add_one,Qab h1,Qab h2,he,c])
   refine⟨r,?_,hi⟩;rw[z5i,Ev.zz3 (by simpa using h1),Ev.zz3 (by simpa using h2),Ev.yz1 (zzb h1),Ev.yz1 (zzb h2),show(A[k]==B[k])=true by simpa using c,z5d,Ev.zz3 (by rfl),wrk (by omega)];exact hr;refine⟨(k:Int),?_,?_⟩;rw[z5i,Ev.zz3 (by simpa using h1),Ev.zz3 (by simpa using h2),Ev.yz1 (zzb h1),Ev.yz1 (zzb h2),show(A[k]==B[k])=false by simpa using c,z5d,Ev.kz1 (by rfl),Ev.yz2];constructor;intro e;omega
   intro hp
   exact(c (by
    obtain⟨t,rfl⟩:=hp
    rw[List.getElem_append_left h2])).elim
 obtain⟨c,h1,h2⟩:=main 0 (Qbp _) (by simp);exact⟨c,by rw[zl9];exact h1,h2⟩
theorem zjc{p q:B8}(hp:kzf p=0)(hq:kzf q=0):Ev (λn=>z2z n p q) (decide (steps q <+: steps p),0):=by
 have hb:Ev (λn=>z2u n p q) 0:=by
  rw[zph,Ev.zz1 z6r,hp,Ev.kz1 (by rfl),Ev.zz1 z6r,hq,Ev.yz2]
 obtain⟨c,h1,h2⟩:=zxp (A:=steps p) (B:=steps q) (by have:=(lc0.1 hp).2.1;omega);have cp:=zt1 (s:=p) (by have:=(lc0.1 hp).1;omega);have cq:=zt1 (s:=q) (by have:=(lc0.1 hq).1;omega);rw[zm3,Ev.zz1 hb,Ev.kz1 (by rfl),Ev.zz1 cp,Ev.zz1 cq,Ev.zz1 h1,Ev.zz1 cq,Ev.yz2]
 congr 1
 rw[Bool.eq_iff_iff,Qbj,decide_eq_true_iff];exact h2
theorem zuz{T:Type}(k:B8)(x:T):∀m:List (B8×T),(z4v m k x).length<=m.length+1
 |[]=>by simp[z4v]
 |q::m=>by
  have:=zuz k x m;rw[ziq];split;simp;simp;omega
theorem y4v{T:Type}{m:List (B8×T)}{k z:B8}{x:T}:z∈mks (z4v m k x)↔z∈mks m∨z=k:=by
 have h:=zo5 m k z x;by_cases e:z=k;rw[Qbr e]at h;exact⟨λ_=>.inr e,λ_=>Classical.byContradiction λw=>by rw[zb8.2 w]at h;cases h⟩;rw[Qbs e]at h;have:z∉mks (z4v m k x)↔z∉mks m:=by rw[<-zb8,<-zb8,h]
 exact⟨λw=>.inl (Classical.byContradiction λu=>this.2 u w),λw=>Classical.byContradiction λu=>by
  rcases w with w|w
  exact this.1 u w
  exact e w⟩
theorem zmy{T:Type}(k:B8)(x:T):∀{m:List (B8×T)},(mks m).Nodup->(mks (z4v m k x)).Nodup
 |[],_=>by simp[z4v,mks]
 |q::m,h=>by
  have h':=List.nodup_cons.1 h;rw[ziq];split;rename_i e;subst e;exact List.nodup_cons.2 h';rename_i e;refine List.nodup_cons.2 ⟨λw =>?_,zmy k x h'.2⟩
  rcases y4v.1 w with w|w
  exact h'.1 w;exact e w.symm
theorem zo7{α:Type}:∀{l:List α}{i:Nat}(h:i<l.length),(l[i]::l.eraseIdx i).Perm l
 |[],_,h=>by cases h
 |a::l,0,_=>.refl _
 |a::l,i+1,h=>by
  have:=zo7 (l:=l) (i:=i) (by simpa using h);exact(List.Perm.swap a _ _).trans (this.cons a)
theorem y3v{l l':List B8}(h:l.Perm l'):zc8 l=zc8 l' :=
 List.Perm.eq_of_pairwise (le:=λx y=>decide (x<=y)=true) (λa b _ _ h1 h2=>List.le_antisymm (Qac h1) (Qac h2)) (zee l) (zee l') ((z6q l).trans (h.trans (z6q l').symm))
section
variable {l : zz6} {p : B8} {J : Int} {m : List (B8 × Int)} {bs : z1y} {bd : List Bool}
theorem collect:∀len,∀es:List (B8×Bool),es.length=len->∀acc:List B8,acc.length+len<=1000 ->
  Ev (λn=>kze n l (mks m) (mvs m) bs bd acc (mks es) (mvs es)) (zc8 (acc++mks es),l,mks m,mvs m,bs,bd):=λlen=>by
 induction len with
 |zero=>
  intro es he acc ha;have he:=List.length_eq_zero_iff.1 he;subst he;rw[z44];refine Ev.pick (λ_ =>?_) λi hi=>by cases hi
  have hs:Ev (λn=>kzm n acc) (zc8 acc):=Ev.pure (by show(if acc.length<4611686018427387904 then _ else _)=_;rw[Qbr (by omega)]);rw[Ev.zz1 hs,zzi,Ev.yz2]
  simp[mks]
 |succ len ih=>
  intro es he acc ha;rw[z44,zzi,zzi];refine Ev.pick (λh=>by rw[h]at he;cases he) λi hi =>?_
  rw[Ev.yz1 (zn4 (by simp;omega))];refine(ih (es.eraseIdx i) (by rw[List.length_eraseIdx_of_lt hi];omega) (acc++[es[i].1]) (by simp;omega)).to ?_
  have hp:(acc++[es[i].1]++mks (es.eraseIdx i)).Perm (acc++mks es):=by
   rw[Qaz];refine List.Perm.append_left _ ?_;have:=(zo7 hi).map Prod.fst;exact this
  rw[y3v hp]
def znp(l:zz6)(L:List B8)(k:Nat)(z:B8):Prop:=∃x∈l,x.rule_≠[]∧x.rule_=z∧∃i,1<=i∧i<=k∧x.path=jn (L.take i)
theorem chain(hb:l.length<=2000)(hN:∀i j (hi:i<l.length) (hj:j<l.length),l[i].path=l[j].path->i=j)(hm:RM m (z6j l))(hp:kzf p=0) :
  ∀k,k<=(steps p).length->∀(es:List (B8×Bool)) (R:List B8),TM es R->(mks es).Nodup ->
  ∃es' R',TM es' R'∧(mks es').Nodup∧es'.length<=es.length+k∧(∀z,z∈R'↔z∈R∨znp l (steps p) k z) ∧
   ∀r,Ev (λn=>yze n 1 [J] 1 l (mks m) (mvs m) bs bd (mks es') (mvs es')) r->Ev (λn=>zzc n (jn ((steps p).take k)) [J] 1 0 l (mks m) (mvs m) bs bd (mks es) (mvs es)) r:=λk=>by
 induction k with
 |zero=>
  intro _ es R hT hn;refine⟨es,R,hT,hn,by omega,λz=>⟨.inl,λh=>h.elim id λ⟨x,_,_,_,i,h1,h2,_⟩=>by omega⟩,λr h =>?_⟩;rw[z02,Ev.kz1 (by rfl),zzi,zzi]
  exact h
 |succ k ih=>
  intro hk es R hT hn
  have hne:jn ((steps p).take (k+1))≠[]:=y4u (λx hx=>y8m hp x (List.mem_of_mem_take hx)) (by
   intro e;have:=congrArg List.length e
   rw[Qay,List.length_nil]at this;omega)
  have l3:∀(es':List (B8×Bool)) r,Ev (λn=>zzc n (jn ((steps p).take k)) [J] 1 0 l (mks m) (mvs m) bs bd (mks es') (mvs es')) r ->
    Ev (λn=>zzf n [J] 1 0 (jn ((steps p).take (k+1))) l (mks m) (mvs m) bs bd (mks es') (mvs es')) r:=λes' r h=>by
   rw[z98,Ev.zz1 (ztb hp (by omega)),zzi,zzi];exact h
  have step (x:zz9):(∃i,1<=i∧i<=k+1∧x.path=jn ((steps p).take i))↔(∃i,1<=i∧i<=k∧x.path=jn ((steps p).take i))∨x.path=jn ((steps p).take (k+1)) :=
   ⟨λ⟨i,h1,h2,h3⟩=>by
     by_cases e:i=k+1;subst e;exact .inr h3
     exact .inl ⟨i,h1,by omega,h3⟩,λh=>h.elim (λ⟨i,h1,h2,h3⟩=>⟨i,h1,by omega,h3⟩) λh=>⟨k+1,by omega,by omega,h⟩⟩
  have ab (z:B8):znp l (steps p) (k+1) z↔znp l (steps p) k z∨∃x∈l,x.rule_≠[]∧x.rule_=z∧x.path=jn ((steps p).take (k+1)):=by
   constructor
   rintro ⟨x,h1,h2,h3,h4⟩
   rcases(step x).1 h4 with h4|h4
   exact .inl ⟨x,h1,h2,h3,h4⟩;exact .inr ⟨x,h1,h2,h3,h4⟩
   rintro (⟨x,h1,h2,h3,h4⟩|⟨x,h1,h2,h3,h4⟩)
   exact⟨x,h1,h2,h3,(step x).2 (.inl h4)⟩;exact⟨x,h1,h2,h3,(step x).2 (.inr h4)⟩
  have same (hno:∀x∈l,x.rule_≠[]->x.path≠jn ((steps p).take (k+1))) (z:B8):znp l (steps p) (k+1) z↔znp l (steps p) k z:=by
   rw[ab];exact⟨λh=>h.elim id λ⟨x,h1,h2,_,h4⟩=>(hno x h1 h2 h4).elim,.inl⟩
  by_cases hK:jn ((steps p).take (k+1))∈z6j l;obtain⟨i,hi,h1,h2,_⟩:=zu8 hK;have hi':i<l.length:=by rw[z7c]at hi;exact hi
  have h2':l[i].path=jn ((steps p).take (k+1)):=by rw[<-zb0 hi'];exact h2
  have hg:z1x m (jn ((steps p).take (k+1)))=some (i:Int):=by rw[hm,Qbr hK,h1]
  by_cases hr:l[i].rule_=[];obtain⟨es',R',a1,a2,a3,a4,a5⟩:=ih (by omega) es R hT hn;refine⟨es',R',a1,a2,by omega,λz =>?_,λr h =>?_⟩;rw[a4,same λx hx hxr hxp =>?_];obtain⟨j,hj,rfl⟩:=List.mem_iff_getElem.1 hx;have:=hN j i hj hi' (hxp.trans h2'.symm);subst this;exact hxr hr
  rw[z02,Ev.zz3 (by simpa using hne),zzi,zzi,hg,Ev.zz3 (by rfl),show Option.getD (some (i:Int)) 0=(i:Int)from rfl,Ev.yz1 (zzb hi'),hr,show(!(([]:B8)==[]))=false from rfl,z1t,Ev.kz1 (by rfl),zzi,zzi];exact l3 es r (a5 r h);obtain⟨es',R',a1,a2,a3,a4,a5⟩:=ih (by omega) (z4v es l[i].rule_ true) (R++[l[i].rule_]) (hT.put _) (zmy _ _ hn);have hml:=zuz l[i].rule_ true es
  refine⟨es',R',a1,a2,by omega,λz =>?_,λr h =>?_⟩;rw[a4,ab,List.mem_append,List.mem_singleton,or_assoc];refine or_congr Iff.rfl ⟨λw=>w.elim (λe=>.inr ⟨l[i],Qad _,hr,e.symm,h2'⟩) .inl,λw=>w.elim .inr λ⟨x,h1,h2,h3,h4⟩=>.inl ?_⟩;obtain⟨j,hj,rfl⟩:=List.mem_iff_getElem.1 h1;have:=hN j i hj hi' (h4.trans h2'.symm);subst this;exact h3.symm
  rw[z02,Ev.zz3 (by simpa using hne),zzi,zzi,hg,Ev.zz3 (by rfl),show Option.getD (some (i:Int)) 0=(i:Int)from rfl,Ev.yz1 (zzb hi'),show(!(l[i].rule_==[]))=true by simpa using hr,z1t,Ev.zz3 (by rfl),Ev.yz1 (zzb hi'),zzi,zzi];exact l3 _ r (a5 r h);obtain⟨es',R',a1,a2,a3,a4,a5⟩:=ih (by omega) es R hT hn;have hg:z1x m (jn ((steps p).take (k+1)))=none:=by rw[hm,Qbs hK]
  refine⟨es',R',a1,a2,by omega,λz =>?_,λr h =>?_⟩;rw[a4,same λx hx _ hxp=>hK (by rw[<-hxp];exact List.mem_map_of_mem hx)];rw[z02,Ev.zz3 (by simpa using hne),zzi,zzi,hg,Ev.kz1 (by rfl),z1t,Ev.kz1 (by rfl),zzi,zzi];exact l3 es r (a5 r h)
theorem zwq(hb:l.length<=2000)(hl:∀x∈l,kzf x.path=0)(hp:kzf p=0):∀k,k<=l.length->∀acc:List B8,zad acc->acc.length<=k ->
  ∃r,Ev (λn=>yzr n (k:Int) l p acc) r∧zad r∧∀z,z∈r↔z∈acc∨∃x∈l.drop k,x.rule_≠[]∧x.rule_=z∧steps x.path <+: steps p :=
 down (λacc hs _=>⟨acc,by rw[z3i,Ev.kz1 (by simp),Ev.yz2],hs,λz=>by simp⟩) λk hk ih acc hs ha=>by
  have hx:=hl _ (Qad hk)
  have l2:∀acc' r,Ev (λn=>yzr n ((k+1:Nat):Int) l p acc') r->Ev (λn=>kzv n l p (k:Int) acc') r:=λacc' r h=>by
   rw[zg4,wrk (by omega)];exact h
  have ex (z:B8):(∃x∈l.drop k,x.rule_≠[]∧x.rule_=z∧steps x.path <+: steps p)↔(l[k].rule_≠[]∧l[k].rule_=z∧steps l[k].path <+: steps p)∨∃x∈l.drop (k+1),x.rule_≠[]∧x.rule_=z∧steps x.path <+: steps p:=by
   rw[<-Qah (h:=hk)];constructor
   rintro ⟨x,h1,h2⟩
   rcases Qbi.1 h1 with rfl|h1
   exact .inl h2;exact .inr ⟨x,h1,h2⟩
   rintro (h|⟨x,h1,h2⟩)
   exact⟨_,Qak,h⟩;exact⟨x,Qai _ h1,h2⟩
  by_cases hu:steps l[k].path <+: steps p;by_cases hr:l[k].rule_=[];obtain⟨r,h1,h2,h3⟩:=ih acc hs (by omega);refine⟨r,?_,h2,λz =>?_⟩;rw[z3i,Ev.zz3 (by simpa using hk),Ev.yz1 (zzb hk),Ev.zz1 (zjc hp hx),Ev.zz3 (by simpa using hu),Ev.yz1 (zzb hk),z5b,Ev.kz1 (by rw[hr];rfl)];exact l2 _ _ h1;rw[h3,ex];refine or_congr Iff.rfl ⟨.inr,λw=>w.elim (λw=>(w.1 hr).elim) id⟩;have hil:=zsb l[k].rule_ acc
  obtain⟨r,h1,h2,h3⟩:=ih (ins acc l[k].rule_) (zmw hs) (by omega);refine⟨r,?_,h2,λz =>?_⟩
  have hlen:decide ((l[k].rule_.length:Int)>0)=true:=by
   cases h:l[k].rule_ with
   |nil=>exact(hr h).elim
   |cons a t=>simp
  rw[z3i,Ev.zz3 (by simpa using hk),Ev.yz1 (zzb hk),Ev.zz1 (zjc hp hx),Ev.zz3 (by simpa using hu),Ev.yz1 (zzb hk),z5b,Ev.zz3 hlen,Ev.yz1 (zzb hk),Ev.zz1 (zsn (by omega))];exact l2 _ _ h1;rw[h3,ex,zrp,or_assoc];refine or_congr Iff.rfl (or_congr ⟨λe=>⟨hr,e.symm,hu⟩,λw=>w.2.1.symm⟩ Iff.rfl);obtain⟨r,h1,h2,h3⟩:=ih acc hs (by omega);refine⟨r,?_,h2,λz =>?_⟩
  rw[z3i,Ev.zz3 (by simpa using hk),Ev.yz1 (zzb hk),Ev.zz1 (zjc hp hx),Ev.kz1 (by simpa using hu),z5b,Ev.kz1 (by rfl)];exact l2 _ _ h1;rw[h3,ex];refine or_congr Iff.rfl ⟨.inr,λw=>w.elim (λw=>(hu w.2.2).elim) id⟩
end
theorem ztj{l:zz6}{p:B8}(hl:∀x∈l,kzf x.path=0∧x.path≠[])(hp:kzf p=0)(z:B8) :
  znp l (steps p) (steps p).length z↔∃x∈l,x.rule_≠[]∧x.rule_=z∧steps x.path <+: steps p:=by
 constructor
 rintro ⟨x,h1,h2,h3,i,h4,h5,h6⟩
 refine⟨x,h1,h2,h3,?_⟩;rw[h6,(y02 hp i).1];exact List.take_prefix _ _
 rintro ⟨x,h1,h2,h3,h4⟩
 refine⟨x,h1,h2,h3,(steps x.path).length,?_,h4.length_le,?_⟩
 rcases Nat.eq_zero_or_pos (steps x.path).length with h|h
 have e:=List.length_eq_zero_iff.1 h;have:=zhn x.path;rw[e]at this;exact((hl x h1).2 this.symm).elim;exact h;rw[<-List.prefix_iff_eq_take.1 h4,zhn]
theorem zvj{l:zz6}{p:B8}(hb:l.length<=120∨2000<l.length)(hw:∀x∈l,x.scope.wf)(hp:∀x∈l,x.path.length<=5000) :
  ∃r:List B8×Int,Ev (λn=>z22 n l p) r∧Ev (λn=>z2a n l p) r∧r.1.length<=1000:=by
 by_cases hbig:2000<l.length;have h1:Ev (λn=>z1h n l) (Res.pan (4,())):=by rw[zfr,Ev.zz3 (by simp;omega),Ev.yz2]
 have h2:Ev (λn=>z07 n l) 4:=by rw[z8v,Ev.zz3 (by simp;omega),Ev.yz2]
 refine⟨([],4),?_,?_,by simp⟩;rw[z56,Ev.zz1 h1];simp only[zvo];rw[Ev.zz3 (by rfl),Ev.yz2];rw[z54,Ev.zz1 h2,Ev.zz3 (by rfl),Ev.zz1 h2,Ev.yz2];have hl:l.length<=2000:=by omega
 rcases zxo hl hw hp with ⟨hok,bs,bd,m,ho,hm⟩|⟨hno,ho⟩
 rcases zqa hl hw with ⟨_,hr⟩|⟨hno,_⟩
 have hN:∀i j (hi:i<l.length) (hj:j<l.length),l[i].path=l[j].path->i=j:=λi j hi hj e=>by
  rcases Nat.lt_trichotomy i j with h|h|h
  exact((hok j (Qbp _) hj).2 (e▸z6v hi h)).elim;exact h;exact((hok i (Qbp _) hi).2 (e▸z6v hj h)).elim
 have hlc:∀x∈l,kzf x.path=0∧x.path≠[]:=λx hx=>by
  obtain⟨j,hj,rfl⟩:=List.mem_iff_getElem.1 hx;have:=(hok j (Qbp _) hj).1;simp only[z1r,Qag,Qbj]at this;exact⟨this.1,by simpa using this.2.1⟩
 rcases zv6 (l:=l) (s:=p) (by omega)with ⟨j,hj,e,hnt,hf⟩|⟨hnp,hf⟩
 have hK:p∈z6j l:=by rw[<-e,<-zb0 hj];exact Qad _
 have hpl:=(hlc _ (Qad hj)).1;rw[e]at hpl;obtain⟨i,hi,hi1,hi2,_⟩:=zu8 hK;have hi':i<l.length:=by rw[z7c]at hi;exact hi
 have hi2':l[i].path=p:=by rw[<-zb0 hi'];exact hi2
 have hg:z1x m p=some (i:Int):=by rw[hm,Qbr hK,hi1]
 obtain⟨es,R,t1,t2,t3,t4,t5⟩:=chain (J:=(i:Int)) (bs:=bs) (bd:=bd) (by omega) hN hm hpl (steps p).length (Qbq _) [] [] TM.nil (by simp[mks]);obtain⟨r,r1,r2,r3⟩:=zwq (by omega) (λx hx=>(hlc x hx).1) hpl 0 (Qbp _) [] (by simp[zad]) (by simp);have h40:=(lc0.1 hpl).2.1
 have hsame:zc8 (mks es)=r:=by
  refine zff (by rw[zup];exact zs7 t2) r2 λz =>?_
  rw[(z6q _).mem_iff,t1.keys,t4,ztj hlc hpl,r3];simp
 have hc:Ev (λn=>kzp n [(i:Int)] l (mks m) (mvs m) bs bd) (zc8 (mks es),l,mks m,mvs m,bs,bd):=by
  rw[zai,zzi,show((([(i:Int)]:List Int).length:Nat):Int)=1 from rfl,z4f,Ev.zz3 (by rfl)];have x0:ix [(i:Int)] 0=some (i:Int):=rfl;rw[Ev.yz1 x0,Ev.yz1 (zzb hi'),hi2',zzi]
  have h5:=t5 (zc8 (mks es),l,mks m,mvs m,bs,bd) (by
   rw[z4f,Ev.kz1 (by rfl),zzi,zzi];have:=collect (l:=l) (m:=m) (bs:=bs) (bd:=bd) es.length es rfl [] (by simp at t3 ⊢;omega);rw[List.nil_append]at this
   exact this)
  rw[List.take_length,zhn]at h5;exact h5
 refine⟨(r,0),?_,?_,?_⟩;rw[z56,Ev.zz1 ho];simp only[zvo];rw[Ev.kz1 (by rfl),zzi,hg,Ev.kz1 (by rfl),show Option.getD (some (i:Int)) 0=(i:Int)from rfl,Ev.zz1 hc,Ev.yz2,hsame];have ho2:Ev (λn=>z27 n l p []) r:=by rw[zl2];exact r1
 rw[z54,Ev.zz1 hr,Ev.kz1 (by rfl),Ev.zz1 hf,Ev.kz1 (by rfl),Ev.zz1 ho2,Ev.yz2];show r.length<=1000;rw[<-hsame,(z6q _).length_eq];simp only[mks,List.length_map,List.length_nil]at t3 ⊢;omega;have hg:z1x m p=none:=by rw[hm,Qbs hnp]
 refine⟨([],6),?_,?_,by simp⟩;rw[z56,Ev.zz1 ho];simp only[zvo];rw[Ev.kz1 (by rfl),zzi,hg,Ev.zz3 (by rfl),Ev.yz2];rw[z54,Ev.zz1 hr,Ev.kz1 (by rfl),Ev.zz1 hf,Ev.zz3 (by rfl),Ev.yz2];exact(hno hok).elim
 rcases zqa hl hw with ⟨hok,_⟩|⟨_,hr⟩
 exact(hno hok).elim;refine⟨([],8),?_,?_,by simp⟩;rw[z56,Ev.zz1 ho];simp only[zvo];rw[Ev.zz3 (by rfl),Ev.yz2];rw[z54,Ev.zz1 hr,Ev.zz3 (by rfl),Ev.zz1 hr,Ev.yz2]
theorem zpb{l:zz6}{p:B8}{a b:kz7}(hb:l.length<=1048576)(hs:∀x∈l,x.size<=8388608)(hw:∀x∈l,x.wf):Ev (λn=>zza n l p a b) true:=by
 obtain⟨g,hg,hf⟩:=zur hb hs;have yes:Ev (λn=>kza n p l true b a) true:=by rw[z2v,Ev.zz3 (by rfl),Ev.yz2]
 rw[z7s,Ev.zz1 hg];cases g
 case true=>rw[Ev.zz3 (by rfl)];exact yes
 rw[Ev.kz1 (by rfl)];by_cases h5:(p.length:Int)>5000;rw[decide_eq_true h5];exact yes;rw[decide_eq_false h5];obtain⟨q1,q2⟩:=hf rfl;obtain⟨r,r1,r2,r3⟩:=zvj (l:=l) (p:=p) q1 (λx hx=>by have:=hw x hx;rw[zz9.z80]at this;exact this.2.2.2.1) q2;obtain⟨c,c1,c2⟩:=y34 a b
 have l2 (r3:r.1.length<=1000):∀k,k<=r.1.length->Ev (λn=>yza n (k:Int) r.1 r.1 b a) true :=
  down (by rw[z2w,Ev.kz1 (by simp),Ev.zz1 c1,Ev.zz1 c2,Ev.yz2];simp) λk hk ih=>by
   rw[z2w,Ev.zz3 (by simpa using hk),Ev.yz1 (zzb hk),Ev.yz1 (zzb hk),Ev.kz1 (by simp),wrk (by have:=r3;omega)];exact ih
 rw[z2v,Ev.kz1 (by rfl),Ev.zz1 r1,Ev.zz1 r2,Ev.kz1 (by simp),show(r.2 != r.2)=false by simp,z6h,Ev.kz1 (by rfl)];exact l2 r3 0 (Qbp _)
theorem y2e(l:zz6):l.length<=(l.map zz9.size).sum:=by
 induction l with
 |nil=>simp
 |cons x l ih=>have:1<=x.size:=by rw[zz9.size_eq];omega
               simp;omega
theorem y1i{l:zz6}{x:zz9}(h:x∈l):x.size<=(l.map zz9.size).sum:=by
 induction l with
 |nil=>cases h
 |cons y l ih=>
  rcases Qbi.1 h with rfl|h
  simp;have:=ih h;simp;omega
theorem zpm(x0:zz6)(x1:B8)(x2 x3:kz7)(g0:(Ty.slice zz9.ty).wf x0)(g2:kz7.ty.wf x2)(g3:kz7.ty.wf x3)
  (w:(x0.map zz9.size).sum+x1.length+x2.size+x3.size<=1048576):∃n,zza n x0 x1 x2 x3=some true:=by
 have:=y2e x0;exact(zpb (l:=x0) (p:=x1) (a:=x2) (b:=x3) (by omega) (λx hx=>by have:=y1i hx;omega) (λx hx=>g0 x hx)).get
end Go.Proofs.Ytdcbdnediadfcaa
