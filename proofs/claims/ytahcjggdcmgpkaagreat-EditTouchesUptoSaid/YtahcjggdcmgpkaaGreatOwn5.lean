/-
  CHANGED PROGRAMS: SETS OF NAMES, USES, LISTS PUT TOGETHER.
-/
import Derived.Test.YtahcjggdcmgpkaaGreatOwn4
namespace Go.Proofs.YtahcjggdcmgpkaaGreat
open Go Go.Ab
set_option linter.unusedVariables false
set_option linter.unusedSimpArgs false
def zn0 (K:List (List UInt8)) (s:List UInt8):List (List UInt8):=if s∈K then K else K++[s]
theorem zya {K:List (List UInt8)} {s x:List UInt8}:x∈zn0 K s↔x∈K∨x=s:=by
 unfold zn0
 split
 ·rename_i h;exact ⟨.inl,λq=>q.elim id λq=>by rw [q];exact h⟩
 ·rw [List.mem_append,List.mem_singleton]
theorem zwi {K:List (List UInt8)} {s:List UInt8} (h:K.Nodup):(zn0 K s).Nodup:=by
 unfold zn0
 split
 ·exact h
 ·rename_i q
  rw [List.nodup_append]
  exact ⟨h,by simp,λa ha b hb e=>q (by rw [<-List.mem_singleton.1 hb,<-e];exact ha)⟩
theorem z05k (K:List (List UInt8)) (s:List UInt8):K.length<=(zn0 K s).length∧((zn0 K s).length=K.length->zn0 K s=K):=by
 unfold zn0
 split
 ·exact ⟨Nat.le_refl _,λ_=>rfl⟩
 ·simp
structure SM (m:List (List UInt8×Bool)):Prop where
 all:∀p∈m,p.2=true
 nodup:(mks m).Nodup
theorem SM.nil:SM []:=⟨by simp,by simp [mks]⟩
theorem yba {T:Type} (m:List (List UInt8×T)) (s:List UInt8) (x:T):mks (z90 m s x)=zn0 (mks m) s:=by
 induction m with
 |nil=>show mks [(s,x)]=zn0 [] s;simp [mks,zn0]
 |cons q m ih =>
  rw [ynk]
  by_cases h:s=q.1
  · rw [if_pos h]
    show s::mks m=zn0 (q.1::mks m) s
    unfold zn0
    rw [if_pos (by rw [h];exact List.mem_cons_self),h]
  · rw [if_neg h]
    show q.1::mks (z90 m s x)=zn0 (q.1::mks m) s
    rw [ih]
    unfold zn0
    by_cases h2:s∈mks m
    · rw [if_pos h2,if_pos (List.mem_cons_of_mem _ h2)]
    · rw [if_neg h2,if_neg (by rw [List.mem_cons];exact λz=>z.elim h h2)];rfl
theorem SM.put {m:List (List UInt8×Bool)} (h:SM m) (s:List UInt8):SM (z90 m s true) :=
 ⟨λp hp=>by rcases yua hp with e|e
            · rw [e]
            · exact h.all p e,by rw [yba];exact zwi h.nodup⟩
theorem SM.get {m:List (List UInt8×Bool)} (h:SM m) (s:List UInt8):z3k m s=if s∈mks m then some true else none:=by
 by_cases q:s∈mks m
 ·rw [if_pos q]
  cases hm:z3k m s with
  |none=>exact (y06.1 hm q).elim
  |some b =>
   obtain ⟨p,h1,h2⟩:=yet hm
   rw [<-h2,h.all p h1]
 ·rw [if_neg q,y06.2 q]
theorem SM.mk' {m:List (List UInt8×Bool)} (h:SM m):MK m (mks m):=λs=>by rw [h.get s];by_cases q:s∈mks m <;> simp [q]
def EqS (R K:List (List UInt8)):Prop:=zdk R∧∀x,x∈R↔x∈K
theorem EqS.nil:EqS [] []:=⟨by simp [zdk],λ_=>Iff.rfl⟩
theorem EqS.put {R K:List (List UInt8)} (h:EqS R K) (s:List UInt8):EqS (ins R s) (zn0 K s):=⟨znl h.1,λx=>by rw [znz,zya,h.2]⟩
theorem EqS.sort {R K:List (List UInt8)} (h:EqS R K) (hn:K.Nodup):z02 K=R :=
 zji (zif hn) h.1 λx=>by rw [(zdj K).mem_iff,h.2]
theorem y04 {T:Type} (m:List (List UInt8×T)):(mks m).length=m.length:=by simp [mks]
theorem z06c {T:Type} (m:List (List UInt8×T)):(mvs m).length=m.length:=by simp [mvs]
theorem y5v {m:List (List UInt8×Bool)} (h:SM m) (hl:(mks m).length<=8388608) (hs:∀s∈mks m,s.length<=8388608):Ev (λn=>zc1 n (mks m) (mvs m)) (z02 (mks m),mks m,mvs m):=Ev.pure (by
 show (if _ then _ else _)=_
 rw [if_pos ⟨h.nodup,by rw [y04,z06c],hl,hs⟩])
noncomputable def zcy (K:List (List UInt8)) (e:zz1):Bool:=(z5j e).1.any λs=>decide (s∈K)
theorem yn3 {R K:List (List UInt8)} (h:∀x,x∈R↔x∈K) (e:zz1):zcy R e=zcy K e:=by
 unfold zcy
 congr 1
 funext s
 exact decide_eq_decide.2 (h s)
theorem y66 {e:zz1} {m:List (List UInt8×Bool)} {K:List (List UInt8)} (hm:MK m K) (hw:e.wf) (hs:e.size<=8388608):Ev (λn=>zcm n e (mks m) (mvs m)) (zcy K e,mks m,mvs m):=by
 have hl:=zwa e hs
 obtain ⟨i,h1,h2⟩:=zq1 (L:=λn k=>kzf n k (z5j e).1 ((z5j e).1.length:Int) (mks m) (mvs m)) (l:=(z5j e).1) (p:=λs=>decide (s∈K)) (st:=(mks m,mvs m))
  (by rw [z2i,Ev.kz1 (by simp),Ev.kz0,kz3]) λk hk v=>by
   have hf:Ev (λn=>zef n (z5j e).1[k] (mks m) (mvs m)) (decide ((z5j e).1[k]∈K),mks m,mvs m):=by
    rw [ydj,Ev.kz0,kz3,hm]
   constructor
   ·intro hp
    rw [z2i,Ev.yz1 (by simpa using hk),Ev.kz2 (yz6 hk),kz3,Ev.yz0 hf,Ev.yz1 hp,Ev.kz0,kz3]
   ·intro hp hv
    rw [z2i,Ev.yz1 (by simpa using hk),Ev.kz2 (yz6 hk),kz3,Ev.yz0 hf,Ev.kz1 hp,kz3,wrk (by omega)];exact hv
 have hc:Ev (λn=>yzm n (z5j e).1 (mks m) (mvs m)) (zcy K e,mks m,mvs m):=by
  rw [zh2,kz3,Ev.yz0 (by rw [zje,kz3];exact h1),Ev.kz0,h2,kz3,zcy]
 rw [yri,zz1.yz5,Ev.yz0 (yco hw hs),kz3,Ev.yz0 hc,Ev.kz0,kz3]
theorem yik {l:List zz1} {m:List (List UInt8×Bool)} {K:List (List UInt8)} (hm:MK m K) (hw:∀e∈l,e.wf) (hs:∀e∈l,e.size<=8388608) (hl:l.length<=8388608):Ev (λn=>kzg n l (mks m) (mvs m)) (l.any (zcy K),mks m,mvs m):=by
 obtain ⟨i,h1,h2⟩:=zq1 (L:=λn k=>kzc n k l (l.length:Int) (mks m) (mvs m)) (l:=l) (p:=zcy K) (st:=(mks m,mvs m))
  (by rw [z1a,Ev.kz1 (by simp),Ev.kz0,kz3]) λk hk v=>by
   have hx:=List.getElem_mem hk
   have hf:Ev (λn=>z9p n l[k] (mks m) (mvs m)) (zcy K l[k],mks m,mvs m):=by
    rw [y55,kz3,zz1.yz5,Ev.yz0 (y66 hm (hw _ hx) (hs _ hx)),Ev.kz0,kz3]
   constructor
   ·intro hp
    rw [z1a,Ev.yz1 (by simpa using hk),Ev.kz2 (yz6 hk),kz3,zz1.yz5,Ev.yz0 hf,Ev.yz1 hp,Ev.kz0,kz3]
   ·intro hp hv
    rw [z1a,Ev.yz1 (by simpa using hk),Ev.kz2 (yz6 hk),kz3,zz1.yz5,Ev.yz0 hf,Ev.kz1 hp,kz3,wrk (by omega)];exact hv
 rw [zev,kz3,Ev.yz0 (by rw [zgd,kz3];exact h1),Ev.kz0,h2,kz3]
theorem zw4 {e:zz1} {R:List (List UInt8)} (hs:e.size<=8388608) (hR:R.length<=8388608):Ev (λn=>z95 n e R) (zcy R e):=by
 have hl:=zwa e hs
 rw [ykn,zz1.yz5,Ev.yz0 (y87 hs),<-ifB (zcy R e)]
 refine zgn (L:=λn k=>z7q n k (z5j e).1 R) (by rw [zuk,Ev.kz1 (by simp),Ev.kz0]) λk hk v hv => ?_
 have hge:decide (atI R (z5j e).1[k]>=0)=decide ((z5j e).1[k]∈R):=decide_eq_decide.2 (by
  have:=z4g (l:=R) (s:=(z5j e).1[k])
  constructor
  ·intro h;exact Classical.byContradiction λq=>by have:=this.2 q;omega
  ·intro h;exact Classical.byContradiction λq=>this.1 (by omega) h)
 rw [zuk,Ev.yz1 (by simpa using hk),Ev.kz2 (yz6 hk),Ev.yz0 (zmr hR),hge,wrk (by omega),Ev.pif,Ev.kz0]
 split
 ·rfl
 ·exact hv
theorem z02y (x:List UInt8):∀(e:zz1) (acc:List (List UInt8)),x∈zn8 e acc↔x∈acc∨x∈zn8 e []:=zxv λe ih acc=>by
 have hL:∀(l:List zz1),(∀y∈l,y∈e.args)->∀acc:List (List UInt8),x∈z7u l acc↔x∈acc∨x∈z7u l []:=λl=>by
  induction l with
  |nil=>intro _ acc;simp [z7u]
  |cons y l ihl =>
   intro hm acc
   have h1:=ih y (hm y List.mem_cons_self)
   have h2:=ihl λz hz=>hm z (List.mem_cons_of_mem _ hz)
   simp only [z7u]
   rw [h2 (zn8 y acc),h2 (zn8 y []),h1 acc,or_assoc]
 have hA:=hL e.args λ_ h=>h
 rw [zuv,zuv,hA,hA (if e.op=2 then ins [] e.name else [])]
 split
 ·rw [znz,znz,or_assoc];simp
 ·simp
theorem y36 (x:List UInt8):∀(l:List zz1) (acc:List (List UInt8)),x∈z7u l acc↔x∈acc∨∃e∈l,x∈zn8 e []
 |[],acc=>by simp [z7u]
 |e::l,acc=>by
  simp only [z7u]
  rw [y36 x l,z02y x e acc]
  simp only [List.mem_cons,exists_eq_or_imp,or_assoc]
theorem yun {l:List zz1} (h:zo7 (z34 l)=true):∀x∈l,zo7 x=true:=by
 rw [yf7] at h
 have:=(Bool.and_eq_true_iff.1 (Bool.and_eq_true_iff.1 h).2).2
 rw [z00b] at this
 exact List.all_eq_true.1 this
theorem ycd {l:List zz1} (h:z3m (z34 l)=0):∀e∈l,z3m e=0:=λe he=>by
 obtain ⟨h1,h2,h3⟩:=zyh h
 have f:=yun h1 e he
 have p1:z99 e<=yzu l:=ywb he
 have p2:z99 (z34 l)=1+yzu l:=zee _
 have d2:zi4 (z34 l)=max 1 (zl3 l):=y4g _
 have d1:∀{l:List zz1},e∈l->zi4 e<=zl3 l:=λ{l}=>by
  induction l with
  |nil=>intro h;cases h
  |cons y l ih =>
   intro h
   simp only [zl3]
   rcases List.mem_cons.1 h with rfl|h
   · omega
   · have:=ih h;omega
 have:=d1 he
 unfold z3m
 rw [if_neg (by omega),if_pos f]
theorem yec {K:List (List UInt8)} {l:List zz1} (h:z3m (z34 l)=0):zcy K (z34 l)=l.any (zcy K):=by
 have hn:(z5j (z34 l)).1=z7u l []:=by
  unfold z5j;rw [if_neg (by simp [h]),zuv];rfl
 rw [Bool.eq_iff_iff]
 unfold zcy
 rw [hn,List.any_eq_true,List.any_eq_true]
 simp only [decide_eq_true_eq,List.any_eq_true]
 constructor
 ·rintro ⟨s,h1,h2⟩
  rcases (y36 s l []).1 h1 with q|⟨e,he,hs⟩
  ·cases q
  ·exact ⟨e,he,s,by unfold z5j;rw [if_neg (by simp [ycd h e he])];exact hs,h2⟩
 ·rintro ⟨e,he,s,h1,h2⟩
  refine ⟨s,(y36 s l []).2 (.inr ⟨e,he,?_⟩),h2⟩
  unfold z5j at h1;rw [if_neg (by simp [ycd h e he])] at h1;exact h1
theorem y8t {a b:List kz6} (h:a.length+b.length<=8388608):Ev (λn=>yzs n [a,b]) (.ok (a++b)):=by
 have w1:IntKind.i64.wrap (0+(a.length:Int))=(a.length:Int):=by rw [Int.zero_add];exact wI (by omega)
 have w2:IntKind.i64.wrap ((a.length:Int)+(b.length:Int))=((a.length+b.length:Nat):Int):=by rw [wI (by omega)];rfl
 have hg:Ev (λn=>z6r n [] ((a.length+b.length:Nat):Int)) []:=Ev.pure (by show (if _ then _ else _)=_;rw [if_pos (by omega)])
 have l2:Ev (λn=>yzh n 0 [a,b] 2 []) (.ok (a++b)):=by
  rw [z3c,Ev.yz1 (by decide),Ev.kz2 (show ix [a,b] 0=some a from rfl),Ev.kz2 (z1j (by simp;omega)),show IntKind.i64.wrap (0+1)=1 by decide,List.nil_append]
  rw [z3c,Ev.yz1 (by decide),Ev.kz2 (show ix [a,b] 1=some b from rfl),Ev.kz2 (z1j (by omega)),show IntKind.i64.wrap (1+1)=2 by decide]
  rw [z3c,Ev.kz1 (by decide),Ev.kz0]
 rw [zkr]
 rw [z35,Ev.yz1 (by simp),Ev.kz2 (show ix [a,b] 0=some a from rfl),w1,Ev.kz1 (decide_eq_false (by omega)),z9o,show IntKind.i64.wrap (0+1)=1 by decide]
 rw [z35,Ev.yz1 (by simp),Ev.kz2 (show ix [a,b] 1=some b from rfl),w2,Ev.kz1 (decide_eq_false (by omega)),z9o,show IntKind.i64.wrap (1+1)=2 by decide]
 rw [z35,Ev.kz1 (by simp),Ev.yz0 hg]
 exact l2
theorem yw3 {a b:List kz4} (h:a.length+b.length<=8388608):Ev (λn=>kzs n [a,b]) (.ok (a++b)):=by
 have w1:IntKind.i64.wrap (0+(a.length:Int))=(a.length:Int):=by rw [Int.zero_add];exact wI (by omega)
 have w2:IntKind.i64.wrap ((a.length:Int)+(b.length:Int))=((a.length+b.length:Nat):Int):=by rw [wI (by omega)];rfl
 have hg:Ev (λn=>z6m n [] ((a.length+b.length:Nat):Int)) []:=Ev.pure (by show (if _ then _ else _)=_;rw [if_pos (by omega)])
 have l2:Ev (λn=>kzh n 0 [a,b] 2 []) (.ok (a++b)):=by
  rw [z3f,Ev.yz1 (by decide),Ev.kz2 (show ix [a,b] 0=some a from rfl),Ev.kz2 (z1j (by simp;omega)),show IntKind.i64.wrap (0+1)=1 by decide,List.nil_append]
  rw [z3f,Ev.yz1 (by decide),Ev.kz2 (show ix [a,b] 1=some b from rfl),Ev.kz2 (z1j (by omega)),show IntKind.i64.wrap (1+1)=2 by decide]
  rw [z3f,Ev.kz1 (by decide),Ev.kz0]
 rw [zl2]
 rw [z3b,Ev.yz1 (by simp),Ev.kz2 (show ix [a,b] 0=some a from rfl),w1,Ev.kz1 (decide_eq_false (by omega)),z9r,show IntKind.i64.wrap (0+1)=1 by decide]
 rw [z3b,Ev.yz1 (by simp),Ev.kz2 (show ix [a,b] 1=some b from rfl),w2,Ev.kz1 (decide_eq_false (by omega)),z9r,show IntKind.i64.wrap (1+1)=2 by decide]
 rw [z3b,Ev.kz1 (by simp),Ev.yz0 hg]
 exact l2
theorem y6j {s:List UInt8} {acc:List (List UInt8)} (hb:acc.length<=8000000):Ev (λn=>zcs n acc s) (ins acc s):=by
 have fin:∀k,k<=acc.length->acc.takeWhile (λx=>Op.bytesLess x s)=acc.take k->acc.dropWhile (λx=>Op.bytesLess x s)=acc.drop k->Ev (λn=>zab n acc s (k:Int) false) (ins acc s):=λk hk ht hd=>by
  have hins:=ysl s acc
  rw [ht,hd] at hins
  have put:ins acc s=acc.take k++s::acc.drop k->Ev (λn=>za9 n acc (k:Int) s false) (ins acc s):=λhi=>by
   have h3:sub acc (k:Int) (acc.length:Int)=some (acc.drop k):=by
    unfold sub
    rw [if_pos (by omega)];simp
   rw [zx4,Ev.kz1 (by rfl),Ev.kz2 (ywl hk),Ev.kz2 (z1j (by simp;omega)),Ev.kz2 h3,Ev.kz2 (z1j (by simp;omega)),Ev.kz2 (z1j (by simp;omega)),Ev.kz0,hi]
   simp
  rw [zx3,Ev.kz1 (by rfl)]
  by_cases he:k=acc.length
  ·rw [Ev.kz1 (by simp;omega)]
   exact put (by rw [hins,if_neg (by rw [List.drop_of_length_le (by omega)];simp)])
  ·have hlt:k<acc.length:=by omega
   rw [Ev.yz1 (by simp;omega),Ev.kz2 (yz6 hlt)]
   have hhead:(acc.drop k).head?=some acc[k]:=by rw [<-List.getElem_cons_drop (h:=hlt)];rfl
   by_cases heq:acc[k]=s
   ·rw [show (acc[k]==s)=true by simpa using heq,zx4,Ev.yz1 (by rfl),Ev.kz0]
    rw [hins,if_pos (by rw [hhead,heq])]
   ·rw [show (acc[k]==s)=false by simpa using heq]
    exact put (by rw [hins,if_neg (by rw [hhead];simpa using heq)])
 have place:∀k,k<=acc.length->(acc.take k).all (λx=>Op.bytesLess x s)=true->Ev (λn=>z7g n (k:Int) acc s) (ins acc s) :=
  down (Q:=λk=>(acc.take k).all (λx=>Op.bytesLess x s)=true->Ev (λn=>z7g n (k:Int) acc s) (ins acc s)) (λhall=>by
   rw [List.take_length] at hall
   rw [List.all_eq_true] at hall
   rw [zwy,Ev.kz1 (by simp)]
   refine fin _ (Nat.le_refl _) ?_ ?_
   ·rw [List.take_length];exact (y2t hall).1
   ·rw [List.drop_length];exact (y2t hall).2) λk hk ihk hall=>by
   have hsplit:acc=acc.take k++acc.drop k:=(List.take_append_drop k acc).symm
   rw [zwy,Ev.yz1 (by simpa using hk),Ev.kz2 (yz6 hk)]
   cases hb:Op.bytesLess acc[k] s
   ·rw [List.all_eq_true] at hall
    refine fin k (by omega) ?_ ?_
    ·conv=>lhs;rw [hsplit]
     rw [List.takeWhile_append_of_pos hall,<-List.getElem_cons_drop (h:=hk),List.takeWhile_cons_of_neg (by simp [hb]),List.append_nil]
    ·conv=>lhs;rw [hsplit]
     rw [List.dropWhile_append_of_pos hall,<-List.getElem_cons_drop (h:=hk),List.dropWhile_cons_of_neg (by simp [hb])]
   ·rw [zx3,Ev.yz1 (by rfl),wrk (by omega)]
    refine ihk ?_
    rw [<-zbb hk,List.all_append,hall];simp [hb]
 rw [ys3]
 exact place 0 (Nat.zero_le _) (by simp)
end Go.Proofs.YtahcjggdcmgpkaaGreat
namespace Go.Proofs.YtahcjggdcmgpkaaGreat
open Go Go.Ab
set_option linter.unusedVariables false
set_option linter.unusedSimpArgs false
def e0:zz1:=⟨0,⟨0,⟨0,0⟩,false,[],[]⟩,[],[]⟩
def valOf (p:zz0) (s:List UInt8):zz1:=match p.attrs[(atI (kz8 p) s).toNat]? with
 |some t=>t.value
 |none=>e0
theorem z00l {p:zz0} {s:List UInt8} (h:s∈kz8 p):∃i:Nat,∃hi:i<p.attrs.length,atI (kz8 p) s=(i:Int)∧p.attrs[i].name=s∧valOf p s=p.attrs[i].value:=by
 obtain ⟨i,hi,h1,h2,_⟩:=zyb h
 have hi':i<p.attrs.length:=by simpa [kz8] using hi
 refine ⟨i,hi',h1,by simpa [kz8] using h2,?_⟩
 unfold valOf
 rw [h1,Int.toNat_natCast,List.getElem?_eq_getElem hi']
theorem z05f {p:zz0} (hn:(kz8 p).Nodup) {k:Nat} (hk:k<p.attrs.length):valOf p p.attrs[k].name=p.attrs[k].value:=by
 have hk':k<(kz8 p).length:=by simpa [kz8] using hk
 have hx:(kz8 p)[k]=p.attrs[k].name:=by simp [kz8]
 obtain ⟨i,hi,h1,h2,h3⟩:=z00l (p:=p) (s:=p.attrs[k].name) (by rw [<-hx];exact List.getElem_mem hk')
 have hi':i<(kz8 p).length:=by simpa [kz8] using hi
 have:i=k:=(List.getElem_inj hn).1 (show (kz8 p)[i]=(kz8 p)[k] by rw [hx,<-h2];simp [kz8])
 subst this
 exact h3
theorem y27 {p:zz0} {s:List UInt8} (hs:p.size<=4000000):(valOf p s).size<=8388608:=by
 unfold valOf
 split
 ·rename_i t h
  have h1:=zx8 (List.mem_of_getElem? h)
  have h2:=@zx9 t
  omega
 ·unfold e0;rw [zz1.size_eq,yz2.size_eq,zz7.size_eq];simp
noncomputable def ydz (p q:zz0) (K:List (List UInt8)) (x:kz6):Bool := !decide (x.name∈kz8 p)||(!decide (x.name∈kz8 q)||(!eqB (valOf p x.name) (valOf q x.name)||zcy K x.value))
noncomputable def zfx (p q:zz0) (K:List (List UInt8)) (x:kz6):List (List UInt8):=if ydz p q K x=true then zn0 K x.name else K
noncomputable def zlc (p q:zz0) (K:List (List UInt8)):List (List UInt8):=(p.attrs++q.attrs).foldl (zfx p q) K
noncomputable def itN (p q:zz0):Nat->List (List UInt8)
 |0=>[]
 |t+1=>zlc p q (itN p q t)
def NN (p q:zz0):Nat:=p.attrs.length+q.attrs.length
noncomputable def nK (p q:zz0):List (List UInt8):=itN p q (NN p q+1)
structure y1d (p q:zz0) (K:List (List UInt8)):Prop where
 nodup:K.Nodup
 sub:∀x∈K,x∈kz8 p++kz8 q
theorem y1d.len {p q:zz0} {K:List (List UInt8)} (h:y1d p q K):K.length<=NN p q:=by
 have:=zf5 h.nodup h.sub
 rw [List.length_append] at this
 simpa [kz8,NN] using this
theorem y1d.step {p q:zz0} {K:List (List UInt8)} (h:y1d p q K) {x:kz6} (hx:x∈p.attrs++q.attrs):y1d p q (zfx p q K x):=by
 unfold zfx
 split
 ·refine ⟨zwi h.nodup,λy hy => ?_⟩
  rcases zya.1 hy with hy|hy
  ·exact h.sub y hy
  ·rw [hy]
   rw [List.mem_append] at hx ⊢
   exact hx.imp (λz=>List.mem_map_of_mem z) λz=>List.mem_map_of_mem z
 ·exact h
theorem ymq {p q:zz0}:∀(l:List kz6) {K:List (List UInt8)},y1d p q K->(∀x∈l,x∈p.attrs++q.attrs)->y1d p q (l.foldl (zfx p q) K)
 |[],_,h,_=>h
 |x::l,K,h,hl=>ymq l (h.step (hl x List.mem_cons_self)) λy hy=>hl y (List.mem_cons_of_mem _ hy)
theorem zs9 (p q:zz0):∀t,y1d p q (itN p q t)
 |0=>⟨by simp [itN],by simp [itN]⟩
 |t+1=>ymq _ (zs9 p q t) λ_ h=>h
theorem z04w (p q:zz0) (K:List (List UInt8)) (x:kz6):K.length<=(zfx p q K x).length∧((zfx p q K x).length=K.length->zfx p q K x=K):=by
 unfold zfx
 split
 ·exact z05k K x.name
 ·exact ⟨Nat.le_refl _,λ_=>rfl⟩
theorem ymt {p q:zz0}:∀(l:List kz6) (K:List (List UInt8)),K.length<=(l.foldl (zfx p q) K).length∧((l.foldl (zfx p q) K).length=K.length->l.foldl (zfx p q) K=K)
 |[],K=>⟨Nat.le_refl _,λ_=>rfl⟩
 |x::l,K=>by
  obtain ⟨a1,a2⟩:=z04w p q K x
  obtain ⟨b1,b2⟩:=ymt l (zfx p q K x)
  refine ⟨Nat.le_trans a1 b1,λh => ?_⟩
  show l.foldl (zfx p q) (zfx p q K x)=K
  have h:(l.foldl (zfx p q) (zfx p q K x)).length=K.length:=h
  rw [b2 (by omega)]
  exact a2 (by omega)
theorem yuc (p q:zz0) (K:List (List UInt8)):K.length<=(zlc p q K).length∧((zlc p q K).length=K.length->zlc p q K=K):=ymt _ K
theorem ypv {p q:zz0} {t:Nat} (h:zlc p q (itN p q t)=itN p q t):∀m,t<=m->itN p q m=itN p q t:=λm hm=>by
 induction m with
 |zero=>have:t=0:=by omega
        subst this;rfl
 |succ m ih =>
  rcases Nat.lt_or_ge m t with q'|q'
  · have:t=m+1:=by omega
    subst this;rfl
  · rw [itN,ih q',h]
theorem z07y (p q:zz0):∃t,t<=NN p q+1∧zlc p q (itN p q t)=itN p q t:=by
 refine Classical.byContradiction λhno => ?_
 have grow:∀t,t<=NN p q+2->t<=(itN p q t).length:=λt=>by
  induction t with
  |zero=>intro _;exact Nat.zero_le _
  |succ t ih =>
   intro ht
   have h1:=ih (by omega)
   obtain ⟨a1,a2⟩:=yuc p q (itN p q t)
   have h2:zlc p q (itN p q t)≠itN p q t:=λe=>hno ⟨t,by omega,e⟩
   show t+1<=(zlc p q (itN p q t)).length
   rcases Nat.lt_or_ge (itN p q t).length (zlc p q (itN p q t)).length with z|z
   · omega
   · exact (h2 (a2 (by omega))).elim
 have h1:=grow _ (Nat.le_refl _)
 have h2:=(zs9 p q (NN p q+2)).len
 omega
theorem z07s {p q:zz0} {t:Nat} (h:zlc p q (itN p q t)=itN p q t):itN p q t=nK p q:=by
 obtain ⟨s,hs,h2⟩:=z07y p q
 have e1:=ypv h2 (NN p q+1) hs
 have h3:zlc p q (itN p q (NN p q+1))=itN p q (NN p q+1):=by rw [e1,h2]
 rcases Nat.lt_or_ge t (NN p q+1) with z|z
 ·exact (ypv h _ (by omega)).symm
 ·exact ypv h3 _ z
def VM (p:zz0) (m:List (List UInt8×zz1)) (K:List (List UInt8)):Prop:=∀s,z3k m s=if s∈K then some (valOf p s) else none
theorem y8g {p:zz0} (hs:p.size<=4000000) (hn:(kz8 p).Nodup):∃m,VM p m (kz8 p)∧Ev (λn=>z9v n p) (mks m,mvs m):=by
 have:=@zjj p
 have hal:(kz8 p).length=p.attrs.length:=by simp [kz8]
 have loop:∀k,k<=p.attrs.length->∀m,VM p m ((kz8 p).take k)->∃m',VM p m' (kz8 p)∧Ev (λn=>z4w n (k:Int) p.attrs (p.attrs.length:Int) (mks m) (mvs m)) (mks m',mvs m') :=
  down (λm hm=>⟨m,by rwa [<-hal,List.take_length] at hm,by rw [zr0,Ev.kz1 (by simp),Ev.kz0,kz3]⟩) λk hk ih m hm=>by
   obtain ⟨m',h1,h2⟩:=ih (z90 m p.attrs[k].name p.attrs[k].value) λs=>by
    rw [y4r,hm s,zl8 hk]
    by_cases q:s=p.attrs[k].name
    ·subst q;simp [z05f hn hk]
    ·simp [q]
   refine ⟨m',h1,?_⟩
   rw [zr0,Ev.yz1 (by simpa using hk),Ev.kz2 (yz6 hk),kz3,zz1.yz5,wrk (by omega)];exact h2
 obtain ⟨m,h1,h2⟩:=loop 0 (Nat.zero_le _) [] λs=>by simp [z3k]
 exact ⟨m,h1,by rw [yb4];exact h2⟩
theorem yd3 {p q:zz0} (hp:p.wf) (hq:q.wf) (hsp:p.size<=1048576) (hsq:q.size<=1048576) (hnp:(kz8 p).Nodup) (hnq:(kz8 q).Nodup) :
  ∃m,SM m∧mks m=nK p q∧Ev (λn=>zd5 n p q) (.ok (mks m,mvs m)):=by
 have lp:=@zjj p
 have lq:=@zjj q
 obtain ⟨ma,ha1,ha2⟩:=y8g (p:=p) (by omega) hnp
 obtain ⟨mb,hb1,hb2⟩:=y8g (p:=q) (by omega) hnq
 have hlen:(p.attrs++q.attrs).length=NN p q:=by rw [List.length_append];rfl
 have hN:NN p q<=2097152:=by unfold NN;omega
 have pass:∀(before:Int) (v:Res ((List UInt8)×Unit) ((List (List UInt8))×(List Bool))),∀k,k<=(p.attrs++q.attrs).length->∀m,SM m ->
   (∀m',SM m'->mks m'=((p.attrs++q.attrs).drop k).foldl (zfx p q) (mks m)->Ev (λn=>z3e n ((p.attrs++q.attrs).length:Int) (p.attrs++q.attrs) before ((p.attrs++q.attrs).length:Int) (mks m') (mvs m') (mks mb) (mvs mb) (mks ma) (mvs ma) q p) v) ->
   Ev (λn=>z3e n (k:Int) (p.attrs++q.attrs) before ((p.attrs++q.attrs).length:Int) (mks m) (mvs m) (mks mb) (mvs mb) (mks ma) (mvs ma) q p) v:=λbefore v =>
  down (λm hm h=>h m hm (by rw [List.drop_length];rfl)) λk hk ih m hm h=>by
   have hx:=List.getElem_mem hk
   have hsx:(p.attrs++q.attrs)[k].value.wf∧(p.attrs++q.attrs)[k].value.size<=8388608:=by
    rcases List.mem_append.1 hx with z|z
    ·have:=zx8 z;have:=@zx9 (p.attrs++q.attrs)[k];exact ⟨z00o hp z,by omega⟩
    ·have:=zx8 z;have:=@zx9 (p.attrs++q.attrs)[k];exact ⟨z00o hq z,by omega⟩
   have hixx:=yz6 hk
   rw [<-List.getElem_cons_drop (h:=hk),List.foldl_cons] at h
   generalize hxe:(p.attrs++q.attrs)[k]=x at *
   have l2:∀b:Bool,b=ydz p q (mks m) x->Ev (λn=>z36 n (p.attrs++q.attrs) before ((p.attrs++q.attrs).length:Int) (k:Int) b (mks m) (mvs m) (mks mb) (mvs mb) (mks ma) (mvs ma) q p x) v:=λb hb=>by
    have l3:∀m',SM m'->mks m'=zfx p q (mks m) x->Ev (λn=>z7p n (p.attrs++q.attrs) before ((p.attrs++q.attrs).length:Int) (k:Int) (mks m') (mvs m') (mks mb) (mvs mb) (mks ma) (mvs ma) q p) v:=λm' h1 h2=>by
     rw [y6d,wrk (by omega),kz3,kz3,kz3]
     exact ih m' h1 λm'' h3 h4=>h m'' h3 (by rw [h4,h2])
    cases b with
    |true=>rw [zu3,Ev.yz1 (by rfl),kz3,kz3,kz3];exact l3 _ (hm.put _) (by rw [yba];unfold zfx;rw [if_pos hb.symm])
    |false=>rw [zu3,Ev.kz1 (by rfl),kz3,kz3,kz3];exact l3 _ hm (by unfold zfx;rw [if_neg (by rw [<-hb];simp)])
   have e1:Option.isSome (z3k ma x.name)=decide (x.name∈kz8 p):=by rw [ha1];by_cases z:x.name∈kz8 p <;> simp [z]
   have e2:Option.isSome (z3k mb x.name)=decide (x.name∈kz8 q):=by rw [hb1];by_cases z:x.name∈kz8 q <;> simp [z]
   rw [znn,Ev.yz1 (decide_eq_true (by omega)),Ev.kz2 hixx,kz3,kz3,kz3,e1,e2,kz6.yz5]
   by_cases z1:x.name∈kz8 p
   case neg=>rw [decide_eq_false z1,Ev.yz1 (by rfl)];exact l2 true (by unfold ydz;rw [decide_eq_false z1];rfl)
   rw [decide_eq_true z1,Ev.kz1 (by rfl)]
   by_cases z2:x.name∈kz8 q
   case neg=>rw [decide_eq_false z2,Ev.yz1 (by rfl)];exact l2 true (by unfold ydz;rw [decide_eq_false z2,decide_eq_true z1];rfl)
   rw [decide_eq_true z2,Ev.kz1 (by rfl)]
   have g1:Option.getD (z3k ma x.name) (zz1.mk 0 (yz2.mk 0 (zz7.mk 0 0) false [] []) [] [])=valOf p x.name:=by rw [ha1,if_pos z1];rfl
   have g2:Option.getD (z3k mb x.name) (zz1.mk 0 (yz2.mk 0 (zz7.mk 0 0) false [] []) [] [])=valOf q x.name:=by rw [hb1,if_pos z2];rfl
   rw [g1,g2,zz1.yz5,zz1.yz5,Ev.yz0 (zyy _ _ (y27 (by omega)))]
   cases z3:eqB (valOf p x.name) (valOf q x.name) with
   |false=>rw [Ev.yz1 (by rfl)];exact l2 true (by unfold ydz;rw [decide_eq_true z1,decide_eq_true z2,z3];rfl)
   |true =>
    rw [Ev.kz1 (by rfl),zz1.yz5,Ev.yz0 (y66 hm.mk' hsx.1 hsx.2),kz3]
    exact l2 _ (by unfold ydz;rw [decide_eq_true z1,decide_eq_true z2,z3];rfl)
 have outer:∀d t m,SM m->mks m=itN p q t->NN p q-(mks m).length=d->∃m',SM m'∧mks m'=nK p q∧Ev (λn=>z7r n (mks m) (mvs m) (mks mb) (mvs mb) (mks ma) (mvs ma) q p) (.ok (mks m',mvs m')):=λd=>by
  induction d using Nat.strongRecOn with
  |ind d ih =>
   intro t m hm hk hd
   have hg:=zs9 p q t
   obtain ⟨c1,c2⟩:=yuc p q (mks m)
   have hgn:=(zs9 p q (t+1)).len
   have hpk:zlc p q (mks m)=itN p q (t+1):=by rw [hk];rfl
   have hml:=y04 m
   by_cases hst:(zlc p q (mks m)).length=(mks m).length
   ·
    have hfix:=c2 hst
    have hnk:mks m=nK p q:=by rw [hk];exact z07s (by rw [<-hk];exact hfix)
    have:∃m',SM m'∧mks m'=nK p q∧Ev (λn=>z3e n 0 (p.attrs++q.attrs) ((mks m).length:Int) ((p.attrs++q.attrs).length:Int) (mks m) (mvs m) (mks mb) (mvs mb) (mks ma) (mvs ma) q p) (.ok (mks m',mvs m')):=by
     have hex:∃m',SM m'∧mks m'=mks m∧∀m'',SM m''->mks m''=mks m->m''=m':=by
      refine ⟨m,hm,rfl,λm'' h1 h2 => ?_⟩
      have e:∀a:List (List UInt8×Bool),(∀p∈a,p.2=true)->a=(mks a).map λs=>(s,true):=λa ha=>by
       induction a with
       |nil=>rfl
       |cons y a iha =>
        have:=ha y List.mem_cons_self
        show y::a=(y.1,true)::(mks a).map _
        rw [<-iha λz hz=>ha z (List.mem_cons_of_mem _ hz),<-this]
      rw [e m'' h1.all,e m hm.all,h2]
     obtain ⟨m',a1,a2,a3⟩:=hex
     refine ⟨m',a1,a2.trans hnk,?_⟩
     refine pass _ _ 0 (Nat.zero_le _) m hm λm'' h1 h2 => ?_
     rw [List.drop_zero] at h2
     have h2:mks m''=zlc p q (mks m):=h2
     rw [hfix] at h2
     have:=a3 m'' h1 h2
     subst this
     rw [znn,Ev.kz1 (by simp),kz3,Ev.yz1 (by rw [<-y04 m'',h2];simp),Ev.kz0]
    obtain ⟨m',a1,a2,a3⟩:=this
    refine ⟨m',a1,a2,?_⟩
    rw [zv7,Ev.yz0 (y8t (by rw [<-List.length_append,hlen];omega)),Ev.znr,kz3,kz3,kz3,<-y04 m]
    exact a3
   · have hlt:(mks m).length<(zlc p q (mks m)).length:=by omega
     let m1:List (List UInt8×Bool):=(zlc p q (mks m)).map λs=>(s,true)
     have k1:mks m1=zlc p q (mks m):=by
      show List.map Prod.fst (List.map _ (zlc p q (mks m)))=_
      rw [List.map_map];exact List.map_id _
     have s1:SM m1:=⟨λy hy=>by obtain ⟨s,_,rfl⟩:=List.mem_map.1 hy;rfl,by rw [k1,hpk];exact (zs9 p q (t+1)).nodup⟩
     have hb1:(zlc p q (mks m)).length<=NN p q:=by rw [hpk];exact hgn
     obtain ⟨m',a1,a2,a3⟩:=ih (NN p q-(mks m1).length) (by rw [k1];omega) (t+1) m1 s1 (by rw [k1,hpk]) rfl
     refine ⟨m',a1,a2,?_⟩
     rw [zv7,Ev.yz0 (y8t (by rw [<-List.length_append,hlen];omega)),Ev.znr,kz3,kz3,kz3,<-y04 m]
     refine pass _ _ 0 (Nat.zero_le _) m hm λm'' h1 h2 => ?_
     rw [List.drop_zero] at h2
     have h2:mks m''=zlc p q (mks m):=h2
     have e:m''=m1:=by
      have e:∀a:List (List UInt8×Bool),(∀p∈a,p.2=true)->a=(mks a).map λs=>(s,true):=λa ha=>by
       induction a with
       |nil=>rfl
       |cons y a iha =>
        have:=ha y List.mem_cons_self
        show y::a=(y.1,true)::(mks a).map _
        rw [<-iha λz hz=>ha z (List.mem_cons_of_mem _ hz),<-this]
      rw [e m'' h1.all,h2]
     subst e
     rw [znn,Ev.kz1 (by simp),kz3,kz3,kz3,Ev.kz1 (by rw [<-y04,k1];simp;omega)]
     exact a3
 obtain ⟨m',a1,a2,a3⟩:=outer _ 0 [] SM.nil rfl rfl
 refine ⟨m',a1,a2,?_⟩
 rw [yh2,Ev.yz0 ha2,Ev.yz0 hb2,kz3,kz3]
 exact a3
theorem yeb {p:zz0} {s:List UInt8} (hs:p.size<=4000000):Ev (λn=>zdl n p s) (decide (s∈kz8 p),if s∈kz8 p then valOf p s else e0):=by
 have:=@zjj p
 have hal:(kz8 p).length=p.attrs.length:=by simp [kz8]
 rw [ymd,Ev.yz0 (zry (by omega)),Ev.yz0 (zmr (by omega))]
 by_cases h:s∈kz8 p
 ·obtain ⟨i,hi,h1,h2,h3⟩:=z00l h
  rw [Ev.kz1 (decide_eq_false λq=>z4g.1 q h),h1,Ev.kz2 (yz6 hi),Ev.kz0,decide_eq_true h,if_pos h,h3,zz1.yz5]
 ·rw [Ev.yz1 (decide_eq_true (z4g.2 h)),Ev.kz0,decide_eq_false h,if_neg h];rfl
theorem EqS.len {p q:zz0} {R K:List (List UInt8)} (h:EqS R K) (hg:y1d p q K):R.length<=NN p q:=by
 have:=zf5 (zb5 h.1) λx hx=>hg.sub x ((h.2 x).1 hx)
 rw [List.length_append] at this
 simpa [kz8,NN] using this
theorem y81 {p q:zz0} (hsp:p.size<=1048576) (hsq:q.size<=1048576):∃R,EqS R (nK p q)∧Ev (λn=>zbs n p q) R:=by
 have lp:=@zjj p
 have lq:=@zjj q
 have hlen:(p.attrs++q.attrs).length=NN p q:=by rw [List.length_append];rfl
 have hN:NN p q<=2097152:=by unfold NN;omega
 have pass:∀(turn:Int) (Φ:List (List UInt8)->Prop),∀k,k<=(p.attrs++q.attrs).length->∀R K,EqS R K->y1d p q K ->
   (∀R',EqS R' (((p.attrs++q.attrs).drop k).foldl (zfx p q) K)->∃r,Ev (λn=>z41 n ((p.attrs++q.attrs).length:Int) R' turn (p.attrs++q.attrs) q p) r∧Φ r) ->
   ∃r,Ev (λn=>z41 n (k:Int) R turn (p.attrs++q.attrs) q p) r∧Φ r:=λturn Φ =>
  down (λR K hR hg h=>h R (by rw [List.drop_length];exact hR)) λk hk ih R K hR hg h=>by
   have hx:=List.getElem_mem hk
   have hsx:(p.attrs++q.attrs)[k].value.size<=8388608:=by
    rcases List.mem_append.1 hx with z|z
    ·have:=zx8 z;have:=@zx9 (p.attrs++q.attrs)[k];omega
    ·have:=zx8 z;have:=@zx9 (p.attrs++q.attrs)[k];omega
   have hRl:=hR.len hg
   have hixx:=yz6 hk
   rw [<-List.getElem_cons_drop (h:=hk),List.foldl_cons] at h
   generalize hxe:(p.attrs++q.attrs)[k]=x at *
   have l2:∀b:Bool,b=ydz p q K x->∃r,Ev (λn=>z2g n turn (k:Int) R b (p.attrs++q.attrs) q p) r∧Φ r:=λb hb=>by
    cases b with
    |true =>
     obtain ⟨r,h1,h2⟩:=ih (ins R x.name) (zfx p q K x) (by unfold zfx;rw [if_pos hb.symm];exact hR.put _) (hg.step hx) h
     exact ⟨r,by rw [zs7,Ev.yz1 (by rfl),Ev.kz2 hixx,Ev.yz0 (y6j (by omega)),zrm,wrk (by omega)];exact h1,h2⟩
    |false =>
     obtain ⟨r,h1,h2⟩:=ih R (zfx p q K x) (by unfold zfx;rw [if_neg (by rw [<-hb];simp)];exact hR) (hg.step hx) h
     exact ⟨r,by rw [zs7,Ev.kz1 (by rfl),zrm,wrk (by omega)];exact h1,h2⟩
   simp only [zt0 (a0:=(k:Int)),Ev.yz1 (show decide ((k:Int)<((p.attrs++q.attrs).length:Int))=true from decide_eq_true (by omega)),Ev.kz2 hixx,Ev.yz0 (yeb (p:=p) (s:=x.name) (by omega)),Ev.yz0 (yeb (p:=q) (s:=x.name) (by omega))]
   by_cases z1:x.name∈kz8 p
   case neg =>
    obtain ⟨r,h1,h2⟩:=l2 true (by unfold ydz;rw [decide_eq_false z1];rfl)
    exact ⟨r,by rw [decide_eq_false z1,Ev.yz1 (by rfl)];exact h1,h2⟩
   by_cases z2:x.name∈kz8 q
   case neg =>
    obtain ⟨r,h1,h2⟩:=l2 true (by unfold ydz;rw [decide_eq_false z2,decide_eq_true z1];rfl)
    exact ⟨r,by rw [decide_eq_true z1,Ev.kz1 (by rfl),decide_eq_false z2,Ev.yz1 (by rfl)];exact h1,h2⟩
   cases z3:eqB (valOf p x.name) (valOf q x.name) with
   |false =>
    obtain ⟨r,h1,h2⟩:=l2 true (by unfold ydz;rw [decide_eq_true z1,decide_eq_true z2,z3];rfl)
    refine ⟨r,?_,h2⟩
    rw [decide_eq_true z1,Ev.kz1 (by rfl),decide_eq_true z2,Ev.kz1 (by rfl),if_pos z1,if_pos z2,zz1.yz5,zz1.yz5,Ev.yz0 (zwu _ _ (y27 (by omega))),z3,Ev.yz1 (by rfl)];exact h1
   |true =>
    obtain ⟨r,h1,h2⟩:=l2 (zcy R x.value) (by unfold ydz;rw [decide_eq_true z1,decide_eq_true z2,z3,yn3 hR.2];rfl)
    refine ⟨r,?_,h2⟩
    rw [decide_eq_true z1,Ev.kz1 (by rfl),decide_eq_true z2,Ev.kz1 (by rfl),if_pos z1,if_pos z2,zz1.yz5,zz1.yz5,Ev.yz0 (zwu _ _ (y27 (by omega))),z3,Ev.kz1 (by rfl),Ev.kz2 hixx,zz1.yz5,Ev.yz0 (zw4 hsx (by omega))];exact h1
 have turns:∀j t R,j+t=NN p q+1->EqS R (itN p q t)->∃r,Ev (λn=>z6q n R (t:Int) q p) r∧EqS r (nK p q):=λj=>by
  have hw:IntKind.i64.wrap ((p.attrs.length:Int)+(q.attrs.length:Int))=((NN p q:Nat):Int):=by unfold NN;rw [wI (by omega)];rfl
  induction j with
  |zero =>
   intro t R ht hR
   have:t=NN p q+1:=by omega
   subst this
   exact ⟨R,by rw [zs0,hw,Ev.kz1 (decide_eq_false (by omega)),Ev.kz0],hR⟩
  |succ j ih =>
   intro t R ht hR
   have hx0:ext ([]:List kz6) p.attrs=some p.attrs:=by rw [z1j (by simp;omega)];rfl
   obtain ⟨r,h1,h2⟩:=pass (t:Int) (λr=>EqS r (nK p q)) 0 (Nat.zero_le _) R _ hR (zs9 p q t) λR' hR'=>by
    rw [List.drop_zero] at hR'
    obtain ⟨r,h1,h2⟩:=ih (t+1) R' (by omega) hR'
    exact ⟨r,by rw [zt0,Ev.kz1 (by simp),wrk (by omega)];exact h1,h2⟩
   exact ⟨r,by rw [zs0,hw,Ev.yz1 (decide_eq_true (by omega)),Ev.kz2 hx0,Ev.kz2 (z1j (by omega))];exact h1,h2⟩
 obtain ⟨r,h1,h2⟩:=turns (NN p q+1) 0 [] (by omega) EqS.nil
 exact ⟨r,h2,by rw [ydr];exact h1⟩
end Go.Proofs.YtahcjggdcmgpkaaGreat
namespace Go.Proofs.YtahcjggdcmgpkaaGreat
open Go Go.Ab
set_option linter.unusedVariables false
set_option linter.unusedSimpArgs false
structure Valid (p:zz0):Prop where
 wf:p.wf
 size:p.size<=1048576
 ok:z5k p=0
theorem Valid.form {p:zz0} (h:Valid p):zfm p=true:=(zy8 h.ok).1
theorem Valid.rn {p:zz0} (h:Valid p):(zz4 p).Nodup:=(zy8 h.ok).2.1
theorem Valid.an {p:zz0} (h:Valid p):(kz8 p).Nodup:=by
 have h:=h.ok
 unfold z5k at h
 by_cases h1:y4y p=true
 ·rw [if_pos h1] at h;cases h
 rw [if_neg h1] at h
 by_cases h2:zfm p=true
 case neg=>rw [if_neg h2] at h;cases h
 rw [if_pos h2] at h
 by_cases h3:ysk p=true
 ·rw [if_pos h3] at h;cases h
 unfold ysk at h3
 simp only [Bool.or_eq_true,not_or] at h3
 exact z00q.1 (by simpa using h3.1)
theorem yya {p:zz0} (h:zfm p=true) {r:kz4} (hr:r∈p.rules) {c:kz5} (hc:c∈r.cases) {a:zz3} (ha:a∈c.do_):z3m (z34 a.args)=0∧∀x∈a.items,z3m (z34 x.args)=0:=by
 obtain ⟨_,_,_,h4,_,_,_,h8⟩:=ztg.1 (y3i h r hr c hc a ha)
 refine ⟨h4,λx hx => ?_⟩
 have:=List.all_eq_true.1 h8 x hx
 unfold y7u at this
 simp only [Bool.and_eq_true] at this
 simpa using this.2.2.2.2
noncomputable def y79 (K:List (List UInt8)) (a:zz3):Bool:=(zhf a).any (zcy K)
noncomputable def y1r (K:List (List UInt8)) (c:kz5):Bool:=zcy K c.when_||c.do_.any (y79 K)
noncomputable def zy7 (K:List (List UInt8)) (r:kz4):Bool:=r.cases.any (y1r K)
theorem z032 {R K:List (List UInt8)} (h:∀x,x∈R↔x∈K) (r:kz4):zy7 R r=zy7 K r:=by
 have:zcy R=zcy K:=funext λe=>yn3 h e
 unfold zy7 y1r y79;rw [this]
theorem ype {r:kz4} {m:List (List UInt8×Bool)} {K:List (List UInt8)} (hm:MK m K) (hw:r.wf) (hs:r.size<=4000000):Ev (λn=>zch n r (mks m) (mvs m)) (zy7 K r,mks m,mvs m):=by
 have:=@zup r
 have e:(zy7 K r,mks m,mvs m)=if r.cases.any (y1r K)=true then (true,mks m,mvs m) else (false,mks m,mvs m):=by unfold zy7;cases r.cases.any (y1r K) <;> rfl
 rw [y99,kz3,e]
 refine zgn (L:=λn k=>z4m n k r.cases (r.cases.length:Int) (mks m) (mvs m)) (by rw [zq9,Ev.kz1 (by simp),Ev.kz0,kz3]) λk hk v hv => ?_
 have hc:=List.getElem_mem hk
 have:=zt8 hc
 have hwc:=z017 hw hc
 have:=@y8a r.cases[k]
 have:=@zvt r.cases[k]
 rw [zq9,Ev.yz1 (by simpa using hk),Ev.kz2 (yz6 hk),zz1.yz5,kz3,Ev.yz0 (y66 hm (z05m hwc) (by omega)),kz3,y1r]
 cases zcy K r.cases[k].when_ with
 |true=>rw [Ev.yz1 (by rfl),Ev.kz0];rfl
 |false =>
  rw [Ev.kz1 (by rfl),Bool.false_or]
  refine zgn (L:=λn j=>z4v n j r.cases[k].do_ r.cases (r.cases.length:Int) (k:Int) (r.cases[k].do_.length:Int) (mks m) (mvs m)) (by rw [zqp,Ev.kz1 (by simp),wrk (by omega),kz3];exact hv) λj hj w hw' => ?_
  have ha:=List.getElem_mem hj
  have:=zx1 ha
  have hwa:=z01e hwc ha
  generalize hxa:r.cases[k].do_[j]=a at *
  have:=@zxg a
  have:=@z04v a
  have hel:=ye5 a
  have hclone:Ev (λn=>z5l n a.args) a.args:=Ev.pure (by show (if _ then _ else _)=_;rw [if_pos (by omega)])
  have e2:zhf a=a.args++a.items.flatMap (·.args):=rfl
  rw [e2,List.length_append] at hel
  rw [zqp,Ev.yz1 (by simpa using hj),Ev.kz2 (by rw [yz6 hj,hxa]),Ev.yz0 hclone,kz3]
  refine zko (L:=λn i s=>z52 n i a.items r.cases[k].do_ r.cases (r.cases.length:Int) (k:Int) (r.cases[k].do_.length:Int) (j:Int) (a.items.length:Int) (mks m) (mvs m) s) (xs:=a.items) (g:=λx=>x.args) (B:=8000000) (by omega) ?_ λi hi s hl hv => ?_
  · rw [zr5,Ev.kz1 (by simp),kz3,<-e2,Ev.yz0 (yik hm (λe he=>(zw6 he).2 hwa) (λe he=>by have:=(zw6 he).1;omega) (by rw [e2,List.length_append];omega)),kz3,wrk (by omega),y79]
    cases (zhf a).any (zcy K)
    · rw [Ev.kz1 (by rfl)];exact hw'
    · rw [Ev.yz1 (by rfl),Ev.kz0];rfl
  · rw [zr5,Ev.yz1 (by simpa using hi),Ev.kz2 (yz6 hi),Ev.kz2 (z1j (by omega)),kz3,wrk (by omega)];exact hv
theorem yln {r:kz4} {R:List (List UInt8)} (hf:∀c∈r.cases,∀a∈c.do_,z3m (z34 a.args)=0∧∀x∈a.items,z3m (z34 x.args)=0) (hs:r.size<=4000000) (hR:R.length<=8388608):Ev (λn=>zbe n r R) (zy7 R r):=by
 have:=@zup r
 have list:∀l:List zz1,Ev (λn=>z03 n l) (z34 l):=λl=>by rw [zjl,Ev.kz0];rfl
 rw [y7q,<-ifB (zy7 R r)]
 refine zgn (L:=λn k=>z3p n R k r) (xs:=r.cases) (p:=y1r R) (by rw [zpa,Ev.kz1 (by simp),Ev.kz0]) λk hk v hv => ?_
 have hc:=List.getElem_mem hk
 have:=zt8 hc
 have:=@y8a r.cases[k]
 have:=@zvt r.cases[k]
 rw [zpa,Ev.yz1 (by simpa using hk),Ev.kz2 (yz6 hk),zz1.yz5,Ev.yz0 (zw4 (by omega) hR),y1r]
 cases zcy R r.cases[k].when_ with
 |true=>rw [Ev.yz1 (by rfl),Ev.kz0];rfl
 |false =>
  rw [Ev.kz1 (by rfl),Bool.false_or]
  refine zgn (L:=λn j=>z3i n R j (k:Int) r) (xs:=r.cases[k].do_) (p:=y79 R) (by rw [zp8,Ev.kz2 (yz6 hk),Ev.kz1 (by simp),wrk (by omega)];exact hv) λj hj w hw' => ?_
  have ha:=List.getElem_mem hj
  have:=zx1 ha
  obtain ⟨f1,f2⟩:=hf _ hc _ ha
  have hixx:=yz6 hj
  generalize hxa:r.cases[k].do_[j]=a at *
  have:=@zxg a
  have:=@y84 a
  have e:y79 R a=(zcy R (z34 a.args)||a.items.any λx=>zcy R (z34 x.args)):=by
   unfold y79 zhf
   rw [List.any_append,yec f1,List.any_flatMap]
   congr 1
   have hcong:∀l:List yza,(∀x∈l,x∈a.items)->(l.any λx=>x.args.any (zcy R))=l.any λx=>zcy R (z34 x.args):=λl=>by
    induction l with
    |nil=>intro _;rfl
    |cons y l ih=>intro hm;rw [List.any_cons,List.any_cons,ih λz hz=>hm z (List.mem_cons_of_mem _ hz),yec (f2 y (hm y List.mem_cons_self))]
   exact hcong a.items λ_ h=>h
  rw [zp8,Ev.kz2 (yz6 hk),Ev.yz1 (by simpa using hj),Ev.kz2 (yz6 hk),Ev.kz2 hixx,Ev.yz0 (list _),zz1.yz5,Ev.yz0 (zw4 (by rw [zhu];omega) hR),e]
  cases zcy R (z34 a.args) with
  |true=>rw [Ev.yz1 (by rfl),Ev.kz0];rfl
  |false =>
   rw [Ev.kz1 (by rfl),Bool.false_or]
   refine zgn (L:=λn i=>z3n n i R (k:Int) (j:Int) a r) (xs:=a.items) (p:=λx=>zcy R (z34 x.args)) (by rw [zp7,Ev.kz1 (by simp),wrk (by omega)];exact hw') λi hi u hu => ?_
   have:=y3b (List.getElem_mem hi)
   have:=@y8v a.items[i]
   rw [zp7,Ev.yz1 (by simpa using hi),Ev.kz2 (yz6 hi),Ev.yz0 (list _),zz1.yz5,Ev.yz0 (zw4 (by rw [zhu];omega) hR),wrk (by omega),Ev.pif,Ev.kz0]
   split
   · rfl
   · exact hu
def rz:kz4:=⟨[],[],[]⟩
def zhj (p:zz0) (s:List UInt8):kz4:=match p.rules[(atI (zz4 p) s).toNat]? with
 |some r=>r
 |none=>rz
theorem zv8 {p:zz0} {s:List UInt8} (h:s∈zz4 p):∃i:Nat,∃hi:i<p.rules.length,atI (zz4 p) s=(i:Int)∧p.rules[i].name=s∧zhj p s=p.rules[i]:=by
 obtain ⟨i,hi,h1,h2,_⟩:=y4s h
 exact ⟨i,hi,h1,h2,by unfold zhj;rw [h1,Int.toNat_natCast,List.getElem?_eq_getElem hi]⟩
theorem ydv {p:zz0} (hn:(zz4 p).Nodup) {r:kz4} (hr:r∈p.rules):zhj p r.name=r:=by
 obtain ⟨j,hj,e⟩:=List.mem_iff_getElem.1 hr
 have hj':j<(zz4 p).length:=by simpa [zz4] using hj
 have hx:(zz4 p)[j]=r.name:=by simp [zz4,e]
 obtain ⟨i,hi,h1,h2,h3⟩:=zv8 (p:=p) (s:=r.name) (by rw [<-hx];exact List.getElem_mem hj')
 have hi':i<(zz4 p).length:=by simpa [zz4] using hi
 have:i=j:=(List.getElem_inj hn).1 (show (zz4 p)[i]=(zz4 p)[j] by rw [hx,<-h2];simp [zz4])
 subst this
 rw [h3,e]
noncomputable def yfy (p q:zz0) (K:List (List UInt8)) (s:List UInt8):Bool := !decide (s∈zz4 p)||(!decide (s∈zz4 q)||(!eqB (zhj p s) (zhj q s)||zy7 K (zhj p s)))
noncomputable def zp6 (p q:zz0) (K:List (List UInt8)) (C:List (List UInt8)) (s:List UInt8):List (List UInt8):=if yfy p q K s=true then zn0 C s else C
noncomputable def cK (p q:zz0):List (List UInt8):=(zz4 p++zz4 q).foldl (zp6 p q (nK p q)) []
structure y1a (p q:zz0) (C:List (List UInt8)):Prop where
 nodup:C.Nodup
 sub:∀x∈C,x∈zz4 p++zz4 q
theorem y1a.len {p q:zz0} {C:List (List UInt8)} (h:y1a p q C):C.length<=p.rules.length+q.rules.length:=by
 have:=zf5 h.nodup h.sub
 rw [List.length_append] at this
 simpa [zz4] using this
theorem y1a.step {p q:zz0} {K C:List (List UInt8)} (h:y1a p q C) {s:List UInt8} (hs:s∈zz4 p++zz4 q):y1a p q (zp6 p q K C s):=by
 unfold zp6
 split
 ·refine ⟨zwi h.nodup,λy hy => ?_⟩
  rcases zya.1 hy with hy|hy
  ·exact h.sub y hy
  ·rw [hy];exact hs
 ·exact h
theorem ycm {p q:zz0} {K:List (List UInt8)}:∀(l:List (List UInt8)) {C:List (List UInt8)},y1a p q C->(∀x∈l,x∈zz4 p++zz4 q)->y1a p q (l.foldl (zp6 p q K) C)
 |[],_,h,_=>h
 |x::l,C,h,hl=>ycm l (h.step (hl x List.mem_cons_self)) λy hy=>hl y (List.mem_cons_of_mem _ hy)
theorem z054 (p q:zz0):y1a p q (cK p q):=ycm _ ⟨by simp,by simp⟩ λ_ h=>h
theorem ynf {p:zz0} {s:List UInt8} (hs:p.size<=4000000):Ev (λn=>zfn n p s) (atI (zz4 p) s):=by
 have:=@ze1 p
 have h:Ev (λn=>yzo n p.rules s) (atI (zz4 p) s,s):=by
  rw [zil]
  refine yui (L:=λn k=>zzf n k p.rules (p.rules.length:Int) s) (xs:=p.rules) (f:=(·.name)) (by rw [z1y,Ev.kz1 (by simp),Ev.kz0]) λk hk v => ?_
  have hf:Ev (λn=>zeb n p.rules[k] s) (p.rules[k].name==s,s):=by rw [yc1,Ev.kz0]
  constructor
  ·intro q
   rw [z1y,Ev.yz1 (by simpa using hk),Ev.kz2 (yz6 hk),Ev.yz0 hf,Ev.yz1 (by simpa using q),Ev.kz0]
  ·intro q hv
   rw [z1y,Ev.yz1 (by simpa using hk),Ev.kz2 (yz6 hk),Ev.yz0 hf,Ev.kz1 (by simpa using q),wrk (by omega)]
   exact hv
 rw [yqy,Ev.yz0 h,Ev.kz0]
theorem z03n {r:kz4}:(zz0.mk [] [r]).size=r.size+3:=by rw [zz0.size_eq];simp;omega
theorem z07u {a b:kz4}:eqB (zz0.mk [] [a]) (zz0.mk [] [b])=eqB a b:=by
 by_cases h:a=b
 ·rw [h,zb1,zb1]
 ·rw [zzp.2 h,zzp.2 (λe=>h (by injection e with _ e;injection e))]
theorem y44 {l:List kz4} {i:Nat} (hi:i<l.length):sub l (i:Int) ((i+1:Nat):Int)=some [l[i]]:=by
 unfold sub
 rw [if_pos (by omega)]
 simp only [Int.toNat_natCast]
 rw [<-zbb hi,List.drop_append_of_le_length (by simp;omega)]
 simp [Nat.min_eq_left (Nat.le_of_lt hi)]
theorem ytf {p q:zz0} (hp:Valid p) (hq:Valid q):∃m,SM m∧mks m=cK p q∧Ev (λn=>za0 n p q) (.ok (mks m,mvs m)):=by
 have lp:=@ze1 p
 have lq:=@ze1 q
 have sp:=hp.size
 have sq:=hq.size
 obtain ⟨mn,n1,n2,n3⟩:=yd3 hp.wf hq.wf hp.size hq.size hp.an hq.an
 have hmk:=n1.mk'
 rw [n2] at hmk
 have hnames:zz4 p++zz4 q=(p.rules++q.rules).map (·.name):=by simp [zz4]
 have loop:∀k,k<=(p.rules++q.rules).length->∀m,SM m->∃m',SM m'∧mks m'=((zz4 p++zz4 q).drop k).foldl (zp6 p q (nK p q)) (mks m)∧Ev (λn=>z4x n (k:Int) (p.rules++q.rules) ((p.rules++q.rules).length:Int) (mks m) (mvs m) (mks mn) (mvs mn) q p) (.ok (mks m',mvs m')) :=
  down (λm hm=>⟨m,hm,by rw [hnames,List.drop_of_length_le (by simp)];rfl,by rw [zqe,Ev.kz1 (by simp),Ev.kz0,kz3]⟩) λk hk ih m hm=>by
   have hx:=List.getElem_mem hk
   have hixx:=yz6 hk
   have hkn:k<(zz4 p++zz4 q).length:=by rw [hnames,List.length_map];exact hk
   have hnk:(zz4 p++zz4 q)[k]=(p.rules++q.rules)[k].name:=by simp only [hnames,List.getElem_map]
   rw [<-List.getElem_cons_drop (h:=hkn),List.foldl_cons,hnk]
   generalize hxe:(p.rules++q.rules)[k]=x at *
   have hkl:k<=4611686018427387904:=by rw [List.length_append] at hk;omega
   have l1:∀b:Bool,b=yfy p q (nK p q) x.name->∃m',SM m'∧mks m'=((zz4 p++zz4 q).drop (k+1)).foldl (zp6 p q (nK p q)) (zp6 p q (nK p q) (mks m) x.name)∧Ev (λn=>z1i n (p.rules++q.rules) ((p.rules++q.rules).length:Int) (k:Int) b (mks m) (mvs m) (mks mn) (mvs mn) q p x) (.ok (mks m',mvs m')):=λb hb=>by
    cases b with
    |true =>
     obtain ⟨m',a1,a2,a3⟩:=ih (z90 m x.name true) (hm.put _)
     refine ⟨m',a1,by rw [a2,yba];unfold zp6;rw [if_pos hb.symm],?_⟩
     rw [zre,Ev.yz1 (by rfl),zqz,wrk hkl,kz3,kz3,kz3,kz3];exact a3
    |false =>
     obtain ⟨m',a1,a2,a3⟩:=ih m hm
     refine ⟨m',a1,by rw [a2];unfold zp6;rw [if_neg (by rw [<-hb];simp)],?_⟩
     rw [zre,Ev.kz1 (by rfl),zqz,wrk hkl,kz3,kz3,kz3,kz3];exact a3
   simp only [zqe (a0:=(k:Int)),Ev.yz1 (show decide ((k:Int)<((p.rules++q.rules).length:Int))=true from decide_eq_true (by omega)),Ev.kz2 hixx,Ev.yz0 (ynf (p:=p) (s:=x.name) (by omega)),Ev.yz0 (ynf (p:=q) (s:=x.name) (by omega)),kz3]
   by_cases z1:x.name∈zz4 p
   case neg =>
    obtain ⟨m',a1,a2,a3⟩:=l1 true (by unfold yfy;rw [decide_eq_false z1];rfl)
    exact ⟨m',a1,a2,by rw [Ev.yz1 (decide_eq_true (z4g.2 z1))];exact a3⟩
   by_cases z2:x.name∈zz4 q
   case neg =>
    obtain ⟨m',a1,a2,a3⟩:=l1 true (by unfold yfy;rw [decide_eq_true z1,decide_eq_false z2];rfl)
    exact ⟨m',a1,a2,by rw [Ev.kz1 (decide_eq_false λw=>z4g.1 w z1),Ev.yz1 (decide_eq_true (z4g.2 z2))];exact a3⟩
   obtain ⟨i,hi,i1,i2,i3⟩:=zv8 z1
   obtain ⟨j,hj,j1,j2,j3⟩:=zv8 z2
   have szi:=znd (List.getElem_mem hi)
   have hsame:Ev (λn=>zdf n (zz0.mk [] [p.rules[i]]) (zz0.mk [] [q.rules[j]])) (eqB (zhj p x.name) (zhj q x.name)):=by
    have:=yxg (a:=zz0.mk [] [p.rules[i]]) (b:=zz0.mk [] [q.rules[j]]) (by rw [z03n];omega)
    rw [z07u] at this
    rw [i3,j3];exact this
   cases z3:eqB (zhj p x.name) (zhj q x.name) with
   |false =>
    obtain ⟨m',a1,a2,a3⟩:=l1 true (by unfold yfy;rw [decide_eq_true z1,decide_eq_true z2,z3];rfl)
    refine ⟨m',a1,a2,?_⟩
    rw [Ev.kz1 (decide_eq_false λw=>z4g.1 w z1),Ev.kz1 (decide_eq_false λw=>z4g.1 w z2),i1,j1,wrk (by omega),wrk (by omega),Ev.kz2 (y44 hi),Ev.kz2 (y44 hj),Ev.yz0 hsame,z3,Ev.yz1 (by rfl)];exact a3
   |true =>
    have hxr:x=zhj p x.name:=by
     rcases List.mem_append.1 hx with w|w
     · exact (ydv hp.rn w).symm
     · rw [z9a.1 z3];exact (ydv hq.rn w).symm
    have hxs:x.wf∧x.size<=4000000:=by
     rcases List.mem_append.1 hx with w|w
     · have:=znd w;exact ⟨yvi hp.wf w,by omega⟩
     · have:=znd w;exact ⟨yvi hq.wf w,by omega⟩
    obtain ⟨m',a1,a2,a3⟩:=l1 (zy7 (nK p q) x) (by unfold yfy;rw [decide_eq_true z1,decide_eq_true z2,z3,<-hxr];rfl)
    refine ⟨m',a1,a2,?_⟩
    rw [Ev.kz1 (decide_eq_false λw=>z4g.1 w z1),Ev.kz1 (decide_eq_false λw=>z4g.1 w z2),i1,j1,wrk (by omega),wrk (by omega),Ev.kz2 (y44 hi),Ev.kz2 (y44 hj),Ev.yz0 hsame,z3,Ev.kz1 (by rfl),Ev.yz0 (ype hmk hxs.1 hxs.2),kz3];exact a3
 obtain ⟨m',a1,a2,a3⟩:=loop 0 (Nat.zero_le _) [] SM.nil
 refine ⟨m',a1,by rw [a2,List.drop_zero];rfl,?_⟩
 rw [y92,Ev.yz0 n3,Ev.znr,Ev.yz0 (yw3 (by omega)),Ev.znr,kz3]
 exact a3
theorem yeh {p:zz0} {s:List UInt8} (hs:p.size<=4000000):Ev (λn=>zdn n p s) (decide (s∈zz4 p),if s∈zz4 p then zhj p s else rz):=by
 have:=@ze1 p
 have hal:(zz4 p).length=p.rules.length:=by simp [zz4]
 rw [yib,Ev.yz0 (zf0 (by omega)),Ev.yz0 (zmr (by omega))]
 by_cases h:s∈zz4 p
 ·obtain ⟨i,hi,h1,h2,h3⟩:=zv8 h
  rw [Ev.kz1 (decide_eq_false λq=>z4g.1 q h),h1,Ev.kz2 (yz6 hi),Ev.kz0,decide_eq_true h,if_pos h,h3]
 ·rw [Ev.yz1 (decide_eq_true (z4g.2 h)),Ev.kz0,decide_eq_false h,if_neg h];rfl
theorem EqS.len3 {p q:zz0} {R C:List (List UInt8)} (h:EqS R C) (hg:y1a p q C):R.length<=p.rules.length+q.rules.length:=by
 have:=zf5 (zb5 h.1) λx hx=>hg.sub x ((h.2 x).1 hx)
 rw [List.length_append] at this
 simpa [zz4] using this
theorem yhk {p q:zz0} (hp:Valid p) (hq:Valid q):∃R,EqS R (cK p q)∧Ev (λn=>z88 n p q) R:=by
 have lp:=@ze1 p
 have lq:=@ze1 q
 have tp:=@zjj p
 have tq:=@zjj q
 have sp:=hp.size
 have sq:=hq.size
 have hpl:(zz4 p).length=p.rules.length:=by simp [zz4]
 have hql:(zz4 q).length=q.rules.length:=by simp [zz4]
 obtain ⟨N,n1,n2⟩:=y81 hp.size hq.size
 have hNl:N.length<=8388608:=by have:=n1.len (zs9 p q (NN p q+1));unfold NN at this;omega
 have loop:∀k,k<=(zz4 p++zz4 q).length->∀R C,EqS R C->y1a p q C->∃r,EqS r (((zz4 p++zz4 q).drop k).foldl (zp6 p q (nK p q)) C)∧Ev (λn=>z3l n (k:Int) R N (zz4 p++zz4 q) q p) r :=
  down (λR C hR hg=>⟨R,by rw [List.drop_length];exact hR,by rw [zp3,Ev.kz1 (by simp),Ev.kz0]⟩) λk hk ih R C hR hg=>by
   have hx:=List.getElem_mem hk
   have hixx:=yz6 hk
   have hRl:=hR.len3 hg
   have hkl:k<=4611686018427387904:=by rw [List.length_append] at hk;omega
   rw [<-List.getElem_cons_drop (h:=hk),List.foldl_cons]
   generalize hxe:(zz4 p++zz4 q)[k]=x at *
   have l1:∀b:Bool,b=yfy p q (nK p q) x->∃r,EqS r (((zz4 p++zz4 q).drop (k+1)).foldl (zp6 p q (nK p q)) (zp6 p q (nK p q) C x))∧Ev (λn=>z10 n N (k:Int) R b (zz4 p++zz4 q) q p) r:=λb hb=>by
    cases b with
    |true =>
     obtain ⟨r,h1,h2⟩:=ih (ins R x) (zp6 p q (nK p q) C x) (by unfold zp6;rw [if_pos hb.symm];exact hR.put _) (hg.step hx)
     exact ⟨r,h1,by rw [zp1,Ev.yz1 (by rfl),Ev.kz2 hixx,Ev.yz0 (y6j (by omega)),zp9,wrk hkl];exact h2⟩
    |false =>
     obtain ⟨r,h1,h2⟩:=ih R (zp6 p q (nK p q) C x) (by unfold zp6;rw [if_neg (by rw [<-hb];simp)];exact hR) (hg.step hx)
     exact ⟨r,h1,by rw [zp1,Ev.kz1 (by rfl),zp9,wrk hkl];exact h2⟩
   simp only [zp3 (a0:=(k:Int)),Ev.yz1 (show decide ((k:Int)<((zz4 p++zz4 q).length:Int))=true from decide_eq_true (by omega)),Ev.kz2 hixx,Ev.yz0 (yeh (p:=p) (s:=x) (by omega)),Ev.yz0 (yeh (p:=q) (s:=x) (by omega))]
   by_cases z1:x∈zz4 p
   case neg =>
    obtain ⟨r,h1,h2⟩:=l1 true (by unfold yfy;rw [decide_eq_false z1];rfl)
    exact ⟨r,h1,by rw [decide_eq_false z1,Ev.yz1 (by rfl)];exact h2⟩
   by_cases z2:x∈zz4 q
   case neg =>
    obtain ⟨r,h1,h2⟩:=l1 true (by unfold yfy;rw [decide_eq_false z2,decide_eq_true z1];rfl)
    exact ⟨r,h1,by rw [decide_eq_true z1,Ev.kz1 (by rfl),decide_eq_false z2,Ev.yz1 (by rfl)];exact h2⟩
   obtain ⟨i,hi,i1,i2,i3⟩:=zv8 z1
   have hmi:=List.getElem_mem hi
   have szi:=znd hmi
   have hsr:(zhj p x).size<=4000000:=by rw [i3];omega
   cases z3:eqB (zhj p x) (zhj q x) with
   |false =>
    obtain ⟨r,h1,h2⟩:=l1 true (by unfold yfy;rw [decide_eq_true z1,decide_eq_true z2,z3];rfl)
    refine ⟨r,h1,?_⟩
    rw [decide_eq_true z1,Ev.kz1 (by rfl),decide_eq_true z2,Ev.kz1 (by rfl),if_pos z1,if_pos z2,Ev.yz0 (y8w (by omega)),z3,Ev.yz1 (by rfl)];exact h2
   |true =>
    obtain ⟨r,h1,h2⟩:=l1 (zy7 N (zhj p x)) (by unfold yfy;rw [decide_eq_true z1,decide_eq_true z2,z3,z032 n1.2];rfl)
    refine ⟨r,h1,?_⟩
    have hf:∀c∈(zhj p x).cases,∀a∈c.do_,z3m (z34 a.args)=0∧∀y∈a.items,z3m (z34 y.args)=0:=by
     rw [i3];exact λc hc a ha=>yya hp.form hmi hc ha
    rw [decide_eq_true z1,Ev.kz1 (by rfl),decide_eq_true z2,Ev.kz1 (by rfl),if_pos z1,if_pos z2,Ev.yz0 (y8w (by omega)),z3,Ev.kz1 (by rfl),Ev.yz0 (yln hf hsr hNl)];exact h2
 obtain ⟨r,h1,h2⟩:=loop 0 (Nat.zero_le _) [] [] EqS.nil ⟨by simp,by simp⟩
 refine ⟨r,by rw [List.drop_zero] at h1;exact h1,?_⟩
 have hx0:ext ([]:List (List UInt8)) (zz4 p)=some (zz4 p):=by rw [z1j (by simp;omega)];rfl
 rw [y6o,Ev.yz0 n2,Ev.yz0 (zf0 (by omega)),Ev.kz2 hx0,Ev.yz0 (zf0 (by omega)),Ev.kz2 (z1j (by omega))]
 exact h2
end Go.Proofs.YtahcjggdcmgpkaaGreat
namespace Go.Proofs.YtahcjggdcmgpkaaGreat
open Go Go.Ab
set_option linter.unusedVariables false
set_option linter.unusedSimpArgs false
noncomputable def both (p q:zz0):Int:=if z5k p≠0 then z5k p else z5k q
theorem z01l {p q:zz0} (hp:p.wf) (hq:q.wf) (sp:p.size<=1048576) (sq:q.size<=1048576):Ev (λn=>zcp n p q) (both p q):=by
 rw [ynr,Ev.yz0 (zxt hp (by omega)),both]
 by_cases h:z5k p=0
 ·rw [Ev.kz1 (by simpa using h),if_neg (by simp [h]),Ev.yz0 (zxt hq (by omega)),Ev.kz0]
 ·rw [Ev.yz1 (by simpa using h),if_pos h,Ev.kz0]
theorem yxw {p q:zz0} (hp:p.wf) (hq:q.wf) (sp:p.size<=1048576) (sq:q.size<=1048576):Ev (λn=>z48 n p q) (both p q):=by
 rw [yij,Ev.yz0 (zoc hp (by omega)),both]
 by_cases h:z5k p=0
 ·rw [Ev.kz1 (by simpa using h),if_neg (by simp [h]),Ev.yz0 (zoc hq (by omega)),Ev.kz0]
 ·rw [Ev.yz1 (by simpa using h),if_pos h,Ev.yz0 (zoc hp (by omega)),Ev.kz0]
theorem z06j {p q:zz0} (h:both p q=0):z5k p=0∧z5k q=0:=by
 unfold both at h
 split at h
 ·rename_i z;exact (z h).elim
 ·rename_i z;exact ⟨by simpa using z,h⟩
theorem ygn {p:zz0} (hs:p.size<=1048576):∀s∈kz8 p,s.length<=8388608:=λs h=>by
 obtain ⟨t,ht,rfl⟩:=List.mem_map.1 h
 have:=zx8 ht;have:=@zx9 t;omega
theorem y2x {p:zz0} (hs:p.size<=1048576):∀s∈zz4 p,s.length<=8388608:=λs h=>by
 obtain ⟨t,ht,rfl⟩:=List.mem_map.1 h
 have:=znd ht;have:=@z04u t;omega
noncomputable def rl (q:zz0) (s:List UInt8):List (List UInt8):=@dite _ (∃r,Set q s r) (Classical.propDecidable _) (λh=>h.choose.1) λ_=>[]
theorem ygs {q:zz0} (hq:Valid q) {s:List UInt8} (hs:s∈zz4 q):Ev (λn=>zbq n q s) (rl q s,0):=by
 obtain ⟨r,h1,h2⟩:=y83 (root:=s) hq.wf (by have:=hq.size;omega)
 rw [if_neg (by simp [hq.ok]),if_pos hs] at h2
 refine h1.to ?_
 have hex:∃r,Set q s r:=⟨r,h2⟩
 have e:rl q s=hex.choose.1:=by unfold rl;rw [dif_pos hex]
 rw [e,z011 h2 hex.choose_spec]
 have:=hex.choose_spec.1
 exact Prod.ext rfl this
theorem z01j {q:zz0} (hq:Valid q) {s:List UInt8} (hs:s∈zz4 q):Ev (λn=>zbw n q s) (rl q s,0):=by
 obtain ⟨r,h1,h2⟩:=yx4 (root:=s) hq.wf (by have:=hq.size;omega)
 rw [if_neg (by simp [hq.ok]),if_pos hs] at h2
 refine h1.to ?_
 have hex:∃r,Set q s r:=⟨r,h2⟩
 have e:rl q s=hex.choose.1:=by unfold rl;rw [dif_pos hex]
 rw [e,z011 h2 hex.choose_spec]
 exact Prod.ext rfl hex.choose_spec.1
theorem z05s {q:zz0} (hq:Valid q) {s:List UInt8} (hs:s∈zz4 q):(rl q s).length<=8000000:=by
 obtain ⟨r,h1,h2⟩:=y83 (root:=s) hq.wf (by have:=hq.size;omega)
 have e:=(ygs hq hs).det h1
 have:=z028 (by have:=hq.size;omega) h2
 rw [<-e] at this;exact this
theorem z037 {C:List (List UInt8)} {x:List UInt8}:zn0 (zn0 C x) x=zn0 C x:=by
 have h:x∈zn0 C x:=zya.2 (.inr rfl)
 generalize zn0 C x=D at h ⊢
 unfold zn0;rw [if_pos h]
noncomputable def y8o (q:zz0) (K:List (List UInt8)) (C:List (List UInt8)) (s:List UInt8):List (List UInt8):=if ((rl q s).any λx=>decide (x∈K))=true then zn0 C s else C
noncomputable def aK (p q:zz0):List (List UInt8):=(zz4 q).foldl (y8o q (cK p q)) []
structure zsu (q:zz0) (C:List (List UInt8)):Prop where
 nodup:C.Nodup
 sub:∀x∈C,x∈zz4 q
theorem zsu.add {q:zz0} {C:List (List UInt8)} (h:zsu q C) {s:List UInt8} (hs:s∈zz4 q):zsu q (zn0 C s) :=
 ⟨zwi h.nodup,λy hy=>by rcases zya.1 hy with hy|hy
                                · exact h.sub y hy
                                · rw [hy];exact hs⟩
theorem zsu.step {q:zz0} {K C:List (List UInt8)} (h:zsu q C) {s:List UInt8} (hs:s∈zz4 q):zsu q (y8o q K C s):=by
 unfold y8o
 split
 ·exact h.add hs
 ·exact h
theorem yfg {q:zz0} {K:List (List UInt8)}:∀(l:List (List UInt8)) {C:List (List UInt8)},zsu q C->(∀x∈l,x∈zz4 q)->zsu q (l.foldl (y8o q K) C)
 |[],_,h,_=>h
 |x::l,C,h,hl=>yfg l (h.step (hl x List.mem_cons_self)) λy hy=>hl y (List.mem_cons_of_mem _ hy)
theorem z04k (p q:zz0):zsu q (aK p q):=yfg _ ⟨by simp,by simp⟩ λ_ h=>h
theorem zsu.len {q:zz0} {C:List (List UInt8)} (h:zsu q C):C.length<=q.rules.length:=by
 have:=zf5 h.nodup h.sub
 simpa [zz4] using this
theorem EqS.len4 {q:zz0} {R C:List (List UInt8)} (h:EqS R C) (hg:zsu q C):R.length<=q.rules.length:=by
 have:=zf5 (zb5 h.1) λx hx=>hg.sub x ((h.2 x).1 hx)
 simpa [zz4] using this
theorem yrg {l:List (List UInt8)} {m:List (List UInt8×Bool)} {K:List (List UInt8)} (hm:MK m K) (hl:l.length<=8388608):Ev (λn=>kzp n l (mks m) (mvs m)) (l.any (λx=>decide (x∈K)),mks m,mvs m):=by
 obtain ⟨i,h1,h2⟩:=zq1 (L:=λn k=>zzi n k l (l.length:Int) (mks m) (mvs m)) (l:=l) (p:=λs=>decide (s∈K)) (st:=(mks m,mvs m))
  (by rw [z3j,Ev.kz1 (by simp),Ev.kz0,kz3]) λk hk v=>by
   have hf:Ev (λn=>z7v n l[k] (mks m) (mvs m)) (decide (l[k]∈K),mks m,mvs m):=by
    rw [y2f,Ev.kz0,kz3,hm]
   constructor
   ·intro hp
    rw [z3j,Ev.yz1 (by simpa using hk),Ev.kz2 (yz6 hk),kz3,Ev.yz0 hf,Ev.yz1 hp,Ev.kz0,kz3]
   ·intro hp hv
    rw [z3j,Ev.yz1 (by simpa using hk),Ev.kz2 (yz6 hk),kz3,Ev.yz0 hf,Ev.kz1 hp,kz3,wrk (by omega)];exact hv
 rw [zj8,kz3,Ev.yz0 (by rw [zlh,kz3];exact h1),Ev.kz0,h2,kz3]
theorem ym2 {p q:zz0} (hq:Valid q) {m:List (List UInt8×Bool)} (hm:MK m (cK p q)):Ev (λn=>z1w n 0 q.rules (q.rules.length:Int) [] [] q (mks m) (mvs m)) (.ok (z02 (aK p q),0)):=by
 have lq:=@ze1 q
 have sq:=hq.size
 have hql:(zz4 q).length=q.rules.length:=by simp [zz4]
 have loop:∀k,k<=q.rules.length->∀mo,SM mo->((zz4 q).drop k).foldl (y8o q (cK p q)) (mks mo)=aK p q->Ev (λn=>z1w n (k:Int) q.rules (q.rules.length:Int) (mks mo) (mvs mo) q (mks m) (mvs m)) (.ok (z02 (aK p q),0)) :=
  down (λmo ho hf=>by
   rw [<-hql,List.drop_length] at hf
   have hf:mks mo=aK p q:=hf
   have hg:=z04k p q
   rw [zpb,Ev.kz1 (by simp),kz3,Ev.yz0 (y5v ho (by rw [hf];have:=hg.len;omega) (by rw [hf];exact λs hs=>y2x sq s (hg.sub s hs))),Ev.kz0,hf]) λk hk ih mo ho hf=>by
   have hkn:k<(zz4 q).length:=by omega
   have hnk:(zz4 q)[k]=q.rules[k].name:=by simp [zz4]
   have hin:q.rules[k].name∈zz4 q:=by rw [<-hnk];exact List.getElem_mem hkn
   rw [<-List.getElem_cons_drop (h:=hkn),List.foldl_cons,hnk] at hf
   rw [zpb,Ev.yz1 (by simpa using hk),Ev.kz2 (yz6 hk),Ev.yz0 (ygs hq hin),kz3,kz3,Ev.yz0 (yrg (l:=rl q q.rules[k].name) hm (by have:=z05s hq hin;omega)),kz3]
   unfold y8o at hf
   cases hb:(rl q q.rules[k].name).any λx=>decide (x∈cK p q) with
   |true =>
    rw [hb,if_pos rfl] at hf
    rw [Ev.yz1 (by rfl),zp4,kz3,kz3,wrk (by omega)]
    exact ih _ (ho.put _) (by rw [yba];exact hf)
   |false =>
    rw [hb,if_neg (by simp)] at hf
    rw [Ev.kz1 (by rfl),zp4,kz3,kz3,wrk (by omega)]
    exact ih _ ho hf
 exact loop 0 (Nat.zero_le _) [] SM.nil (by rw [List.drop_zero];rfl)
theorem yp0 {p q:zz0} (hp:Valid p) (hq:Valid q) {N:List (List UInt8)} (hN:EqS N (cK p q)):∃R,EqS R (aK p q)∧Ev (λn=>z1d n 0 (zz4 q) [] N q) (R,0):=by
 have lp:=@ze1 p
 have lq:=@ze1 q
 have sp:=hp.size
 have sq:=hq.size
 have hql:(zz4 q).length=q.rules.length:=by simp [zz4]
 have hNl:N.length<=8388608:=by have:=hN.len3 (z054 p q);omega
 have loop:∀k,k<=(zz4 q).length->∀R C,EqS R C->zsu q C->((zz4 q).drop k).foldl (y8o q (cK p q)) C=aK p q->∃r,EqS r (aK p q)∧Ev (λn=>z1d n (k:Int) (zz4 q) R N q) (r,0) :=
  down (λR C hR hg hf=>by
   rw [List.drop_length] at hf
   have hf:C=aK p q:=hf
   exact ⟨R,by rw [<-hf];exact hR,by rw [zo3,Ev.kz1 (by simp),Ev.kz0]⟩) λk hk ih R C hR hg hf=>by
   have hx:=List.getElem_mem hk
   have hixx:=yz6 hk
   rw [<-List.getElem_cons_drop (h:=hk),List.foldl_cons] at hf
   generalize hxe:(zz4 q)[k]=x at *
   have hrl:=z05s hq hx
   have inner:∀j,j<=(rl q x).length->∀R C,EqS R C->zsu q C->((zz4 q).drop (k+1)).foldl (y8o q (cK p q)) (if (((rl q x).drop j).any λy=>decide (y∈cK p q))=true then zn0 C x else C)=aK p q->∃r,EqS r (aK p q)∧Ev (λn=>z2s n (j:Int) (k:Int) (zz4 q) R (rl q x) N q) (r,0) :=
    down (λR C hR hg hf=>by
     rw [List.drop_length] at hf
     simp only [List.any_nil,Bool.false_eq_true,if_false] at hf
     obtain ⟨r,h1,h2⟩:=ih R C hR hg hf
     exact ⟨r,h1,by rw [zoi,Ev.kz1 (by simp),wrk (by omega)];exact h2⟩) λj hj ihj R C hR hg hf=>by
     have hRl:=hR.len4 hg
     rw [<-List.getElem_cons_drop (h:=hj),List.any_cons] at hf
     have hge:decide (atI N (rl q x)[j]>=0)=decide ((rl q x)[j]∈cK p q):=decide_eq_decide.2 (by
      have:=z4g (l:=N) (s:=(rl q x)[j])
      rw [hN.2] at this
      constructor
      ·intro h;exact Classical.byContradiction λz=>by have:=this.2 z;omega
      ·intro h;exact Classical.byContradiction λz=>this.1 (by omega) h)
     simp only [zoi (a0:=(j:Int)),Ev.yz1 (show decide ((j:Int)<((rl q x).length:Int))=true by simpa using hj),Ev.kz2 (yz6 hj),Ev.yz0 (zmr (l:=N) (s:=(rl q x)[j]) hNl)]
     cases hb:decide ((rl q x)[j]∈cK p q) with
     |true =>
      rw [hb] at hge
      obtain ⟨r,h1,h2⟩:=ihj (ins R x) (zn0 C x) (hR.put _) (hg.add hx) (by
       rw [hb,Bool.true_or,if_pos rfl] at hf
       rw [z037,ite_self];exact hf)
      exact ⟨r,h1,by rw [hge,Ev.yz1 rfl,Ev.kz2 hixx,Ev.yz0 (y6j (by omega)),zom,wrk (by omega)];exact h2⟩
     |false =>
      rw [hb] at hge
      obtain ⟨r,h1,h2⟩:=ihj R C hR hg (by rw [hb,Bool.false_or] at hf;exact hf)
      exact ⟨r,h1,by rw [hge,Ev.kz1 rfl,zom,wrk (by omega)];exact h2⟩
   obtain ⟨r,h1,h2⟩:=inner 0 (Nat.zero_le _) R C hR hg (by rw [List.drop_zero];exact hf)
   exact ⟨r,h1,by rw [zo3,Ev.yz1 (by simpa using hk),Ev.kz2 hixx,Ev.yz0 (z01j hq hx)];exact h2⟩
 exact loop 0 (Nat.zero_le _) [] [] EqS.nil ⟨by simp,by simp⟩ (by rw [List.drop_zero];rfl)
theorem zwb {a:List (List UInt8)} (hl:a.length<=8000000):Ev (λn=>z96 n a a) true:=by
 rw [yhj,Ev.kz1 (yxk rfl)]
 have:=y23 (L:=λn k=>z8c n k a a) (xs:=a) (ys:=a) (fail:=false) (r:=true) rfl (by rw [zut,Ev.kz1 (by simp),Ev.kz0]) λk hk _ v hv=>by
  rw [zb1,if_pos rfl,zut,Ev.yz1 (by simpa using hk),Ev.kz2 (yz6 hk),Ev.kz2 (yz6 hk),Ev.kz1 (by simp),wrk (by omega)];exact hv
 rw [zb1] at this;exact this
theorem ykp (p q:zz0) (hp:p.wf) (hq:q.wf) (hs:p.size+q.size<=1048576):∃n,z00 n p q=some (Res.ok true):=by
 have sp:p.size<=1048576:=by omega
 have sq:q.size<=1048576:=by omega
 have lp:=@ze1 p
 have lq:=@ze1 q
 have tp:=@zjj p
 have tq:=@zjj q
 have eb:=z01l hp hq sp sq
 have rb:=yxw hp hq sp sq
 have l0:∀b,Ev (λn=>zzs n b q p) (.ok true):=λb=>by
  cases b
  case true=>rw [zeg,Ev.yz1 (by rfl),Ev.kz0]
  rw [zeg,Ev.kz1 (by rfl)]
  by_cases hz:both p q=0
  case neg =>
   have h1:Ev (λn=>zdb n p q) (.ok ([],both p q)):=by rw [y1i,Ev.yz0 eb,Ev.yz1 (by simpa using hz),Ev.kz0]
   have h2:Ev (λn=>zbm n p q) ([],both p q):=by rw [zxo,Ev.yz0 rb,Ev.yz1 (by simpa using hz),Ev.yz0 rb,Ev.kz0]
   have h3:Ev (λn=>zan n p q) (.ok ([],both p q)):=by rw [zx0,Ev.yz0 eb,Ev.yz1 (by simpa using hz),Ev.kz0]
   have h4:Ev (λn=>z8x n p q) ([],both p q):=by rw [zus,Ev.yz0 rb,Ev.yz1 (by simpa using hz),Ev.yz0 rb,Ev.kz0]
   have h5:Ev (λn=>z8a n p q) (.ok ([],both p q)):=by rw [zvk,Ev.yz0 eb,Ev.yz1 (by simpa using hz),Ev.kz0]
   have h6:Ev (λn=>z6l n p q) ([],both p q):=by rw [zrp,Ev.yz0 rb,Ev.yz1 (by simpa using hz),Ev.yz0 rb,Ev.kz0]
   have hn:Ev (λn=>z96 n [] []) true:=zwb (by simp)
   rw [Ev.yz0 h1,Ev.znr,Ev.yz0 h2,Ev.yz0 h3,Ev.znr,Ev.yz0 h4,Ev.yz0 h5,Ev.znr,Ev.yz0 h6,Ev.yz0 hn,Ev.yz1 rfl,Ev.yz1 (by simp),Ev.yz0 hn,Ev.yz1 rfl,Ev.yz1 (by simp),Ev.yz0 hn,Ev.yz1 rfl,Ev.kz0]
   simp
  obtain ⟨vp,vq⟩:=z06j hz
  have Vp:Valid p:=⟨hp,sp,vp⟩
  have Vq:Valid q:=⟨hq,sq,vq⟩
  obtain ⟨m,m1,m2,m3⟩:=yd3 hp hq sp sq Vp.an Vq.an
  obtain ⟨N,n1,n2⟩:=y81 sp sq
  obtain ⟨mc,c1,c2,c3⟩:=ytf Vp Vq
  obtain ⟨C,d1,d2⟩:=yhk Vp Vq
  obtain ⟨A,a1,a2⟩:=yp0 Vp Vq d1
  have gN:=zs9 p q (NN p q+1)
  have gC:=z054 p q
  have gA:=z04k p q
  have lN:(nK p q).length<=NN p q:=gN.len
  have lC:=gC.len
  have lA:=gA.len
  have NNe:NN p q=p.attrs.length+q.attrs.length:=rfl
  have s1:Ev (λn=>zc1 n (mks m) (mvs m)) (z02 (mks m),mks m,mvs m):=y5v m1 (by rw [m2];omega) (by
   rw [m2];intro s hs
   rcases List.mem_append.1 (gN.sub s hs) with h|h
   ·exact ygn sp s h
   ·exact ygn sq s h)
  have s2:Ev (λn=>zc1 n (mks mc) (mvs mc)) (z02 (mks mc),mks mc,mvs mc):=y5v c1 (by rw [c2];omega) (by
   rw [c2];intro s hs
   rcases List.mem_append.1 (gC.sub s hs) with h|h
   ·exact y2x sp s h
   ·exact y2x sq s h)
  have e1:z02 (mks m)=N:=by rw [m2];exact n1.sort gN.nodup
  have e2:z02 (mks mc)=C:=by rw [c2];exact d1.sort gC.nodup
  have e3:z02 (aK p q)=A:=a1.sort gA.nodup
  have hmk:MK mc (cK p q):=by rw [<-c2];exact c1.mk'
  have h1:Ev (λn=>zdb n p q) (.ok (N,0)):=by rw [y1i,Ev.yz0 eb,Ev.kz1 (by simpa using hz),Ev.yz0 m3,Ev.znr,kz3,Ev.yz0 s1,Ev.kz0,e1]
  have h2:Ev (λn=>zbm n p q) (N,0):=by rw [zxo,Ev.yz0 rb,Ev.kz1 (by simpa using hz),Ev.yz0 n2,Ev.kz0]
  have h3:Ev (λn=>zan n p q) (.ok (C,0)):=by rw [zx0,Ev.yz0 eb,Ev.kz1 (by simpa using hz),Ev.yz0 c3,Ev.znr,kz3,Ev.yz0 s2,Ev.kz0,e2]
  have h4:Ev (λn=>z8x n p q) (C,0):=by rw [zus,Ev.yz0 rb,Ev.kz1 (by simpa using hz),Ev.yz0 d2,Ev.kz0]
  have h5:Ev (λn=>z8a n p q) (.ok (A,0)):=by
   rw [zvk,Ev.yz0 eb,Ev.kz1 (by simpa using hz),Ev.yz0 c3,Ev.znr,kz3,<-e3]
   exact ym2 Vq hmk
  have h6:Ev (λn=>z6l n p q) (A,0):=by rw [zrp,Ev.yz0 rb,Ev.kz1 (by simpa using hz),Ev.yz0 d2,Ev.yz0 (zf0 (by omega))];exact a2
  have lenN:N.length<=8000000:=by have:=n1.len gN;omega
  have lenC:C.length<=8000000:=by have:=d1.len3 gC;omega
  have lenA:A.length<=8000000:=by have:=a1.len4 gA;omega
  rw [Ev.yz0 h1,Ev.znr,Ev.yz0 h2,Ev.yz0 h3,Ev.znr,Ev.yz0 h4,Ev.yz0 h5,Ev.znr,Ev.yz0 h6,Ev.yz0 (zwb lenN),Ev.yz1 rfl,Ev.yz1 (by simp),Ev.yz0 (zwb lenC),Ev.yz1 rfl,Ev.yz1 (by simp),Ev.yz0 (zwb lenA),Ev.yz1 rfl,Ev.kz0]
  simp
 obtain ⟨g1,hg1⟩:=z07f (p:=p) (by omega)
 obtain ⟨g2,hg2⟩:=z07f (p:=q) (by omega)
 refine Ev.get ?_
 rw [zpe,Ev.yz0 hg1]
 cases g1
 ·rw [Ev.kz1 (by rfl),Ev.yz0 hg2];exact l0 _
 ·rw [Ev.yz1 (by rfl)];exact l0 _
end Go.Proofs.YtahcjggdcmgpkaaGreat
