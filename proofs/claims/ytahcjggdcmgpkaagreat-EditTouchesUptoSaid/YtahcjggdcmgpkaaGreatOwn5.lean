/-
  CHANGED PROGRAMS: SETS OF NAMES, USES, LISTS PUT TOGETHER.
-/
import Derived.Test.YtahcjggdcmgpkaaGreatOwn4
namespace Go.Proofs.YtahcjggdcmgpkaaGreat
open Go Go.Ab
set_option linter.unusedVariables false
set_option linter.unusedSimpArgs false
def zn0 (K:List (List UInt8)) (s:List UInt8):List (List UInt8):=if s∈K then K else K++[s]
theorem zxo {K:List (List UInt8)} {s x:List UInt8}:x∈zn0 K s↔x∈K∨x=s:=by
 unfold zn0
 split
 ·rename_i h;exact ⟨.inl,λq=>q.elim id λq=>by rw [q];exact h⟩
 ·rw [List.mem_append,List.mem_singleton]
theorem zwv {K:List (List UInt8)} {s:List UInt8} (h:K.Nodup):(zn0 K s).Nodup:=by
 unfold zn0
 split
 ·exact h
 ·rename_i q
  rw [List.nodup_append]
  exact ⟨h,by simp,λa ha b hb e=>q (by rw [<-List.mem_singleton.1 hb,<-e];exact ha)⟩
theorem z05z (K:List (List UInt8)) (s:List UInt8):K.length<=(zn0 K s).length∧((zn0 K s).length=K.length->zn0 K s=K):=by
 unfold zn0
 split
 ·exact ⟨Nat.le_refl _,λ_=>rfl⟩
 ·simp
structure SM (m:List (List UInt8×Bool)):Prop where
 all:∀p∈m,p.2=true
 nodup:(mks m).Nodup
theorem SM.nil:SM []:=⟨by simp,by simp [mks]⟩
theorem ybd {T:Type} (m:List (List UInt8×T)) (s:List UInt8) (x:T):mks (z95 m s x)=zn0 (mks m) s:=by
 induction m with
 |nil=>show mks [(s,x)]=zn0 [] s;simp [mks,zn0]
 |cons q m ih =>
  rw [ync]
  by_cases h:s=q.1
  · rw [if_pos h]
    show s::mks m=zn0 (q.1::mks m) s
    unfold zn0
    rw [if_pos (by rw [h];exact List.mem_cons_self),h]
  · rw [if_neg h]
    show q.1::mks (z95 m s x)=zn0 (q.1::mks m) s
    rw [ih]
    unfold zn0
    by_cases h2:s∈mks m
    · rw [if_pos h2,if_pos (List.mem_cons_of_mem _ h2)]
    · rw [if_neg h2,if_neg (by rw [List.mem_cons];exact λz=>z.elim h h2)];rfl
theorem SM.put {m:List (List UInt8×Bool)} (h:SM m) (s:List UInt8):SM (z95 m s true) :=
 ⟨λp hp=>by rcases yv9 hp with e|e
            · rw [e]
            · exact h.all p e,by rw [ybd];exact zwv h.nodup⟩
theorem SM.get {m:List (List UInt8×Bool)} (h:SM m) (s:List UInt8):z3p m s=if s∈mks m then some true else none:=by
 by_cases q:s∈mks m
 ·rw [if_pos q]
  cases hm:z3p m s with
  |none=>exact (y0b.1 hm q).elim
  |some b =>
   obtain ⟨p,h1,h2⟩:=ydy hm
   rw [<-h2,h.all p h1]
 ·rw [if_neg q,y0b.2 q]
theorem SM.mk' {m:List (List UInt8×Bool)} (h:SM m):MK m (mks m):=λs=>by rw [h.get s];by_cases q:s∈mks m <;> simp [q]
def EqS (R K:List (List UInt8)):Prop:=zdm R∧∀x,x∈R↔x∈K
theorem EqS.nil:EqS [] []:=⟨by simp [zdm],λ_=>Iff.rfl⟩
theorem EqS.put {R K:List (List UInt8)} (h:EqS R K) (s:List UInt8):EqS (ins R s) (zn0 K s):=⟨znp h.1,λx=>by rw [zo1,zxo,h.2]⟩
theorem EqS.sort {R K:List (List UInt8)} (h:EqS R K) (hn:K.Nodup):z01 K=R :=
 zk9 (zif hn) h.1 λx=>by rw [(zd6 K).mem_iff,h.2]
theorem y09 {T:Type} (m:List (List UInt8×T)):(mks m).length=m.length:=by simp [mks]
theorem z06e {T:Type} (m:List (List UInt8×T)):(mvs m).length=m.length:=by simp [mvs]
theorem y63 {m:List (List UInt8×Bool)} (h:SM m) (hl:(mks m).length<=8388608) (hs:∀s∈mks m,s.length<=8388608):Ev (λn=>zbr n (mks m) (mvs m)) (z01 (mks m),mks m,mvs m):=Ev.pure (by
 show (if _ then _ else _)=_
 rw [if_pos ⟨h.nodup,by rw [y09,z06e],hl,hs⟩])
noncomputable def zcl (K:List (List UInt8)) (e:zz1):Bool:=(z5l e).1.any λs=>decide (s∈K)
theorem yn3 {R K:List (List UInt8)} (h:∀x,x∈R↔x∈K) (e:zz1):zcl R e=zcl K e:=by
 unfold zcl
 congr 1
 funext s
 exact decide_eq_decide.2 (h s)
theorem y6l {e:zz1} {m:List (List UInt8×Bool)} {K:List (List UInt8)} (hm:MK m K) (hw:e.wf) (hs:e.size<=8388608):Ev (λn=>zd2 n e (mks m) (mvs m)) (zcl K e,mks m,mvs m):=by
 have hl:=zwa e hs
 obtain ⟨i,h1,h2⟩:=zqx (L:=λn k=>kzf n k (z5l e).1 ((z5l e).1.length:Int) (mks m) (mvs m)) (l:=(z5l e).1) (p:=λs=>decide (s∈K)) (st:=(mks m,mvs m))
  (by rw [z2h,Ev.kz1 (by simp),Ev.kz0,kz3]) λk hk v=>by
   have hf:Ev (λn=>zeo n (z5l e).1[k] (mks m) (mvs m)) (decide ((z5l e).1[k]∈K),mks m,mvs m):=by
    rw [yfw,Ev.kz0,kz3,hm]
   constructor
   ·intro hp
    rw [z2h,Ev.yz1 (by simpa using hk),Ev.kz2 (yz6 hk),kz3,Ev.yz0 hf,Ev.yz1 hp,Ev.kz0,kz3]
   ·intro hp hv
    rw [z2h,Ev.yz1 (by simpa using hk),Ev.kz2 (yz6 hk),kz3,Ev.yz0 hf,Ev.kz1 hp,kz3,wrk (by omega)];exact hv
 have hc:Ev (λn=>zzn n (z5l e).1 (mks m) (mvs m)) (zcl K e,mks m,mvs m):=by
  rw [zgy,kz3,Ev.yz0 (by rw [ziz,kz3];exact h1),Ev.kz0,h2,kz3,zcl]
 rw [ypo,zz1.yz5,Ev.yz0 (yfq hw hs),kz3,Ev.yz0 hc,Ev.kz0,kz3]
theorem yic {l:List zz1} {m:List (List UInt8×Bool)} {K:List (List UInt8)} (hm:MK m K) (hw:∀e∈l,e.wf) (hs:∀e∈l,e.size<=8388608) (hl:l.length<=8388608):Ev (λn=>zzh n l (mks m) (mvs m)) (l.any (zcl K),mks m,mvs m):=by
 obtain ⟨i,h1,h2⟩:=zqx (L:=λn k=>yzc n k l (l.length:Int) (mks m) (mvs m)) (l:=l) (p:=zcl K) (st:=(mks m,mvs m))
  (by rw [z1b,Ev.kz1 (by simp),Ev.kz0,kz3]) λk hk v=>by
   have hx:=List.getElem_mem hk
   have hf:Ev (λn=>z9t n l[k] (mks m) (mvs m)) (zcl K l[k],mks m,mvs m):=by
    rw [y3v,kz3,zz1.yz5,Ev.yz0 (y6l hm (hw _ hx) (hs _ hx)),Ev.kz0,kz3]
   constructor
   ·intro hp
    rw [z1b,Ev.yz1 (by simpa using hk),Ev.kz2 (yz6 hk),kz3,zz1.yz5,Ev.yz0 hf,Ev.yz1 hp,Ev.kz0,kz3]
   ·intro hp hv
    rw [z1b,Ev.yz1 (by simpa using hk),Ev.kz2 (yz6 hk),kz3,zz1.yz5,Ev.yz0 hf,Ev.kz1 hp,kz3,wrk (by omega)];exact hv
 rw [zez,kz3,Ev.yz0 (by rw [zge,kz3];exact h1),Ev.kz0,h2,kz3]
theorem zwb {e:zz1} {R:List (List UInt8)} (hs:e.size<=8388608) (hR:R.length<=8388608):Ev (λn=>z92 n e R) (zcl R e):=by
 have hl:=zwa e hs
 rw [yji,zz1.yz5,Ev.yz0 (y87 hs),<-ifB (zcl R e)]
 refine zgm (L:=λn k=>z8d n k (z5l e).1 R) (by rw [zui,Ev.kz1 (by simp),Ev.kz0]) λk hk v hv => ?_
 have hge:decide (atI R (z5l e).1[k]>=0)=decide ((z5l e).1[k]∈R):=decide_eq_decide.2 (by
  have:=z4g (l:=R) (s:=(z5l e).1[k])
  constructor
  ·intro h;exact Classical.byContradiction λq=>by have:=this.2 q;omega
  ·intro h;exact Classical.byContradiction λq=>this.1 (by omega) h)
 rw [zui,Ev.yz1 (by simpa using hk),Ev.kz2 (yz6 hk),Ev.yz0 (zmx hR),hge,wrk (by omega),Ev.pif,Ev.kz0]
 split
 ·rfl
 ·exact hv
theorem z02w (x:List UInt8):∀(e:zz1) (acc:List (List UInt8)),x∈znh e acc↔x∈acc∨x∈znh e []:=zyx λe ih acc=>by
 have hL:∀(l:List zz1),(∀y∈l,y∈e.args)->∀acc:List (List UInt8),x∈z8n l acc↔x∈acc∨x∈z8n l []:=λl=>by
  induction l with
  |nil=>intro _ acc;simp [z8n]
  |cons y l ihl =>
   intro hm acc
   have h1:=ih y (hm y List.mem_cons_self)
   have h2:=ihl λz hz=>hm z (List.mem_cons_of_mem _ hz)
   simp only [z8n]
   rw [h2 (znh y acc),h2 (znh y []),h1 acc,or_assoc]
 have hA:=hL e.args λ_ h=>h
 rw [zuo,zuo,hA,hA (if e.op=2 then ins [] e.name else [])]
 split
 ·rw [zo1,zo1,or_assoc];simp
 ·simp
theorem y36 (x:List UInt8):∀(l:List zz1) (acc:List (List UInt8)),x∈z8n l acc↔x∈acc∨∃e∈l,x∈znh e []
 |[],acc=>by simp [z8n]
 |e::l,acc=>by
  simp only [z8n]
  rw [y36 x l,z02w x e acc]
  simp only [List.mem_cons,exists_eq_or_imp,or_assoc]
theorem yw4 {l:List zz1} (h:zon (z34 l)=true):∀x∈l,zon x=true:=by
 rw [yf1] at h
 have:=(Bool.and_eq_true_iff.1 (Bool.and_eq_true_iff.1 h).2).2
 rw [yxb] at this
 exact List.all_eq_true.1 this
theorem ye8 {l:List zz1} (h:z3n (z34 l)=0):∀e∈l,z3n e=0:=λe he=>by
 obtain ⟨h1,h2,h3⟩:=zyg h
 have f:=yw4 h1 e he
 have p1:z9a e<=zzu l:=ytw he
 have p2:z9a (z34 l)=1+zzu l:=zeh _
 have d2:zhg (z34 l)=max 1 (zl2 l):=y5g _
 have d1:∀{l:List zz1},e∈l->zhg e<=zl2 l:=λ{l}=>by
  induction l with
  |nil=>intro h;cases h
  |cons y l ih =>
   intro h
   simp only [zl2]
   rcases List.mem_cons.1 h with rfl|h
   · omega
   · have:=ih h;omega
 have:=d1 he
 unfold z3n
 rw [if_neg (by omega),if_pos f]
theorem ybu {K:List (List UInt8)} {l:List zz1} (h:z3n (z34 l)=0):zcl K (z34 l)=l.any (zcl K):=by
 have hn:(z5l (z34 l)).1=z8n l []:=by
  unfold z5l;rw [if_neg (by simp [h]),zuo];rfl
 rw [Bool.eq_iff_iff]
 unfold zcl
 rw [hn,List.any_eq_true,List.any_eq_true]
 simp only [decide_eq_true_eq,List.any_eq_true]
 constructor
 ·rintro ⟨s,h1,h2⟩
  rcases (y36 s l []).1 h1 with q|⟨e,he,hs⟩
  ·cases q
  ·exact ⟨e,he,s,by unfold z5l;rw [if_neg (by simp [ye8 h e he])];exact hs,h2⟩
 ·rintro ⟨e,he,s,h1,h2⟩
  refine ⟨s,(y36 s l []).2 (.inr ⟨e,he,?_⟩),h2⟩
  unfold z5l at h1;rw [if_neg (by simp [ye8 h e he])] at h1;exact h1
theorem y8t {a b:List zz7} (h:a.length+b.length<=8388608):Ev (λn=>yzs n [a,b]) (.ok (a++b)):=by
 have w1:IntKind.i64.wrap (0+(a.length:Int))=(a.length:Int):=by rw [Int.zero_add];exact wI (by omega)
 have w2:IntKind.i64.wrap ((a.length:Int)+(b.length:Int))=((a.length+b.length:Nat):Int):=by rw [wI (by omega)];rfl
 have hg:Ev (λn=>z6g n [] ((a.length+b.length:Nat):Int)) []:=Ev.pure (by show (if _ then _ else _)=_;rw [if_pos (by omega)])
 have l2:Ev (λn=>yzh n 0 [a,b] 2 []) (.ok (a++b)):=by
  rw [z3b,Ev.yz1 (by decide),Ev.kz2 (show ix [a,b] 0=some a from rfl),Ev.kz2 (z1k (by simp;omega)),show IntKind.i64.wrap (0+1)=1 by decide,List.nil_append]
  rw [z3b,Ev.yz1 (by decide),Ev.kz2 (show ix [a,b] 1=some b from rfl),Ev.kz2 (z1k (by omega)),show IntKind.i64.wrap (1+1)=2 by decide]
  rw [z3b,Ev.kz1 (by decide),Ev.kz0]
 rw [zkr]
 rw [z3c,Ev.yz1 (by simp),Ev.kz2 (show ix [a,b] 0=some a from rfl),w1,Ev.kz1 (decide_eq_false (by omega)),z9l,show IntKind.i64.wrap (0+1)=1 by decide]
 rw [z3c,Ev.yz1 (by simp),Ev.kz2 (show ix [a,b] 1=some b from rfl),w2,Ev.kz1 (decide_eq_false (by omega)),z9l,show IntKind.i64.wrap (1+1)=2 by decide]
 rw [z3c,Ev.kz1 (by simp),Ev.yz0 hg]
 exact l2
theorem ytt {a b:List kz4} (h:a.length+b.length<=8388608):Ev (λn=>kzs n [a,b]) (.ok (a++b)):=by
 have w1:IntKind.i64.wrap (0+(a.length:Int))=(a.length:Int):=by rw [Int.zero_add];exact wI (by omega)
 have w2:IntKind.i64.wrap ((a.length:Int)+(b.length:Int))=((a.length+b.length:Nat):Int):=by rw [wI (by omega)];rfl
 have hg:Ev (λn=>z6h n [] ((a.length+b.length:Nat):Int)) []:=Ev.pure (by show (if _ then _ else _)=_;rw [if_pos (by omega)])
 have l2:Ev (λn=>kzh n 0 [a,b] 2 []) (.ok (a++b)):=by
  rw [z3a,Ev.yz1 (by decide),Ev.kz2 (show ix [a,b] 0=some a from rfl),Ev.kz2 (z1k (by simp;omega)),show IntKind.i64.wrap (0+1)=1 by decide,List.nil_append]
  rw [z3a,Ev.yz1 (by decide),Ev.kz2 (show ix [a,b] 1=some b from rfl),Ev.kz2 (z1k (by omega)),show IntKind.i64.wrap (1+1)=2 by decide]
  rw [z3a,Ev.kz1 (by decide),Ev.kz0]
 rw [zkz]
 rw [z3f,Ev.yz1 (by simp),Ev.kz2 (show ix [a,b] 0=some a from rfl),w1,Ev.kz1 (decide_eq_false (by omega)),z9s,show IntKind.i64.wrap (0+1)=1 by decide]
 rw [z3f,Ev.yz1 (by simp),Ev.kz2 (show ix [a,b] 1=some b from rfl),w2,Ev.kz1 (decide_eq_false (by omega)),z9s,show IntKind.i64.wrap (1+1)=2 by decide]
 rw [z3f,Ev.kz1 (by simp),Ev.yz0 hg]
 exact l2
theorem y78 {s:List UInt8} {acc:List (List UInt8)} (hb:acc.length<=8000000):Ev (λn=>zct n acc s) (ins acc s):=by
 have fin:∀k,k<=acc.length->acc.takeWhile (λx=>Op.bytesLess x s)=acc.take k->acc.dropWhile (λx=>Op.bytesLess x s)=acc.drop k->Ev (λn=>zao n acc s (k:Int) false) (ins acc s):=λk hk ht hd=>by
  have hins:=yqw s acc
  rw [ht,hd] at hins
  have put:ins acc s=acc.take k++s::acc.drop k->Ev (λn=>z9w n acc (k:Int) s false) (ins acc s):=λhi=>by
   have h3:sub acc (k:Int) (acc.length:Int)=some (acc.drop k):=by
    unfold sub
    rw [if_pos (by omega)];simp
   rw [zx8,Ev.kz1 (by rfl),Ev.kz2 (ywu hk),Ev.kz2 (z1k (by simp;omega)),Ev.kz2 h3,Ev.kz2 (z1k (by simp;omega)),Ev.kz2 (z1k (by simp;omega)),Ev.kz0,hi]
   simp
  rw [zwy,Ev.kz1 (by rfl)]
  by_cases he:k=acc.length
  ·rw [Ev.kz1 (by simp;omega)]
   exact put (by rw [hins,if_neg (by rw [List.drop_of_length_le (by omega)];simp)])
  ·have hlt:k<acc.length:=by omega
   rw [Ev.yz1 (by simp;omega),Ev.kz2 (yz6 hlt)]
   have hhead:(acc.drop k).head?=some acc[k]:=by rw [<-List.getElem_cons_drop (h:=hlt)];rfl
   by_cases heq:acc[k]=s
   ·rw [show (acc[k]==s)=true by simpa using heq,zx8,Ev.yz1 (by rfl),Ev.kz0]
    rw [hins,if_pos (by rw [hhead,heq])]
   ·rw [show (acc[k]==s)=false by simpa using heq]
    exact put (by rw [hins,if_neg (by rw [hhead];simpa using heq)])
 have place:∀k,k<=acc.length->(acc.take k).all (λx=>Op.bytesLess x s)=true->Ev (λn=>z7h n (k:Int) acc s) (ins acc s) :=
  down (Q:=λk=>(acc.take k).all (λx=>Op.bytesLess x s)=true->Ev (λn=>z7h n (k:Int) acc s) (ins acc s)) (λhall=>by
   rw [List.take_length] at hall
   rw [List.all_eq_true] at hall
   rw [zx5,Ev.kz1 (by simp)]
   refine fin _ (Nat.le_refl _) ?_ ?_
   ·rw [List.take_length];exact (y2e hall).1
   ·rw [List.drop_length];exact (y2e hall).2) λk hk ihk hall=>by
   have hsplit:acc=acc.take k++acc.drop k:=(List.take_append_drop k acc).symm
   rw [zx5,Ev.yz1 (by simpa using hk),Ev.kz2 (yz6 hk)]
   cases hb:Op.bytesLess acc[k] s
   ·rw [List.all_eq_true] at hall
    refine fin k (by omega) ?_ ?_
    ·conv=>lhs;rw [hsplit]
     rw [List.takeWhile_append_of_pos hall,<-List.getElem_cons_drop (h:=hk),List.takeWhile_cons_of_neg (by simp [hb]),List.append_nil]
    ·conv=>lhs;rw [hsplit]
     rw [List.dropWhile_append_of_pos hall,<-List.getElem_cons_drop (h:=hk),List.dropWhile_cons_of_neg (by simp [hb])]
   ·rw [zwy,Ev.yz1 (by rfl),wrk (by omega)]
    refine ihk ?_
    rw [<-zbc hk,List.all_append,hall];simp [hb]
 rw [ytf]
 exact place 0 (Nat.zero_le _) (by simp)
end Go.Proofs.YtahcjggdcmgpkaaGreat
namespace Go.Proofs.YtahcjggdcmgpkaaGreat
open Go Go.Ab
set_option linter.unusedVariables false
set_option linter.unusedSimpArgs false
def e0:zz1:=⟨0,⟨0,⟨0,0⟩,false,[],[]⟩,[],[]⟩
def valOf (p:zz0) (s:List UInt8):zz1:=match p.attrs[(atI (kz8 p) s).toNat]? with
 |some t=>t.value
 |none=>e0
theorem z00s {p:zz0} {s:List UInt8} (h:s∈kz8 p):∃i:Nat,∃hi:i<p.attrs.length,atI (kz8 p) s=(i:Int)∧p.attrs[i].name=s∧valOf p s=p.attrs[i].value:=by
 obtain ⟨i,hi,h1,h2,_⟩:=zyb h
 have hi':i<p.attrs.length:=by simpa [kz8] using hi
 refine ⟨i,hi',h1,by simpa [kz8] using h2,?_⟩
 unfold valOf
 rw [h1,Int.toNat_natCast,List.getElem?_eq_getElem hi']
theorem z043 {p:zz0} (hn:(kz8 p).Nodup) {k:Nat} (hk:k<p.attrs.length):valOf p p.attrs[k].name=p.attrs[k].value:=by
 have hk':k<(kz8 p).length:=by simpa [kz8] using hk
 have hx:(kz8 p)[k]=p.attrs[k].name:=by simp [kz8]
 obtain ⟨i,hi,h1,h2,h3⟩:=z00s (p:=p) (s:=p.attrs[k].name) (by rw [<-hx];exact List.getElem_mem hk')
 have hi':i<(kz8 p).length:=by simpa [kz8] using hi
 have:i=k:=(List.getElem_inj hn).1 (show (kz8 p)[i]=(kz8 p)[k] by rw [hx,<-h2];simp [kz8])
 subst this
 exact h3
theorem y2w {p:zz0} {s:List UInt8} (hs:p.size<=4000000):(valOf p s).size<=8388608:=by
 unfold valOf
 split
 ·rename_i t h
  have h1:=zx0 (List.mem_of_getElem? h)
  have h2:=@zx6 t
  omega
 ·unfold e0;rw [zz1.size_eq,yz2.size_eq,kz6.size_eq];simp
noncomputable def ycg (p q:zz0) (K:List (List UInt8)) (x:zz7):Bool := !decide (x.name∈kz8 p)||(!decide (x.name∈kz8 q)||(!eqB (valOf p x.name) (valOf q x.name)||zcl K x.value))
noncomputable def zfw (p q:zz0) (K:List (List UInt8)) (x:zz7):List (List UInt8):=if ycg p q K x=true then zn0 K x.name else K
noncomputable def zl5 (p q:zz0) (K:List (List UInt8)):List (List UInt8):=(p.attrs++q.attrs).foldl (zfw p q) K
noncomputable def itN (p q:zz0):Nat->List (List UInt8)
 |0=>[]
 |t+1=>zl5 p q (itN p q t)
def NN (p q:zz0):Nat:=p.attrs.length+q.attrs.length
noncomputable def nK (p q:zz0):List (List UInt8):=itN p q (NN p q+1)
structure y1k (p q:zz0) (K:List (List UInt8)):Prop where
 nodup:K.Nodup
 sub:∀x∈K,x∈kz8 p++kz8 q
theorem y1k.len {p q:zz0} {K:List (List UInt8)} (h:y1k p q K):K.length<=NN p q:=by
 have:=zf9 h.nodup h.sub
 rw [List.length_append] at this
 simpa [kz8,NN] using this
theorem y1k.step {p q:zz0} {K:List (List UInt8)} (h:y1k p q K) {x:zz7} (hx:x∈p.attrs++q.attrs):y1k p q (zfw p q K x):=by
 unfold zfw
 split
 ·refine ⟨zwv h.nodup,λy hy => ?_⟩
  rcases zxo.1 hy with hy|hy
  ·exact h.sub y hy
  ·rw [hy]
   rw [List.mem_append] at hx ⊢
   exact hx.imp (λz=>List.mem_map_of_mem z) λz=>List.mem_map_of_mem z
 ·exact h
theorem yno {p q:zz0}:∀(l:List zz7) {K:List (List UInt8)},y1k p q K->(∀x∈l,x∈p.attrs++q.attrs)->y1k p q (l.foldl (zfw p q) K)
 |[],_,h,_=>h
 |x::l,K,h,hl=>yno l (h.step (hl x List.mem_cons_self)) λy hy=>hl y (List.mem_cons_of_mem _ hy)
theorem zt7 (p q:zz0):∀t,y1k p q (itN p q t)
 |0=>⟨by simp [itN],by simp [itN]⟩
 |t+1=>yno _ (zt7 p q t) λ_ h=>h
theorem z067 (p q:zz0) (K:List (List UInt8)) (x:zz7):K.length<=(zfw p q K x).length∧((zfw p q K x).length=K.length->zfw p q K x=K):=by
 unfold zfw
 split
 ·exact z05z K x.name
 ·exact ⟨Nat.le_refl _,λ_=>rfl⟩
theorem ymv {p q:zz0}:∀(l:List zz7) (K:List (List UInt8)),K.length<=(l.foldl (zfw p q) K).length∧((l.foldl (zfw p q) K).length=K.length->l.foldl (zfw p q) K=K)
 |[],K=>⟨Nat.le_refl _,λ_=>rfl⟩
 |x::l,K=>by
  obtain ⟨a1,a2⟩:=z067 p q K x
  obtain ⟨b1,b2⟩:=ymv l (zfw p q K x)
  refine ⟨Nat.le_trans a1 b1,λh => ?_⟩
  show l.foldl (zfw p q) (zfw p q K x)=K
  have h:(l.foldl (zfw p q) (zfw p q K x)).length=K.length:=h
  rw [b2 (by omega)]
  exact a2 (by omega)
theorem yu1 (p q:zz0) (K:List (List UInt8)):K.length<=(zl5 p q K).length∧((zl5 p q K).length=K.length->zl5 p q K=K):=ymv _ K
theorem yrh {p q:zz0} {t:Nat} (h:zl5 p q (itN p q t)=itN p q t):∀m,t<=m->itN p q m=itN p q t:=λm hm=>by
 induction m with
 |zero=>have:t=0:=by omega
        subst this;rfl
 |succ m ih =>
  rcases Nat.lt_or_ge m t with q'|q'
  · have:t=m+1:=by omega
    subst this;rfl
  · rw [itN,ih q',h]
theorem z07s (p q:zz0):∃t,t<=NN p q+1∧zl5 p q (itN p q t)=itN p q t:=by
 refine Classical.byContradiction λhno => ?_
 have grow:∀t,t<=NN p q+2->t<=(itN p q t).length:=λt=>by
  induction t with
  |zero=>intro _;exact Nat.zero_le _
  |succ t ih =>
   intro ht
   have h1:=ih (by omega)
   obtain ⟨a1,a2⟩:=yu1 p q (itN p q t)
   have h2:zl5 p q (itN p q t)≠itN p q t:=λe=>hno ⟨t,by omega,e⟩
   show t+1<=(zl5 p q (itN p q t)).length
   rcases Nat.lt_or_ge (itN p q t).length (zl5 p q (itN p q t)).length with z|z
   · omega
   · exact (h2 (a2 (by omega))).elim
 have h1:=grow _ (Nat.le_refl _)
 have h2:=(zt7 p q (NN p q+2)).len
 omega
theorem z07w {p q:zz0} {t:Nat} (h:zl5 p q (itN p q t)=itN p q t):itN p q t=nK p q:=by
 obtain ⟨s,hs,h2⟩:=z07s p q
 have e1:=yrh h2 (NN p q+1) hs
 have h3:zl5 p q (itN p q (NN p q+1))=itN p q (NN p q+1):=by rw [e1,h2]
 rcases Nat.lt_or_ge t (NN p q+1) with z|z
 ·exact (yrh h _ (by omega)).symm
 ·exact yrh h3 _ z
def VM (p:zz0) (m:List (List UInt8×zz1)) (K:List (List UInt8)):Prop:=∀s,z3p m s=if s∈K then some (valOf p s) else none
theorem y8m {p:zz0} (hs:p.size<=4000000) (hn:(kz8 p).Nodup):∃m,VM p m (kz8 p)∧Ev (λn=>zat n p) (mks m,mvs m):=by
 have:=@zju p
 have hal:(kz8 p).length=p.attrs.length:=by simp [kz8]
 have loop:∀k,k<=p.attrs.length->∀m,VM p m ((kz8 p).take k)->∃m',VM p m' (kz8 p)∧Ev (λn=>z4i n (k:Int) p.attrs (p.attrs.length:Int) (mks m) (mvs m)) (mks m',mvs m') :=
  down (λm hm=>⟨m,by rwa [<-hal,List.take_length] at hm,by rw [zrb,Ev.kz1 (by simp),Ev.kz0,kz3]⟩) λk hk ih m hm=>by
   obtain ⟨m',h1,h2⟩:=ih (z95 m p.attrs[k].name p.attrs[k].value) λs=>by
    rw [y4r,hm s,zla hk]
    by_cases q:s=p.attrs[k].name
    ·subst q;simp [z043 hn hk]
    ·simp [q]
   refine ⟨m',h1,?_⟩
   rw [zrb,Ev.yz1 (by simpa using hk),Ev.kz2 (yz6 hk),kz3,zz1.yz5,wrk (by omega)];exact h2
 obtain ⟨m,h1,h2⟩:=loop 0 (Nat.zero_le _) [] λs=>by simp [z3p]
 exact ⟨m,h1,by rw [y9v];exact h2⟩
theorem yg1 {p q:zz0} (hp:p.wf) (hq:q.wf) (hsp:p.size<=1048576) (hsq:q.size<=1048576) (hnp:(kz8 p).Nodup) (hnq:(kz8 q).Nodup) :
  ∃m,SM m∧mks m=nK p q∧Ev (λn=>zd7 n p q) (.ok (mks m,mvs m)):=by
 have lp:=@zju p
 have lq:=@zju q
 obtain ⟨ma,ha1,ha2⟩:=y8m (p:=p) (by omega) hnp
 obtain ⟨mb,hb1,hb2⟩:=y8m (p:=q) (by omega) hnq
 have hlen:(p.attrs++q.attrs).length=NN p q:=by rw [List.length_append];rfl
 have hN:NN p q<=2097152:=by unfold NN;omega
 have pass:∀(before:Int) (v:Res ((List UInt8)×Unit) ((List (List UInt8))×(List Bool))),∀k,k<=(p.attrs++q.attrs).length->∀m,SM m ->
   (∀m',SM m'->mks m'=((p.attrs++q.attrs).drop k).foldl (zfw p q) (mks m)->Ev (λn=>z38 n ((p.attrs++q.attrs).length:Int) (p.attrs++q.attrs) before ((p.attrs++q.attrs).length:Int) (mks m') (mvs m') (mks mb) (mvs mb) (mks ma) (mvs ma) q p) v) ->
   Ev (λn=>z38 n (k:Int) (p.attrs++q.attrs) before ((p.attrs++q.attrs).length:Int) (mks m) (mvs m) (mks mb) (mvs mb) (mks ma) (mvs ma) q p) v:=λbefore v =>
  down (λm hm h=>h m hm (by rw [List.drop_length];rfl)) λk hk ih m hm h=>by
   have hx:=List.getElem_mem hk
   have hsx:(p.attrs++q.attrs)[k].value.wf∧(p.attrs++q.attrs)[k].value.size<=8388608:=by
    rcases List.mem_append.1 hx with z|z
    ·have:=zx0 z;have:=@zx6 (p.attrs++q.attrs)[k];exact ⟨z010 hp z,by omega⟩
    ·have:=zx0 z;have:=@zx6 (p.attrs++q.attrs)[k];exact ⟨z010 hq z,by omega⟩
   have hixx:=yz6 hk
   rw [<-List.getElem_cons_drop (h:=hk),List.foldl_cons] at h
   generalize hxe:(p.attrs++q.attrs)[k]=x at *
   have l2:∀b:Bool,b=ycg p q (mks m) x->Ev (λn=>z36 n (p.attrs++q.attrs) before ((p.attrs++q.attrs).length:Int) (k:Int) b (mks m) (mvs m) (mks mb) (mvs mb) (mks ma) (mvs ma) q p x) v:=λb hb=>by
    have l3:∀m',SM m'->mks m'=zfw p q (mks m) x->Ev (λn=>z8r n (p.attrs++q.attrs) before ((p.attrs++q.attrs).length:Int) (k:Int) (mks m') (mvs m') (mks mb) (mvs mb) (mks ma) (mvs ma) q p) v:=λm' h1 h2=>by
     rw [y6u,wrk (by omega),kz3,kz3,kz3]
     exact ih m' h1 λm'' h3 h4=>h m'' h3 (by rw [h4,h2])
    cases b with
    |true=>rw [zve,Ev.yz1 (by rfl),kz3,kz3,kz3];exact l3 _ (hm.put _) (by rw [ybd];unfold zfw;rw [if_pos hb.symm])
    |false=>rw [zve,Ev.kz1 (by rfl),kz3,kz3,kz3];exact l3 _ hm (by unfold zfw;rw [if_neg (by rw [<-hb];simp)])
   have e1:Option.isSome (z3p ma x.name)=decide (x.name∈kz8 p):=by rw [ha1];by_cases z:x.name∈kz8 p <;> simp [z]
   have e2:Option.isSome (z3p mb x.name)=decide (x.name∈kz8 q):=by rw [hb1];by_cases z:x.name∈kz8 q <;> simp [z]
   rw [znt,Ev.yz1 (decide_eq_true (by omega)),Ev.kz2 hixx,kz3,kz3,kz3,e1,e2,zz7.yz5]
   by_cases z1:x.name∈kz8 p
   case neg=>rw [decide_eq_false z1,Ev.yz1 (by rfl)];exact l2 true (by unfold ycg;rw [decide_eq_false z1];rfl)
   rw [decide_eq_true z1,Ev.kz1 (by rfl)]
   by_cases z2:x.name∈kz8 q
   case neg=>rw [decide_eq_false z2,Ev.yz1 (by rfl)];exact l2 true (by unfold ycg;rw [decide_eq_false z2,decide_eq_true z1];rfl)
   rw [decide_eq_true z2,Ev.kz1 (by rfl)]
   have g1:Option.getD (z3p ma x.name) (zz1.mk 0 (yz2.mk 0 (kz6.mk 0 0) false [] []) [] [])=valOf p x.name:=by rw [ha1,if_pos z1];rfl
   have g2:Option.getD (z3p mb x.name) (zz1.mk 0 (yz2.mk 0 (kz6.mk 0 0) false [] []) [] [])=valOf q x.name:=by rw [hb1,if_pos z2];rfl
   rw [g1,g2,zz1.yz5,zz1.yz5,Ev.yz0 (y07 _ _ (y2w (by omega)))]
   cases z3:eqB (valOf p x.name) (valOf q x.name) with
   |false=>rw [Ev.yz1 (by rfl)];exact l2 true (by unfold ycg;rw [decide_eq_true z1,decide_eq_true z2,z3];rfl)
   |true =>
    rw [Ev.kz1 (by rfl),zz1.yz5,Ev.yz0 (y6l hm.mk' hsx.1 hsx.2),kz3]
    exact l2 _ (by unfold ycg;rw [decide_eq_true z1,decide_eq_true z2,z3];rfl)
 have outer:∀d t m,SM m->mks m=itN p q t->NN p q-(mks m).length=d->∃m',SM m'∧mks m'=nK p q∧Ev (λn=>z7w n (mks m) (mvs m) (mks mb) (mvs mb) (mks ma) (mvs ma) q p) (.ok (mks m',mvs m')):=λd=>by
  induction d using Nat.strongRecOn with
  |ind d ih =>
   intro t m hm hk hd
   have hg:=zt7 p q t
   obtain ⟨c1,c2⟩:=yu1 p q (mks m)
   have hgn:=(zt7 p q (t+1)).len
   have hpk:zl5 p q (mks m)=itN p q (t+1):=by rw [hk];rfl
   have hml:=y09 m
   by_cases hst:(zl5 p q (mks m)).length=(mks m).length
   ·
    have hfix:=c2 hst
    have hnk:mks m=nK p q:=by rw [hk];exact z07w (by rw [<-hk];exact hfix)
    have:∃m',SM m'∧mks m'=nK p q∧Ev (λn=>z38 n 0 (p.attrs++q.attrs) ((mks m).length:Int) ((p.attrs++q.attrs).length:Int) (mks m) (mvs m) (mks mb) (mvs mb) (mks ma) (mvs ma) q p) (.ok (mks m',mvs m')):=by
     have hex:∃m',SM m'∧mks m'=mks m∧∀m'',SM m''->mks m''=mks m->m''=m':=by
      refine ⟨m,hm,rfl,λm'' h1 h2 => ?_⟩
      have e:∀a:List (List UInt8×Bool),(∀p∈a,p.2=true)->a=(mks a).map λs=>(s,true):=λa ha=>by
       induction a with
       |nil=>rfl
       |cons y a iha =>
        have:=ha y List.mem_cons_self
        show y::a=(y.1,true)::(mks a).map _
        rw [<-iha λz hz=>ha z (List.mem_cons_of_mem _ hz),<-this]
      rw [e m'' h1.all,e m hm.all,h2]
     obtain ⟨m',a1,a2,a3⟩:=hex
     refine ⟨m',a1,a2.trans hnk,?_⟩
     refine pass _ _ 0 (Nat.zero_le _) m hm λm'' h1 h2 => ?_
     rw [List.drop_zero] at h2
     have h2:mks m''=zl5 p q (mks m):=h2
     rw [hfix] at h2
     have:=a3 m'' h1 h2
     subst this
     rw [znt,Ev.kz1 (by simp),kz3,Ev.yz1 (by rw [<-y09 m'',h2];simp),Ev.kz0]
    obtain ⟨m',a1,a2,a3⟩:=this
    refine ⟨m',a1,a2,?_⟩
    rw [zub,Ev.yz0 (y8t (by rw [<-List.length_append,hlen];omega)),Ev.znv,kz3,kz3,kz3,<-y09 m]
    exact a3
   · have hlt:(mks m).length<(zl5 p q (mks m)).length:=by omega
     let m1:List (List UInt8×Bool):=(zl5 p q (mks m)).map λs=>(s,true)
     have k1:mks m1=zl5 p q (mks m):=by
      show List.map Prod.fst (List.map _ (zl5 p q (mks m)))=_
      rw [List.map_map];exact List.map_id _
     have s1:SM m1:=⟨λy hy=>by obtain ⟨s,_,rfl⟩:=List.mem_map.1 hy;rfl,by rw [k1,hpk];exact (zt7 p q (t+1)).nodup⟩
     have hb1:(zl5 p q (mks m)).length<=NN p q:=by rw [hpk];exact hgn
     obtain ⟨m',a1,a2,a3⟩:=ih (NN p q-(mks m1).length) (by rw [k1];omega) (t+1) m1 s1 (by rw [k1,hpk]) rfl
     refine ⟨m',a1,a2,?_⟩
     rw [zub,Ev.yz0 (y8t (by rw [<-List.length_append,hlen];omega)),Ev.znv,kz3,kz3,kz3,<-y09 m]
     refine pass _ _ 0 (Nat.zero_le _) m hm λm'' h1 h2 => ?_
     rw [List.drop_zero] at h2
     have h2:mks m''=zl5 p q (mks m):=h2
     have e:m''=m1:=by
      have e:∀a:List (List UInt8×Bool),(∀p∈a,p.2=true)->a=(mks a).map λs=>(s,true):=λa ha=>by
       induction a with
       |nil=>rfl
       |cons y a iha =>
        have:=ha y List.mem_cons_self
        show y::a=(y.1,true)::(mks a).map _
        rw [<-iha λz hz=>ha z (List.mem_cons_of_mem _ hz),<-this]
      rw [e m'' h1.all,h2]
     subst e
     rw [znt,Ev.kz1 (by simp),kz3,kz3,kz3,Ev.kz1 (by rw [<-y09,k1];simp;omega)]
     exact a3
 obtain ⟨m',a1,a2,a3⟩:=outer _ 0 [] SM.nil rfl rfl
 refine ⟨m',a1,a2,?_⟩
 rw [yhv,Ev.yz0 ha2,Ev.yz0 hb2,kz3,kz3]
 exact a3
theorem ycy {p:zz0} {s:List UInt8} (hs:p.size<=4000000):Ev (λn=>zdu n p s) (decide (s∈kz8 p),if s∈kz8 p then valOf p s else e0):=by
 have:=@zju p
 have hal:(kz8 p).length=p.attrs.length:=by simp [kz8]
 rw [ym1,Ev.yz0 (zrm (by omega)),Ev.yz0 (zmx (by omega))]
 by_cases h:s∈kz8 p
 ·obtain ⟨i,hi,h1,h2,h3⟩:=z00s h
  rw [Ev.kz1 (decide_eq_false λq=>z4g.1 q h),h1,Ev.kz2 (yz6 hi),Ev.kz0,decide_eq_true h,if_pos h,h3,zz1.yz5]
 ·rw [Ev.yz1 (decide_eq_true (z4g.2 h)),Ev.kz0,decide_eq_false h,if_neg h];rfl
theorem EqS.len {p q:zz0} {R K:List (List UInt8)} (h:EqS R K) (hg:y1k p q K):R.length<=NN p q:=by
 have:=zf9 (zb3 h.1) λx hx=>hg.sub x ((h.2 x).1 hx)
 rw [List.length_append] at this
 simpa [kz8,NN] using this
theorem y88 {p q:zz0} (hsp:p.size<=1048576) (hsq:q.size<=1048576):∃R,EqS R (nK p q)∧Ev (λn=>zbu n p q) R:=by
 have lp:=@zju p
 have lq:=@zju q
 have hlen:(p.attrs++q.attrs).length=NN p q:=by rw [List.length_append];rfl
 have hN:NN p q<=2097152:=by unfold NN;omega
 have pass:∀(turn:Int) (Φ:List (List UInt8)->Prop),∀k,k<=(p.attrs++q.attrs).length->∀R K,EqS R K->y1k p q K ->
   (∀R',EqS R' (((p.attrs++q.attrs).drop k).foldl (zfw p q) K)->∃r,Ev (λn=>z3v n ((p.attrs++q.attrs).length:Int) R' turn (p.attrs++q.attrs) q p) r∧Φ r) ->
   ∃r,Ev (λn=>z3v n (k:Int) R turn (p.attrs++q.attrs) q p) r∧Φ r:=λturn Φ =>
  down (λR K hR hg h=>h R (by rw [List.drop_length];exact hR)) λk hk ih R K hR hg h=>by
   have hx:=List.getElem_mem hk
   have hsx:(p.attrs++q.attrs)[k].value.size<=8388608:=by
    rcases List.mem_append.1 hx with z|z
    ·have:=zx0 z;have:=@zx6 (p.attrs++q.attrs)[k];omega
    ·have:=zx0 z;have:=@zx6 (p.attrs++q.attrs)[k];omega
   have hRl:=hR.len hg
   have hixx:=yz6 hk
   rw [<-List.getElem_cons_drop (h:=hk),List.foldl_cons] at h
   generalize hxe:(p.attrs++q.attrs)[k]=x at *
   have l2:∀b:Bool,b=ycg p q K x->∃r,Ev (λn=>z2e n turn (k:Int) R b (p.attrs++q.attrs) q p) r∧Φ r:=λb hb=>by
    cases b with
    |true =>
     obtain ⟨r,h1,h2⟩:=ih (ins R x.name) (zfw p q K x) (by unfold zfw;rw [if_pos hb.symm];exact hR.put _) (hg.step hx) h
     exact ⟨r,by rw [zss,Ev.yz1 (by rfl),Ev.kz2 hixx,Ev.yz0 (y78 (by omega)),zsi,wrk (by omega)];exact h1,h2⟩
    |false =>
     obtain ⟨r,h1,h2⟩:=ih R (zfw p q K x) (by unfold zfw;rw [if_neg (by rw [<-hb];simp)];exact hR) (hg.step hx) h
     exact ⟨r,by rw [zss,Ev.kz1 (by rfl),zsi,wrk (by omega)];exact h1,h2⟩
   simp only [zse (a0:=(k:Int)),Ev.yz1 (show decide ((k:Int)<((p.attrs++q.attrs).length:Int))=true from decide_eq_true (by omega)),Ev.kz2 hixx,Ev.yz0 (ycy (p:=p) (s:=x.name) (by omega)),Ev.yz0 (ycy (p:=q) (s:=x.name) (by omega))]
   by_cases z1:x.name∈kz8 p
   case neg =>
    obtain ⟨r,h1,h2⟩:=l2 true (by unfold ycg;rw [decide_eq_false z1];rfl)
    exact ⟨r,by rw [decide_eq_false z1,Ev.yz1 (by rfl)];exact h1,h2⟩
   by_cases z2:x.name∈kz8 q
   case neg =>
    obtain ⟨r,h1,h2⟩:=l2 true (by unfold ycg;rw [decide_eq_false z2,decide_eq_true z1];rfl)
    exact ⟨r,by rw [decide_eq_true z1,Ev.kz1 (by rfl),decide_eq_false z2,Ev.yz1 (by rfl)];exact h1,h2⟩
   cases z3:eqB (valOf p x.name) (valOf q x.name) with
   |false =>
    obtain ⟨r,h1,h2⟩:=l2 true (by unfold ycg;rw [decide_eq_true z1,decide_eq_true z2,z3];rfl)
    refine ⟨r,?_,h2⟩
    rw [decide_eq_true z1,Ev.kz1 (by rfl),decide_eq_true z2,Ev.kz1 (by rfl),if_pos z1,if_pos z2,zz1.yz5,zz1.yz5,Ev.yz0 (zwk _ _ (y2w (by omega))),z3,Ev.yz1 (by rfl)];exact h1
   |true =>
    obtain ⟨r,h1,h2⟩:=l2 (zcl R x.value) (by unfold ycg;rw [decide_eq_true z1,decide_eq_true z2,z3,yn3 hR.2];rfl)
    refine ⟨r,?_,h2⟩
    rw [decide_eq_true z1,Ev.kz1 (by rfl),decide_eq_true z2,Ev.kz1 (by rfl),if_pos z1,if_pos z2,zz1.yz5,zz1.yz5,Ev.yz0 (zwk _ _ (y2w (by omega))),z3,Ev.kz1 (by rfl),Ev.kz2 hixx,zz1.yz5,Ev.yz0 (zwb hsx (by omega))];exact h1
 have turns:∀j t R,j+t=NN p q+1->EqS R (itN p q t)->∃r,Ev (λn=>z73 n R (t:Int) q p) r∧EqS r (nK p q):=λj=>by
  have hw:IntKind.i64.wrap ((p.attrs.length:Int)+(q.attrs.length:Int))=((NN p q:Nat):Int):=by unfold NN;rw [wI (by omega)];rfl
  induction j with
  |zero =>
   intro t R ht hR
   have:t=NN p q+1:=by omega
   subst this
   exact ⟨R,by rw [zt2,hw,Ev.kz1 (decide_eq_false (by omega)),Ev.kz0],hR⟩
  |succ j ih =>
   intro t R ht hR
   have hx0:ext ([]:List zz7) p.attrs=some p.attrs:=by rw [z1k (by simp;omega)];rfl
   obtain ⟨r,h1,h2⟩:=pass (t:Int) (λr=>EqS r (nK p q)) 0 (Nat.zero_le _) R _ hR (zt7 p q t) λR' hR'=>by
    rw [List.drop_zero] at hR'
    obtain ⟨r,h1,h2⟩:=ih (t+1) R' (by omega) hR'
    exact ⟨r,by rw [zse,Ev.kz1 (by simp),wrk (by omega)];exact h1,h2⟩
   exact ⟨r,by rw [zt2,hw,Ev.yz1 (decide_eq_true (by omega)),Ev.kz2 hx0,Ev.kz2 (z1k (by omega))];exact h1,h2⟩
 obtain ⟨r,h1,h2⟩:=turns (NN p q+1) 0 [] (by omega) EqS.nil
 exact ⟨r,h2,by rw [ydi];exact h1⟩
end Go.Proofs.YtahcjggdcmgpkaaGreat
namespace Go.Proofs.YtahcjggdcmgpkaaGreat
open Go Go.Ab
set_option linter.unusedVariables false
set_option linter.unusedSimpArgs false
structure Valid (p:zz0):Prop where
 wf:p.wf
 size:p.size<=1048576
 ok:z5j p=0
theorem Valid.form {p:zz0} (h:Valid p):zf8 p=true:=(zxe h.ok).1
theorem Valid.rn {p:zz0} (h:Valid p):(zz4 p).Nodup:=(zxe h.ok).2.1
theorem Valid.an {p:zz0} (h:Valid p):(kz8 p).Nodup:=by
 have h:=h.ok
 unfold z5j at h
 by_cases h1:y4e p=true
 ·rw [if_pos h1] at h;cases h
 rw [if_neg h1] at h
 by_cases h2:zf8 p=true
 case neg=>rw [if_neg h2] at h;cases h
 rw [if_pos h2] at h
 by_cases h3:ynu p=true
 ·rw [if_pos h3] at h;cases h
 unfold ynu at h3
 simp only [Bool.or_eq_true,not_or] at h3
 exact z01b.1 (by simpa using h3.1)
theorem yy5 {p:zz0} (h:zf8 p=true) {r:kz4} (hr:r∈p.rules) {c:kz5} (hc:c∈r.cases) {a:zz3} (ha:a∈c.do_):z3n (z34 a.args)=0∧∀x∈a.items,z3n (z34 x.args)=0:=by
 obtain ⟨_,_,_,h4,_,_,_,h8⟩:=zti.1 (y3b h r hr c hc a ha)
 refine ⟨h4,λx hx => ?_⟩
 have:=List.all_eq_true.1 h8 x hx
 unfold y8o at this
 simp only [Bool.and_eq_true] at this
 simpa using this.2.2.2.2
noncomputable def y5j (K:List (List UInt8)) (a:zz3):Bool:=(zhm a).any (zcl K)
noncomputable def y30 (K:List (List UInt8)) (c:kz5):Bool:=zcl K c.when_||c.do_.any (y5j K)
noncomputable def zxc (K:List (List UInt8)) (r:kz4):Bool:=r.cases.any (y30 K)
theorem z02g {R K:List (List UInt8)} (h:∀x,x∈R↔x∈K) (r:kz4):zxc R r=zxc K r:=by
 have:zcl R=zcl K:=funext λe=>yn3 h e
 unfold zxc y30 y5j;rw [this]
theorem yrr {r:kz4} {m:List (List UInt8×Bool)} {K:List (List UInt8)} (hm:MK m K) (hw:r.wf) (hs:r.size<=4000000):Ev (λn=>zc9 n r (mks m) (mvs m)) (zxc K r,mks m,mvs m):=by
 have:=@zv7 r
 have e:(zxc K r,mks m,mvs m)=if r.cases.any (y30 K)=true then (true,mks m,mvs m) else (false,mks m,mvs m):=by unfold zxc;cases r.cases.any (y30 K) <;> rfl
 rw [yaz,kz3,e]
 refine zgm (L:=λn k=>z4j n k r.cases (r.cases.length:Int) (mks m) (mvs m)) (by rw [zpx,Ev.kz1 (by simp),Ev.kz0,kz3]) λk hk v hv => ?_
 have hc:=List.getElem_mem hk
 have:=zsk hc
 have hwc:=z01f hw hc
 have:=@y7x r.cases[k]
 have:=@zuf r.cases[k]
 rw [zpx,Ev.yz1 (by simpa using hk),Ev.kz2 (yz6 hk),zz1.yz5,kz3,Ev.yz0 (y6l hm (z05r hwc) (by omega)),kz3,y30]
 cases zcl K r.cases[k].when_ with
 |true=>rw [Ev.yz1 (by rfl),Ev.kz0];rfl
 |false =>
  rw [Ev.kz1 (by rfl),Bool.false_or]
  refine zgm (L:=λn j=>z4p n j r.cases[k].do_ r.cases (r.cases.length:Int) (k:Int) (r.cases[k].do_.length:Int) (mks m) (mvs m)) (by rw [zqq,Ev.kz1 (by simp),wrk (by omega),kz3];exact hv) λj hj w hw' => ?_
  have ha:=List.getElem_mem hj
  have:=zwz ha
  have hwa:=z00m hwc ha
  generalize hxa:r.cases[k].do_[j]=a at *
  have:=@zyv a
  have:=@z05q a
  have hel:=ybn a
  have hclone:Ev (λn=>z5k n a.args) a.args:=Ev.pure (by show (if _ then _ else _)=_;rw [if_pos (by omega)])
  have e2:zhm a=a.args++a.items.flatMap (·.args):=rfl
  rw [e2,List.length_append] at hel
  rw [zqq,Ev.yz1 (by simpa using hj),Ev.kz2 (by rw [yz6 hj,hxa]),Ev.yz0 hclone,kz3]
  refine zkq (L:=λn i s=>z4z n i a.items r.cases[k].do_ r.cases (r.cases.length:Int) (k:Int) (r.cases[k].do_.length:Int) (j:Int) (a.items.length:Int) (mks m) (mvs m) s) (xs:=a.items) (g:=λx=>x.args) (B:=8000000) (by omega) ?_ λi hi s hl hv => ?_
  · rw [zr5,Ev.kz1 (by simp),kz3,<-e2,Ev.yz0 (yic hm (λe he=>(zw8 he).2 hwa) (λe he=>by have:=(zw8 he).1;omega) (by rw [e2,List.length_append];omega)),kz3,wrk (by omega),y5j]
    cases (zhm a).any (zcl K)
    · rw [Ev.kz1 (by rfl)];exact hw'
    · rw [Ev.yz1 (by rfl),Ev.kz0];rfl
  · rw [zr5,Ev.yz1 (by simpa using hi),Ev.kz2 (yz6 hi),Ev.kz2 (z1k (by omega)),kz3,wrk (by omega)];exact hv
theorem ymd {r:kz4} {R:List (List UInt8)} (hf:∀c∈r.cases,∀a∈c.do_,z3n (z34 a.args)=0∧∀x∈a.items,z3n (z34 x.args)=0) (hs:r.size<=4000000) (hR:R.length<=8388608):Ev (λn=>zbk n r R) (zxc R r):=by
 have:=@zv7 r
 have list:∀l:List zz1,Ev (λn=>z05 n l) (z34 l):=λl=>by rw [zk2,Ev.kz0];rfl
 rw [y6e,<-ifB (zxc R r)]
 refine zgm (L:=λn k=>z3j n R k r) (xs:=r.cases) (p:=y30 R) (by rw [zp3,Ev.kz1 (by simp),Ev.kz0]) λk hk v hv => ?_
 have hc:=List.getElem_mem hk
 have:=zsk hc
 have:=@y7x r.cases[k]
 have:=@zuf r.cases[k]
 rw [zp3,Ev.yz1 (by simpa using hk),Ev.kz2 (yz6 hk),zz1.yz5,Ev.yz0 (zwb (by omega) hR),y30]
 cases zcl R r.cases[k].when_ with
 |true=>rw [Ev.yz1 (by rfl),Ev.kz0];rfl
 |false =>
  rw [Ev.kz1 (by rfl),Bool.false_or]
  refine zgm (L:=λn j=>z3g n R j (k:Int) r) (xs:=r.cases[k].do_) (p:=y5j R) (by rw [zpb,Ev.kz2 (yz6 hk),Ev.kz1 (by simp),wrk (by omega)];exact hv) λj hj w hw' => ?_
  have ha:=List.getElem_mem hj
  have:=zwz ha
  obtain ⟨f1,f2⟩:=hf _ hc _ ha
  have hixx:=yz6 hj
  generalize hxa:r.cases[k].do_[j]=a at *
  have:=@zyv a
  have:=@y7y a
  have e:y5j R a=(zcl R (z34 a.args)||a.items.any λx=>zcl R (z34 x.args)):=by
   unfold y5j zhm
   rw [List.any_append,ybu f1,List.any_flatMap]
   congr 1
   have hcong:∀l:List yza,(∀x∈l,x∈a.items)->(l.any λx=>x.args.any (zcl R))=l.any λx=>zcl R (z34 x.args):=λl=>by
    induction l with
    |nil=>intro _;rfl
    |cons y l ih=>intro hm;rw [List.any_cons,List.any_cons,ih λz hz=>hm z (List.mem_cons_of_mem _ hz),ybu (f2 y (hm y List.mem_cons_self))]
   exact hcong a.items λ_ h=>h
  rw [zpb,Ev.kz2 (yz6 hk),Ev.yz1 (by simpa using hj),Ev.kz2 (yz6 hk),Ev.kz2 hixx,Ev.yz0 (list _),zz1.yz5,Ev.yz0 (zwb (by rw [zhe];omega) hR),e]
  cases zcl R (z34 a.args) with
  |true=>rw [Ev.yz1 (by rfl),Ev.kz0];rfl
  |false =>
   rw [Ev.kz1 (by rfl),Bool.false_or]
   refine zgm (L:=λn i=>z3o n i R (k:Int) (j:Int) a r) (xs:=a.items) (p:=λx=>zcl R (z34 x.args)) (by rw [zp8,Ev.kz1 (by simp),wrk (by omega)];exact hw') λi hi u hu => ?_
   have:=y42 (List.getElem_mem hi)
   have:=@y8s a.items[i]
   rw [zp8,Ev.yz1 (by simpa using hi),Ev.kz2 (yz6 hi),Ev.yz0 (list _),zz1.yz5,Ev.yz0 (zwb (by rw [zhe];omega) hR),wrk (by omega),Ev.pif,Ev.kz0]
   split
   · rfl
   · exact hu
def rz:kz4:=⟨[],[],[]⟩
def zi1 (p:zz0) (s:List UInt8):kz4:=match p.rules[(atI (zz4 p) s).toNat]? with
 |some r=>r
 |none=>rz
theorem zuj {p:zz0} {s:List UInt8} (h:s∈zz4 p):∃i:Nat,∃hi:i<p.rules.length,atI (zz4 p) s=(i:Int)∧p.rules[i].name=s∧zi1 p s=p.rules[i]:=by
 obtain ⟨i,hi,h1,h2,_⟩:=y3t h
 exact ⟨i,hi,h1,h2,by unfold zi1;rw [h1,Int.toNat_natCast,List.getElem?_eq_getElem hi]⟩
theorem yfh {p:zz0} (hn:(zz4 p).Nodup) {r:kz4} (hr:r∈p.rules):zi1 p r.name=r:=by
 obtain ⟨j,hj,e⟩:=List.mem_iff_getElem.1 hr
 have hj':j<(zz4 p).length:=by simpa [zz4] using hj
 have hx:(zz4 p)[j]=r.name:=by simp [zz4,e]
 obtain ⟨i,hi,h1,h2,h3⟩:=zuj (p:=p) (s:=r.name) (by rw [<-hx];exact List.getElem_mem hj')
 have hi':i<(zz4 p).length:=by simpa [zz4] using hi
 have:i=j:=(List.getElem_inj hn).1 (show (zz4 p)[i]=(zz4 p)[j] by rw [hx,<-h2];simp [zz4])
 subst this
 rw [h3,e]
noncomputable def ye6 (p q:zz0) (K:List (List UInt8)) (s:List UInt8):Bool := !decide (s∈zz4 p)||(!decide (s∈zz4 q)||(!eqB (zi1 p s) (zi1 q s)||zxc K (zi1 p s)))
noncomputable def zpa (p q:zz0) (K:List (List UInt8)) (C:List (List UInt8)) (s:List UInt8):List (List UInt8):=if ye6 p q K s=true then zn0 C s else C
noncomputable def cK (p q:zz0):List (List UInt8):=(zz4 p++zz4 q).foldl (zpa p q (nK p q)) []
structure y19 (p q:zz0) (C:List (List UInt8)):Prop where
 nodup:C.Nodup
 sub:∀x∈C,x∈zz4 p++zz4 q
theorem y19.len {p q:zz0} {C:List (List UInt8)} (h:y19 p q C):C.length<=p.rules.length+q.rules.length:=by
 have:=zf9 h.nodup h.sub
 rw [List.length_append] at this
 simpa [zz4] using this
theorem y19.step {p q:zz0} {K C:List (List UInt8)} (h:y19 p q C) {s:List UInt8} (hs:s∈zz4 p++zz4 q):y19 p q (zpa p q K C s):=by
 unfold zpa
 split
 ·refine ⟨zwv h.nodup,λy hy => ?_⟩
  rcases zxo.1 hy with hy|hy
  ·exact h.sub y hy
  ·rw [hy];exact hs
 ·exact h
theorem yd3 {p q:zz0} {K:List (List UInt8)}:∀(l:List (List UInt8)) {C:List (List UInt8)},y19 p q C->(∀x∈l,x∈zz4 p++zz4 q)->y19 p q (l.foldl (zpa p q K) C)
 |[],_,h,_=>h
 |x::l,C,h,hl=>yd3 l (h.step (hl x List.mem_cons_self)) λy hy=>hl y (List.mem_cons_of_mem _ hy)
theorem z05d (p q:zz0):y19 p q (cK p q):=yd3 _ ⟨by simp,by simp⟩ λ_ h=>h
theorem ymy {p:zz0} {s:List UInt8} (hs:p.size<=4000000):Ev (λn=>zfl n p s) (atI (zz4 p) s):=by
 have:=@zek p
 have h:Ev (λn=>kzo n p.rules s) (atI (zz4 p) s,s):=by
  rw [zik]
  refine yvm (L:=λn k=>kze n k p.rules (p.rules.length:Int) s) (xs:=p.rules) (f:=(·.name)) (by rw [z2a,Ev.kz1 (by simp),Ev.kz0]) λk hk v => ?_
  have hf:Ev (λn=>zem n p.rules[k] s) (p.rules[k].name==s,s):=by rw [yf5,Ev.kz0]
  constructor
  ·intro q
   rw [z2a,Ev.yz1 (by simpa using hk),Ev.kz2 (yz6 hk),Ev.yz0 hf,Ev.yz1 (by simpa using q),Ev.kz0]
  ·intro q hv
   rw [z2a,Ev.yz1 (by simpa using hk),Ev.kz2 (yz6 hk),Ev.yz0 hf,Ev.kz1 (by simpa using q),wrk (by omega)]
   exact hv
 rw [yqp,Ev.yz0 h,Ev.kz0]
theorem z056 {r:kz4}:(zz0.mk [] [r]).size=r.size+3:=by rw [zz0.size_eq];simp;omega
theorem z07u {a b:kz4}:eqB (zz0.mk [] [a]) (zz0.mk [] [b])=eqB a b:=by
 by_cases h:a=b
 ·rw [h,zb1,zb1]
 ·rw [zzp.2 h,zzp.2 (λe=>h (by injection e with _ e;injection e))]
theorem y3r {l:List kz4} {i:Nat} (hi:i<l.length):sub l (i:Int) ((i+1:Nat):Int)=some [l[i]]:=by
 unfold sub
 rw [if_pos (by omega)]
 simp only [Int.toNat_natCast]
 rw [<-zbc hi,List.drop_append_of_le_length (by simp;omega)]
 simp [Nat.min_eq_left (Nat.le_of_lt hi)]
theorem yoq {p q:zz0} (hp:Valid p) (hq:Valid q):∃m,SM m∧mks m=cK p q∧Ev (λn=>zan n p q) (.ok (mks m,mvs m)):=by
 have lp:=@zek p
 have lq:=@zek q
 have sp:=hp.size
 have sq:=hq.size
 obtain ⟨mn,n1,n2,n3⟩:=yg1 hp.wf hq.wf hp.size hq.size hp.an hq.an
 have hmk:=n1.mk'
 rw [n2] at hmk
 have hnames:zz4 p++zz4 q=(p.rules++q.rules).map (·.name):=by simp [zz4]
 have loop:∀k,k<=(p.rules++q.rules).length->∀m,SM m->∃m',SM m'∧mks m'=((zz4 p++zz4 q).drop k).foldl (zpa p q (nK p q)) (mks m)∧Ev (λn=>z50 n (k:Int) (p.rules++q.rules) ((p.rules++q.rules).length:Int) (mks m) (mvs m) (mks mn) (mvs mn) q p) (.ok (mks m',mvs m')) :=
  down (λm hm=>⟨m,hm,by rw [hnames,List.drop_of_length_le (by simp)];rfl,by rw [zpz,Ev.kz1 (by simp),Ev.kz0,kz3]⟩) λk hk ih m hm=>by
   have hx:=List.getElem_mem hk
   have hixx:=yz6 hk
   have hkn:k<(zz4 p++zz4 q).length:=by rw [hnames,List.length_map];exact hk
   have hnk:(zz4 p++zz4 q)[k]=(p.rules++q.rules)[k].name:=by simp only [hnames,List.getElem_map]
   rw [<-List.getElem_cons_drop (h:=hkn),List.foldl_cons,hnk]
   generalize hxe:(p.rules++q.rules)[k]=x at *
   have hkl:k<=4611686018427387904:=by rw [List.length_append] at hk;omega
   have l1:∀b:Bool,b=ye6 p q (nK p q) x.name->∃m',SM m'∧mks m'=((zz4 p++zz4 q).drop (k+1)).foldl (zpa p q (nK p q)) (zpa p q (nK p q) (mks m) x.name)∧Ev (λn=>z1f n (p.rules++q.rules) ((p.rules++q.rules).length:Int) (k:Int) b (mks m) (mvs m) (mks mn) (mvs mn) q p x) (.ok (mks m',mvs m')):=λb hb=>by
    cases b with
    |true =>
     obtain ⟨m',a1,a2,a3⟩:=ih (z95 m x.name true) (hm.put _)
     refine ⟨m',a1,by rw [a2,ybd];unfold zpa;rw [if_pos hb.symm],?_⟩
     rw [zq1,Ev.yz1 (by rfl),zql,wrk hkl,kz3,kz3,kz3,kz3];exact a3
    |false =>
     obtain ⟨m',a1,a2,a3⟩:=ih m hm
     refine ⟨m',a1,by rw [a2];unfold zpa;rw [if_neg (by rw [<-hb];simp)],?_⟩
     rw [zq1,Ev.kz1 (by rfl),zql,wrk hkl,kz3,kz3,kz3,kz3];exact a3
   simp only [zpz (a0:=(k:Int)),Ev.yz1 (show decide ((k:Int)<((p.rules++q.rules).length:Int))=true from decide_eq_true (by omega)),Ev.kz2 hixx,Ev.yz0 (ymy (p:=p) (s:=x.name) (by omega)),Ev.yz0 (ymy (p:=q) (s:=x.name) (by omega)),kz3]
   by_cases z1:x.name∈zz4 p
   case neg =>
    obtain ⟨m',a1,a2,a3⟩:=l1 true (by unfold ye6;rw [decide_eq_false z1];rfl)
    exact ⟨m',a1,a2,by rw [Ev.yz1 (decide_eq_true (z4g.2 z1))];exact a3⟩
   by_cases z2:x.name∈zz4 q
   case neg =>
    obtain ⟨m',a1,a2,a3⟩:=l1 true (by unfold ye6;rw [decide_eq_true z1,decide_eq_false z2];rfl)
    exact ⟨m',a1,a2,by rw [Ev.kz1 (decide_eq_false λw=>z4g.1 w z1),Ev.yz1 (decide_eq_true (z4g.2 z2))];exact a3⟩
   obtain ⟨i,hi,i1,i2,i3⟩:=zuj z1
   obtain ⟨j,hj,j1,j2,j3⟩:=zuj z2
   have szi:=zne (List.getElem_mem hi)
   have hsame:Ev (λn=>zdg n (zz0.mk [] [p.rules[i]]) (zz0.mk [] [q.rules[j]])) (eqB (zi1 p x.name) (zi1 q x.name)):=by
    have:=yyh (a:=zz0.mk [] [p.rules[i]]) (b:=zz0.mk [] [q.rules[j]]) (by rw [z056];omega)
    rw [z07u] at this
    rw [i3,j3];exact this
   cases z3:eqB (zi1 p x.name) (zi1 q x.name) with
   |false =>
    obtain ⟨m',a1,a2,a3⟩:=l1 true (by unfold ye6;rw [decide_eq_true z1,decide_eq_true z2,z3];rfl)
    refine ⟨m',a1,a2,?_⟩
    rw [Ev.kz1 (decide_eq_false λw=>z4g.1 w z1),Ev.kz1 (decide_eq_false λw=>z4g.1 w z2),i1,j1,wrk (by omega),wrk (by omega),Ev.kz2 (y3r hi),Ev.kz2 (y3r hj),Ev.yz0 hsame,z3,Ev.yz1 (by rfl)];exact a3
   |true =>
    have hxr:x=zi1 p x.name:=by
     rcases List.mem_append.1 hx with w|w
     · exact (yfh hp.rn w).symm
     · rw [z9e.1 z3];exact (yfh hq.rn w).symm
    have hxs:x.wf∧x.size<=4000000:=by
     rcases List.mem_append.1 hx with w|w
     · have:=zne w;exact ⟨yth hp.wf w,by omega⟩
     · have:=zne w;exact ⟨yth hq.wf w,by omega⟩
    obtain ⟨m',a1,a2,a3⟩:=l1 (zxc (nK p q) x) (by unfold ye6;rw [decide_eq_true z1,decide_eq_true z2,z3,<-hxr];rfl)
    refine ⟨m',a1,a2,?_⟩
    rw [Ev.kz1 (decide_eq_false λw=>z4g.1 w z1),Ev.kz1 (decide_eq_false λw=>z4g.1 w z2),i1,j1,wrk (by omega),wrk (by omega),Ev.kz2 (y3r hi),Ev.kz2 (y3r hj),Ev.yz0 hsame,z3,Ev.kz1 (by rfl),Ev.yz0 (yrr hmk hxs.1 hxs.2),kz3];exact a3
 obtain ⟨m',a1,a2,a3⟩:=loop 0 (Nat.zero_le _) [] SM.nil
 refine ⟨m',a1,by rw [a2,List.drop_zero];rfl,?_⟩
 rw [y9h,Ev.yz0 n3,Ev.znv,Ev.yz0 (ytt (by omega)),Ev.znv,kz3]
 exact a3
theorem yfz {p:zz0} {s:List UInt8} (hs:p.size<=4000000):Ev (λn=>zdj n p s) (decide (s∈zz4 p),if s∈zz4 p then zi1 p s else rz):=by
 have:=@zek p
 have hal:(zz4 p).length=p.rules.length:=by simp [zz4]
 rw [ym3,Ev.yz0 (zf2 (by omega)),Ev.yz0 (zmx (by omega))]
 by_cases h:s∈zz4 p
 ·obtain ⟨i,hi,h1,h2,h3⟩:=zuj h
  rw [Ev.kz1 (decide_eq_false λq=>z4g.1 q h),h1,Ev.kz2 (yz6 hi),Ev.kz0,decide_eq_true h,if_pos h,h3]
 ·rw [Ev.yz1 (decide_eq_true (z4g.2 h)),Ev.kz0,decide_eq_false h,if_neg h];rfl
theorem EqS.len3 {p q:zz0} {R C:List (List UInt8)} (h:EqS R C) (hg:y19 p q C):R.length<=p.rules.length+q.rules.length:=by
 have:=zf9 (zb3 h.1) λx hx=>hg.sub x ((h.2 x).1 hx)
 rw [List.length_append] at this
 simpa [zz4] using this
theorem ykq {p q:zz0} (hp:Valid p) (hq:Valid q):∃R,EqS R (cK p q)∧Ev (λn=>z8f n p q) R:=by
 have lp:=@zek p
 have lq:=@zek q
 have tp:=@zju p
 have tq:=@zju q
 have sp:=hp.size
 have sq:=hq.size
 have hpl:(zz4 p).length=p.rules.length:=by simp [zz4]
 have hql:(zz4 q).length=q.rules.length:=by simp [zz4]
 obtain ⟨N,n1,n2⟩:=y88 hp.size hq.size
 have hNl:N.length<=8388608:=by have:=n1.len (zt7 p q (NN p q+1));unfold NN at this;omega
 have loop:∀k,k<=(zz4 p++zz4 q).length->∀R C,EqS R C->y19 p q C->∃r,EqS r (((zz4 p++zz4 q).drop k).foldl (zpa p q (nK p q)) C)∧Ev (λn=>z3i n (k:Int) R N (zz4 p++zz4 q) q p) r :=
  down (λR C hR hg=>⟨R,by rw [List.drop_length];exact hR,by rw [zp6,Ev.kz1 (by simp),Ev.kz0]⟩) λk hk ih R C hR hg=>by
   have hx:=List.getElem_mem hk
   have hixx:=yz6 hk
   have hRl:=hR.len3 hg
   have hkl:k<=4611686018427387904:=by rw [List.length_append] at hk;omega
   rw [<-List.getElem_cons_drop (h:=hk),List.foldl_cons]
   generalize hxe:(zz4 p++zz4 q)[k]=x at *
   have l1:∀b:Bool,b=ye6 p q (nK p q) x->∃r,EqS r (((zz4 p++zz4 q).drop (k+1)).foldl (zpa p q (nK p q)) (zpa p q (nK p q) C x))∧Ev (λn=>z10 n N (k:Int) R b (zz4 p++zz4 q) q p) r:=λb hb=>by
    cases b with
    |true =>
     obtain ⟨r,h1,h2⟩:=ih (ins R x) (zpa p q (nK p q) C x) (by unfold zpa;rw [if_pos hb.symm];exact hR.put _) (hg.step hx)
     exact ⟨r,h1,by rw [zp9,Ev.yz1 (by rfl),Ev.kz2 hixx,Ev.yz0 (y78 (by omega)),zp7,wrk hkl];exact h2⟩
    |false =>
     obtain ⟨r,h1,h2⟩:=ih R (zpa p q (nK p q) C x) (by unfold zpa;rw [if_neg (by rw [<-hb];simp)];exact hR) (hg.step hx)
     exact ⟨r,h1,by rw [zp9,Ev.kz1 (by rfl),zp7,wrk hkl];exact h2⟩
   simp only [zp6 (a0:=(k:Int)),Ev.yz1 (show decide ((k:Int)<((zz4 p++zz4 q).length:Int))=true from decide_eq_true (by omega)),Ev.kz2 hixx,Ev.yz0 (yfz (p:=p) (s:=x) (by omega)),Ev.yz0 (yfz (p:=q) (s:=x) (by omega))]
   by_cases z1:x∈zz4 p
   case neg =>
    obtain ⟨r,h1,h2⟩:=l1 true (by unfold ye6;rw [decide_eq_false z1];rfl)
    exact ⟨r,h1,by rw [decide_eq_false z1,Ev.yz1 (by rfl)];exact h2⟩
   by_cases z2:x∈zz4 q
   case neg =>
    obtain ⟨r,h1,h2⟩:=l1 true (by unfold ye6;rw [decide_eq_false z2,decide_eq_true z1];rfl)
    exact ⟨r,h1,by rw [decide_eq_true z1,Ev.kz1 (by rfl),decide_eq_false z2,Ev.yz1 (by rfl)];exact h2⟩
   obtain ⟨i,hi,i1,i2,i3⟩:=zuj z1
   have hmi:=List.getElem_mem hi
   have szi:=zne hmi
   have hsr:(zi1 p x).size<=4000000:=by rw [i3];omega
   cases z3:eqB (zi1 p x) (zi1 q x) with
   |false =>
    obtain ⟨r,h1,h2⟩:=l1 true (by unfold ye6;rw [decide_eq_true z1,decide_eq_true z2,z3];rfl)
    refine ⟨r,h1,?_⟩
    rw [decide_eq_true z1,Ev.kz1 (by rfl),decide_eq_true z2,Ev.kz1 (by rfl),if_pos z1,if_pos z2,Ev.yz0 (y80 (by omega)),z3,Ev.yz1 (by rfl)];exact h2
   |true =>
    obtain ⟨r,h1,h2⟩:=l1 (zxc N (zi1 p x)) (by unfold ye6;rw [decide_eq_true z1,decide_eq_true z2,z3,z02g n1.2];rfl)
    refine ⟨r,h1,?_⟩
    have hf:∀c∈(zi1 p x).cases,∀a∈c.do_,z3n (z34 a.args)=0∧∀y∈a.items,z3n (z34 y.args)=0:=by
     rw [i3];exact λc hc a ha=>yy5 hp.form hmi hc ha
    rw [decide_eq_true z1,Ev.kz1 (by rfl),decide_eq_true z2,Ev.kz1 (by rfl),if_pos z1,if_pos z2,Ev.yz0 (y80 (by omega)),z3,Ev.kz1 (by rfl),Ev.yz0 (ymd hf hsr hNl)];exact h2
 obtain ⟨r,h1,h2⟩:=loop 0 (Nat.zero_le _) [] [] EqS.nil ⟨by simp,by simp⟩
 refine ⟨r,by rw [List.drop_zero] at h1;exact h1,?_⟩
 have hx0:ext ([]:List (List UInt8)) (zz4 p)=some (zz4 p):=by rw [z1k (by simp;omega)];rfl
 rw [y7o,Ev.yz0 n2,Ev.yz0 (zf2 (by omega)),Ev.kz2 hx0,Ev.yz0 (zf2 (by omega)),Ev.kz2 (z1k (by omega))]
 exact h2
end Go.Proofs.YtahcjggdcmgpkaaGreat
namespace Go.Proofs.YtahcjggdcmgpkaaGreat
open Go Go.Ab
set_option linter.unusedVariables false
set_option linter.unusedSimpArgs false
noncomputable def both (p q:zz0):Int:=if z5j p≠0 then z5j p else z5j q
theorem z01z {p q:zz0} (hp:p.wf) (hq:q.wf) (sp:p.size<=1048576) (sq:q.size<=1048576):Ev (λn=>zcm n p q) (both p q):=by
 rw [yse,Ev.yz0 (zxd hp (by omega)),both]
 by_cases h:z5j p=0
 ·rw [Ev.kz1 (by simpa using h),if_neg (by simp [h]),Ev.yz0 (zxd hq (by omega)),Ev.kz0]
 ·rw [Ev.yz1 (by simpa using h),if_pos h,Ev.kz0]
theorem yxw {p q:zz0} (hp:p.wf) (hq:q.wf) (sp:p.size<=1048576) (sq:q.size<=1048576):Ev (λn=>z4b n p q) (both p q):=by
 rw [yix,Ev.yz0 (zo8 hp (by omega)),both]
 by_cases h:z5j p=0
 ·rw [Ev.kz1 (by simpa using h),if_neg (by simp [h]),Ev.yz0 (zo8 hq (by omega)),Ev.kz0]
 ·rw [Ev.yz1 (by simpa using h),if_pos h,Ev.yz0 (zo8 hp (by omega)),Ev.kz0]
theorem z06a {p q:zz0} (h:both p q=0):z5j p=0∧z5j q=0:=by
 unfold both at h
 split at h
 ·rename_i z;exact (z h).elim
 ·rename_i z;exact ⟨by simpa using z,h⟩
theorem ydp {p:zz0} (hs:p.size<=1048576):∀s∈kz8 p,s.length<=8388608:=λs h=>by
 obtain ⟨t,ht,rfl⟩:=List.mem_map.1 h
 have:=zx0 ht;have:=@zx6 t;omega
theorem y2v {p:zz0} (hs:p.size<=1048576):∀s∈zz4 p,s.length<=8388608:=λs h=>by
 obtain ⟨t,ht,rfl⟩:=List.mem_map.1 h
 have:=zne ht;have:=@z04n t;omega
noncomputable def rl (q:zz0) (s:List UInt8):List (List UInt8):=@dite _ (∃r,Set q s r) (Classical.propDecidable _) (λh=>h.choose.1) λ_=>[]
theorem yfx {q:zz0} (hq:Valid q) {s:List UInt8} (hs:s∈zz4 q):Ev (λn=>zby n q s) (rl q s,0):=by
 obtain ⟨r,h1,h2⟩:=y81 (root:=s) hq.wf (by have:=hq.size;omega)
 rw [if_neg (by simp [hq.ok]),if_pos hs] at h2
 refine h1.to ?_
 have hex:∃r,Set q s r:=⟨r,h2⟩
 have e:rl q s=hex.choose.1:=by unfold rl;rw [dif_pos hex]
 rw [e,z019 h2 hex.choose_spec]
 have:=hex.choose_spec.1
 exact Prod.ext rfl this
theorem z028 {q:zz0} (hq:Valid q) {s:List UInt8} (hs:s∈zz4 q):Ev (λn=>zbp n q s) (rl q s,0):=by
 obtain ⟨r,h1,h2⟩:=yvb (root:=s) hq.wf (by have:=hq.size;omega)
 rw [if_neg (by simp [hq.ok]),if_pos hs] at h2
 refine h1.to ?_
 have hex:∃r,Set q s r:=⟨r,h2⟩
 have e:rl q s=hex.choose.1:=by unfold rl;rw [dif_pos hex]
 rw [e,z019 h2 hex.choose_spec]
 exact Prod.ext rfl hex.choose_spec.1
theorem z04r {q:zz0} (hq:Valid q) {s:List UInt8} (hs:s∈zz4 q):(rl q s).length<=8000000:=by
 obtain ⟨r,h1,h2⟩:=y81 (root:=s) hq.wf (by have:=hq.size;omega)
 have e:=(yfx hq hs).det h1
 have:=z038 (by have:=hq.size;omega) h2
 rw [<-e] at this;exact this
theorem z02c {C:List (List UInt8)} {x:List UInt8}:zn0 (zn0 C x) x=zn0 C x:=by
 have h:x∈zn0 C x:=zxo.2 (.inr rfl)
 generalize zn0 C x=D at h ⊢
 unfold zn0;rw [if_pos h]
noncomputable def y8d (q:zz0) (K:List (List UInt8)) (C:List (List UInt8)) (s:List UInt8):List (List UInt8):=if ((rl q s).any λx=>decide (x∈K))=true then zn0 C s else C
noncomputable def aK (p q:zz0):List (List UInt8):=(zz4 q).foldl (y8d q (cK p q)) []
structure zsq (q:zz0) (C:List (List UInt8)):Prop where
 nodup:C.Nodup
 sub:∀x∈C,x∈zz4 q
theorem zsq.add {q:zz0} {C:List (List UInt8)} (h:zsq q C) {s:List UInt8} (hs:s∈zz4 q):zsq q (zn0 C s):=by
 refine ⟨zwv h.nodup,λy hy => ?_⟩
 rcases zxo.1 hy with hy|hy
 ·exact h.sub y hy
 ·rw [hy];exact hs
theorem zsq.step {q:zz0} {K C:List (List UInt8)} (h:zsq q C) {s:List UInt8} (hs:s∈zz4 q):zsq q (y8d q K C s):=by
 unfold y8d
 split
 ·exact h.add hs
 ·exact h
theorem ygr {q:zz0} {K:List (List UInt8)}:∀(l:List (List UInt8)) {C:List (List UInt8)},zsq q C->(∀x∈l,x∈zz4 q)->zsq q (l.foldl (y8d q K) C)
 |[],_,h,_=>h
 |x::l,C,h,hl=>ygr l (h.step (hl x List.mem_cons_self)) λy hy=>hl y (List.mem_cons_of_mem _ hy)
theorem z042 (p q:zz0):zsq q (aK p q):=ygr _ ⟨by simp,by simp⟩ λ_ h=>h
theorem zsq.len {q:zz0} {C:List (List UInt8)} (h:zsq q C):C.length<=q.rules.length:=by
 have:=zf9 h.nodup h.sub
 simpa [zz4] using this
theorem EqS.len4 {q:zz0} {R C:List (List UInt8)} (h:EqS R C) (hg:zsq q C):R.length<=q.rules.length:=by
 have:=zf9 (zb3 h.1) λx hx=>hg.sub x ((h.2 x).1 hx)
 simpa [zz4] using this
theorem ysu {l:List (List UInt8)} {m:List (List UInt8×Bool)} {K:List (List UInt8)} (hm:MK m K) (hl:l.length<=8388608):Ev (λn=>kzp n l (mks m) (mvs m)) (l.any (λx=>decide (x∈K)),mks m,mvs m):=by
 obtain ⟨i,h1,h2⟩:=zqx (L:=λn k=>zzi n k l (l.length:Int) (mks m) (mvs m)) (l:=l) (p:=λs=>decide (s∈K)) (st:=(mks m,mvs m))
  (by rw [z3m,Ev.kz1 (by simp),Ev.kz0,kz3]) λk hk v=>by
   have hf:Ev (λn=>z7u n l[k] (mks m) (mvs m)) (decide (l[k]∈K),mks m,mvs m):=by
    rw [y1v,Ev.kz0,kz3,hm]
   constructor
   ·intro hp
    rw [z3m,Ev.yz1 (by simpa using hk),Ev.kz2 (yz6 hk),kz3,Ev.yz0 hf,Ev.yz1 hp,Ev.kz0,kz3]
   ·intro hp hv
    rw [z3m,Ev.yz1 (by simpa using hk),Ev.kz2 (yz6 hk),kz3,Ev.yz0 hf,Ev.kz1 hp,kz3,wrk (by omega)];exact hv
 rw [zj5,kz3,Ev.yz0 (by rw [zlm,kz3];exact h1),Ev.kz0,h2,kz3]
theorem yi1 {p q:zz0} (hq:Valid q) {m:List (List UInt8×Bool)} (hm:MK m (cK p q)):Ev (λn=>z1w n 0 q.rules (q.rules.length:Int) [] [] q (mks m) (mvs m)) (.ok (z01 (aK p q),0)):=by
 have lq:=@zek q
 have sq:=hq.size
 have hql:(zz4 q).length=q.rules.length:=by simp [zz4]
 have loop:∀k,k<=q.rules.length->∀mo,SM mo->((zz4 q).drop k).foldl (y8d q (cK p q)) (mks mo)=aK p q->Ev (λn=>z1w n (k:Int) q.rules (q.rules.length:Int) (mks mo) (mvs mo) q (mks m) (mvs m)) (.ok (z01 (aK p q),0)) :=
  down (λmo ho hf=>by
   rw [<-hql,List.drop_length] at hf
   have hf:mks mo=aK p q:=hf
   have hg:=z042 p q
   rw [zp2,Ev.kz1 (by simp),kz3,Ev.yz0 (y63 ho (by rw [hf];have:=hg.len;omega) (by rw [hf];exact λs hs=>y2v sq s (hg.sub s hs))),Ev.kz0,hf]) λk hk ih mo ho hf=>by
   have hkn:k<(zz4 q).length:=by omega
   have hnk:(zz4 q)[k]=q.rules[k].name:=by simp [zz4]
   have hin:q.rules[k].name∈zz4 q:=by rw [<-hnk];exact List.getElem_mem hkn
   rw [<-List.getElem_cons_drop (h:=hkn),List.foldl_cons,hnk] at hf
   rw [zp2,Ev.yz1 (by simpa using hk),Ev.kz2 (yz6 hk),Ev.yz0 (yfx hq hin),kz3,kz3,Ev.yz0 (ysu (l:=rl q q.rules[k].name) hm (by have:=z04r hq hin;omega)),kz3]
   unfold y8d at hf
   cases hb:(rl q q.rules[k].name).any λx=>decide (x∈cK p q) with
   |true =>
    rw [hb,if_pos rfl] at hf
    rw [Ev.yz1 (by rfl),zp4,kz3,kz3,wrk (by omega)]
    exact ih _ (ho.put _) (by rw [ybd];exact hf)
   |false =>
    rw [hb,if_neg (by simp)] at hf
    rw [Ev.kz1 (by rfl),zp4,kz3,kz3,wrk (by omega)]
    exact ih _ ho hf
 exact loop 0 (Nat.zero_le _) [] SM.nil (by rw [List.drop_zero];rfl)
theorem ys9 {p q:zz0} (hp:Valid p) (hq:Valid q) {N:List (List UInt8)} (hN:EqS N (cK p q)):∃R,EqS R (aK p q)∧Ev (λn=>z1d n 0 (zz4 q) [] N q) (R,0):=by
 have lp:=@zek p
 have lq:=@zek q
 have sp:=hp.size
 have sq:=hq.size
 have hql:(zz4 q).length=q.rules.length:=by simp [zz4]
 have hNl:N.length<=8388608:=by have:=hN.len3 (z05d p q);omega
 have loop:∀k,k<=(zz4 q).length->∀R C,EqS R C->zsq q C->((zz4 q).drop k).foldl (y8d q (cK p q)) C=aK p q->∃r,EqS r (aK p q)∧Ev (λn=>z1d n (k:Int) (zz4 q) R N q) (r,0) :=
  down (λR C hR hg hf=>by
   rw [List.drop_length] at hf
   have hf:C=aK p q:=hf
   exact ⟨R,by rw [<-hf];exact hR,by rw [zo5,Ev.kz1 (by simp),Ev.kz0]⟩) λk hk ih R C hR hg hf=>by
   have hx:=List.getElem_mem hk
   have hixx:=yz6 hk
   rw [<-List.getElem_cons_drop (h:=hk),List.foldl_cons] at hf
   generalize hxe:(zz4 q)[k]=x at *
   have hrl:=z04r hq hx
   have inner:∀j,j<=(rl q x).length->∀R C,EqS R C->zsq q C->((zz4 q).drop (k+1)).foldl (y8d q (cK p q)) (if (((rl q x).drop j).any λy=>decide (y∈cK p q))=true then zn0 C x else C)=aK p q->∃r,EqS r (aK p q)∧Ev (λn=>z2v n (j:Int) (k:Int) (zz4 q) R (rl q x) N q) (r,0) :=
    down (λR C hR hg hf=>by
     rw [List.drop_length] at hf
     simp only [List.any_nil,Bool.false_eq_true,if_false] at hf
     obtain ⟨r,h1,h2⟩:=ih R C hR hg hf
     exact ⟨r,h1,by rw [zod,Ev.kz1 (by simp),wrk (by omega)];exact h2⟩) λj hj ihj R C hR hg hf=>by
     have hRl:=hR.len4 hg
     rw [<-List.getElem_cons_drop (h:=hj),List.any_cons] at hf
     have hge:decide (atI N (rl q x)[j]>=0)=decide ((rl q x)[j]∈cK p q):=decide_eq_decide.2 (by
      have:=z4g (l:=N) (s:=(rl q x)[j])
      rw [hN.2] at this
      constructor
      ·intro h;exact Classical.byContradiction λz=>by have:=this.2 z;omega
      ·intro h;exact Classical.byContradiction λz=>this.1 (by omega) h)
     simp only [zod (a0:=(j:Int)),Ev.yz1 (show decide ((j:Int)<((rl q x).length:Int))=true by simpa using hj),Ev.kz2 (yz6 hj),Ev.yz0 (zmx (l:=N) (s:=(rl q x)[j]) hNl)]
     cases hb:decide ((rl q x)[j]∈cK p q) with
     |true =>
      rw [hb] at hge
      obtain ⟨r,h1,h2⟩:=ihj (ins R x) (zn0 C x) (hR.put _) (hg.add hx) (by
       rw [hb,Bool.true_or,if_pos rfl] at hf
       rw [z02c,ite_self];exact hf)
      exact ⟨r,h1,by rw [hge,Ev.yz1 rfl,Ev.kz2 hixx,Ev.yz0 (y78 (by omega)),zob,wrk (by omega)];exact h2⟩
     |false =>
      rw [hb] at hge
      obtain ⟨r,h1,h2⟩:=ihj R C hR hg (by rw [hb,Bool.false_or] at hf;exact hf)
      exact ⟨r,h1,by rw [hge,Ev.kz1 rfl,zob,wrk (by omega)];exact h2⟩
   obtain ⟨r,h1,h2⟩:=inner 0 (Nat.zero_le _) R C hR hg (by rw [List.drop_zero];exact hf)
   exact ⟨r,h1,by rw [zo5,Ev.yz1 (by simpa using hk),Ev.kz2 hixx,Ev.yz0 (z028 hq hx)];exact h2⟩
 exact loop 0 (Nat.zero_le _) [] [] EqS.nil ⟨by simp,by simp⟩ (by rw [List.drop_zero];rfl)
theorem zwu {a:List (List UInt8)} (hl:a.length<=8000000):Ev (λn=>z90 n a a) true:=by
 rw [yh7,Ev.kz1 (z00j rfl)]
 have:=y20 (L:=λn k=>z88 n k a a) (xs:=a) (ys:=a) (fail:=false) (r:=true) rfl (by rw [zuk,Ev.kz1 (by simp),Ev.kz0]) λk hk _ v hv=>by
  rw [zb1,if_pos rfl,zuk,Ev.yz1 (by simpa using hk),Ev.kz2 (yz6 hk),Ev.kz2 (yz6 hk),Ev.kz1 (by simp),wrk (by omega)];exact hv
 rw [zb1] at this;exact this
theorem yit (p q:zz0) (hp:p.wf) (hq:q.wf) (hs:p.size+q.size<=1048576):∃n,z00 n p q=some (Res.ok true):=by
 have sp:p.size<=1048576:=by omega
 have sq:q.size<=1048576:=by omega
 have lp:=@zek p
 have lq:=@zek q
 have tp:=@zju p
 have tq:=@zju q
 have eb:=z01z hp hq sp sq
 have rb:=yxw hp hq sp sq
 have l0:∀b,Ev (λn=>zzs n b q p) (.ok true):=λb=>by
  cases b
  case true=>rw [ze5,Ev.yz1 (by rfl),Ev.kz0]
  rw [ze5,Ev.kz1 (by rfl)]
  by_cases hz:both p q=0
  case neg =>
   have h1:Ev (λn=>zdi n p q) (.ok ([],both p q)):=by rw [y1f,Ev.yz0 eb,Ev.yz1 (by simpa using hz),Ev.kz0]
   have h2:Ev (λn=>zbx n p q) ([],both p q):=by rw [zy1,Ev.yz0 rb,Ev.yz1 (by simpa using hz),Ev.yz0 rb,Ev.kz0]
   have h3:Ev (λn=>zap n p q) (.ok ([],both p q)):=by rw [zx1,Ev.yz0 eb,Ev.yz1 (by simpa using hz),Ev.kz0]
   have h4:Ev (λn=>z8q n p q) ([],both p q):=by rw [zvl,Ev.yz0 rb,Ev.yz1 (by simpa using hz),Ev.yz0 rb,Ev.kz0]
   have h5:Ev (λn=>z8u n p q) (.ok ([],both p q)):=by rw [zud,Ev.yz0 eb,Ev.yz1 (by simpa using hz),Ev.kz0]
   have h6:Ev (λn=>z6f n p q) ([],both p q):=by rw [zsv,Ev.yz0 rb,Ev.yz1 (by simpa using hz),Ev.yz0 rb,Ev.kz0]
   have hn:Ev (λn=>z90 n [] []) true:=zwu (by simp)
   rw [Ev.yz0 h1,Ev.znv,Ev.yz0 h2,Ev.yz0 h3,Ev.znv,Ev.yz0 h4,Ev.yz0 h5,Ev.znv,Ev.yz0 h6,Ev.yz0 hn,Ev.yz1 rfl,Ev.yz1 (by simp),Ev.yz0 hn,Ev.yz1 rfl,Ev.yz1 (by simp),Ev.yz0 hn,Ev.yz1 rfl,Ev.kz0]
   simp
  obtain ⟨vp,vq⟩:=z06a hz
  have Vp:Valid p:=⟨hp,sp,vp⟩
  have Vq:Valid q:=⟨hq,sq,vq⟩
  obtain ⟨m,m1,m2,m3⟩:=yg1 hp hq sp sq Vp.an Vq.an
  obtain ⟨N,n1,n2⟩:=y88 sp sq
  obtain ⟨mc,c1,c2,c3⟩:=yoq Vp Vq
  obtain ⟨C,d1,d2⟩:=ykq Vp Vq
  obtain ⟨A,a1,a2⟩:=ys9 Vp Vq d1
  have gN:=zt7 p q (NN p q+1)
  have gC:=z05d p q
  have gA:=z042 p q
  have lN:(nK p q).length<=NN p q:=gN.len
  have lC:=gC.len
  have lA:=gA.len
  have NNe:NN p q=p.attrs.length+q.attrs.length:=rfl
  have s1:Ev (λn=>zbr n (mks m) (mvs m)) (z01 (mks m),mks m,mvs m):=y63 m1 (by rw [m2];omega) (by
   rw [m2];intro s hs
   rcases List.mem_append.1 (gN.sub s hs) with h|h
   ·exact ydp sp s h
   ·exact ydp sq s h)
  have s2:Ev (λn=>zbr n (mks mc) (mvs mc)) (z01 (mks mc),mks mc,mvs mc):=y63 c1 (by rw [c2];omega) (by
   rw [c2];intro s hs
   rcases List.mem_append.1 (gC.sub s hs) with h|h
   ·exact y2v sp s h
   ·exact y2v sq s h)
  have e1:z01 (mks m)=N:=by rw [m2];exact n1.sort gN.nodup
  have e2:z01 (mks mc)=C:=by rw [c2];exact d1.sort gC.nodup
  have e3:z01 (aK p q)=A:=a1.sort gA.nodup
  have hmk:MK mc (cK p q):=by rw [<-c2];exact c1.mk'
  have h1:Ev (λn=>zdi n p q) (.ok (N,0)):=by rw [y1f,Ev.yz0 eb,Ev.kz1 (by simpa using hz),Ev.yz0 m3,Ev.znv,kz3,Ev.yz0 s1,Ev.kz0,e1]
  have h2:Ev (λn=>zbx n p q) (N,0):=by rw [zy1,Ev.yz0 rb,Ev.kz1 (by simpa using hz),Ev.yz0 n2,Ev.kz0]
  have h3:Ev (λn=>zap n p q) (.ok (C,0)):=by rw [zx1,Ev.yz0 eb,Ev.kz1 (by simpa using hz),Ev.yz0 c3,Ev.znv,kz3,Ev.yz0 s2,Ev.kz0,e2]
  have h4:Ev (λn=>z8q n p q) (C,0):=by rw [zvl,Ev.yz0 rb,Ev.kz1 (by simpa using hz),Ev.yz0 d2,Ev.kz0]
  have h5:Ev (λn=>z8u n p q) (.ok (A,0)):=by
   rw [zud,Ev.yz0 eb,Ev.kz1 (by simpa using hz),Ev.yz0 c3,Ev.znv,kz3,<-e3]
   exact yi1 Vq hmk
  have h6:Ev (λn=>z6f n p q) (A,0):=by rw [zsv,Ev.yz0 rb,Ev.kz1 (by simpa using hz),Ev.yz0 d2,Ev.yz0 (zf2 (by omega))];exact a2
  have lenN:N.length<=8000000:=by have:=n1.len gN;omega
  have lenC:C.length<=8000000:=by have:=d1.len3 gC;omega
  have lenA:A.length<=8000000:=by have:=a1.len4 gA;omega
  rw [Ev.yz0 h1,Ev.znv,Ev.yz0 h2,Ev.yz0 h3,Ev.znv,Ev.yz0 h4,Ev.yz0 h5,Ev.znv,Ev.yz0 h6,Ev.yz0 (zwu lenN),Ev.yz1 rfl,Ev.yz1 (by simp),Ev.yz0 (zwu lenC),Ev.yz1 rfl,Ev.yz1 (by simp),Ev.yz0 (zwu lenA),Ev.yz1 rfl,Ev.kz0]
  simp
 obtain ⟨g1,hg1⟩:=z07e (p:=p) (by omega)
 obtain ⟨g2,hg2⟩:=z07e (p:=q) (by omega)
 refine Ev.get ?_
 rw [zpl,Ev.yz0 hg1]
 cases g1
 ·rw [Ev.kz1 (by rfl),Ev.yz0 hg2];exact l0 _
 ·rw [Ev.yz1 (by rfl)];exact l0 _
end Go.Proofs.YtahcjggdcmgpkaaGreat
