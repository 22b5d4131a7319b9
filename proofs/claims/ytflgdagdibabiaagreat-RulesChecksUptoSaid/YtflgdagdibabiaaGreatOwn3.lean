/-
  EXPRESSIONS: PARTS, DEPTH, WHAT IS VALID.
-/
import Derived.Test.YtflgdagdibabiaaGreatOwn2
import Derived.Test.YtflgdagdibabiaaGreatLib7
import Derived.Test.YtflgdagdibabiaaGreatLib6
namespace Go.Proofs.YtflgdagdibabiaaGreat
open Go Go.Ab
set_option linter.unusedVariables false
set_option linter.unusedSimpArgs false
theorem zsr {P : zz1 → Prop} (h : ∀ e : zz1, (∀ x, x ∈ e.args → P x) → P e) (e : zz1) : P e := h e fun x hx => zsr h x
termination_by e
decreasing_by exact zz1.zwp hx
mutual
def z94 : zz1 → Nat
 | ⟨_, _, _, l⟩ => 1 + yzt l
def yzt : List zz1 → Nat
 | [] => 0
 | x :: l => z94 x + yzt l
end
mutual
def zf5 : zz1 → Nat
 | ⟨_, _, _, l⟩ => max 1 (zjj l)
def zjj : List zz1 → Nat
 | [] => 0
 | x :: l => max (1 + zf5 x) (zjj l)
end
theorem zcb (e : zz1) : z94 e = 1 + yzt e.args := by cases e; rw [z94]
theorem y3o (e : zz1) : zf5 e = max 1 (zjj e.args) := by cases e; rw [zf5]
theorem zse {l : List zz1} {x : zz1} (h : x ∈ l) : x.size ≤ (l.map zz1.size).sum := by
 induction l with
 | nil => cases h
 | cons y l ih =>
   rcases List.mem_cons.1 h with rfl | h
   · simp
   · have := ih h; simp; omega
theorem z99 (e : zz1) : (e.args.map zz1.size).sum + e.name.length + e.value.size + 4 ≤ e.size := by rw [zz1.size_eq]; omega
theorem zj6 {e x : zz1} (h : x ∈ e.args) : x.size ≤ e.size := by have := zse h; have := z99 e; omega
theorem z9m (l : List zz1) : l.length ≤ (l.map zz1.size).sum := by
 induction l with
 | nil => simp
 | cons x l ih => have := z99 x; simp; omega
theorem zod : ∀ e : zz1, z94 e ≤ e.size := zsr fun e ih => by
 have : ∀ l : List zz1, (∀ x, x ∈ l → x ∈ e.args) → yzt l ≤ (l.map zz1.size).sum := fun l => by
  induction l with
  | nil => intro _; simp [yzt]
  | cons x l ihl =>
    intro hl
    have := ih x (hl x List.mem_cons_self)
    have := ihl fun y hy => hl y (List.mem_cons_of_mem _ hy)
    simp [yzt]; omega
 have := this e.args fun _ h => h
 have := z99 e
 rw [zcb]; omega
theorem yl4 : ∀ e : zz1, zf5 e ≤ z94 e := zsr fun e ih => by
 have : ∀ l : List zz1, (∀ x, x ∈ l → x ∈ e.args) → zjj l ≤ 1 + yzt l := fun l => by
  induction l with
  | nil => intro _; simp [yzt, zjj]
  | cons x l ihl =>
    intro hl
    have := ih x (hl x List.mem_cons_self)
    have := ihl fun y hy => hl y (List.mem_cons_of_mem _ hy)
    simp [yzt, zjj]; omega
 have := this e.args fun _ h => h
 rw [zcb, y3o]; omega
theorem y7r (l : List zz1) : yzt l ≤ (l.map zz1.size).sum := by
 induction l with
 | nil => simp [yzt]
 | cons x l ih => have := zod x; simp [yzt]; omega
theorem yii : ∀ e : zz1, e.size ≤ 8388608 → Ev (fun n => z7q n e) ((z94 e : Int), (zf5 e : Int)) := zsr fun e ih hs => by
 have hsl := z99 e
 have hlen := z9m e.args
 have loop : ∀ k, k ≤ e.args.length → ∀ d p : Nat, p + yzt (e.args.drop k) ≤ 8388609 → d ≤ 8388609 → Ev (fun n => z33 n (k : Int) (d : Int) (p : Int) e.args (e.args.length : Int)) (((p + yzt (e.args.drop k) : Nat) : Int), ((max d (zjj (e.args.drop k)) : Nat) : Int)) :=
  down (fun d p hp hd => by
   rw [zlj, Ev.zz2 (by simp), Ev.zz0]
   simp [yzt, zjj]) fun k hk ihk d p hp hd => by
   have hx := List.getElem_mem hk
   have hsx := zj6 hx
   rw [← List.getElem_cons_drop (h := hk)] at hp ⊢
   simp only [yzt, zjj] at hp ⊢
   have hpl := zod e.args[k]
   have hdl := yl4 e.args[k]
   rw [zlj, Ev.kz1 (by simpa using hk), Ev.kz2 (kz5 hk), zz1.yz4, Ev.kz0 (ih _ hx (by omega)), wI (x := _ + 1) (by omega), wI (x := (zf5 _ : Int) + 1) (by omega), wI (x := (p : Int) + _) (by omega)]
   have e1 : (k : Int) + 1 = ((k + 1 : Nat) : Int) := by omega
   have e2 : (zf5 e.args[k] : Int) + 1 = ((1 + zf5 e.args[k] : Nat) : Int) := by omega
   have e3 : (p : Int) + (z94 e.args[k] : Int) = ((p + z94 e.args[k] : Nat) : Int) := by omega
   rw [e1, e2, e3, y2t]
   refine (ihk (max d (1 + zf5 e.args[k])) (p + z94 e.args[k]) (by omega) (by omega)).to ?_
   congr 2 <;> omega
 rw [y21]
 have hv := y7r e.args
 have := loop 0 (Nat.zero_le _) 1 1 (by simp; omega) (by omega)
 refine this.to ?_
 rw [zcb, y3o, List.drop_zero]
theorem y0d : ∀ e : zz1, e.size ≤ 8388608 → Ev (fun n => z6u n e) (z94 e : Int) := zsr fun e ih hs => by
 have hsl := z99 e
 have hlen := z9m e.args
 rw [y51, zz1.yz4, zcb]
 have loop : ∀ k, k ≤ e.args.length → ∀ p : Nat, p + yzt (e.args.drop k) ≤ 8388609 → Ev (fun n => z3x n (k : Int) (p : Int) e) ((p + yzt (e.args.drop k) : Nat) : Int) :=
  down (fun p hp => by
   rw [zn7, Ev.zz2 (by simp), Ev.zz0]
   simp [yzt]) fun k hk ihk p hp => by
   have hx := List.getElem_mem hk
   have hsx := zj6 hx
   rw [← List.getElem_cons_drop (h := hk)] at hp ⊢
   simp only [yzt] at hp ⊢
   have hpl := zod e.args[k]
   rw [zn7, Ev.kz1 (by simpa using hk), Ev.kz2 (kz5 hk), zz1.yz4, Ev.kz0 (ih _ hx (by omega)), wI (x := _ + 1) (by omega), wI (x := (p : Int) + _) (by omega)]
   have e1 : (k : Int) + 1 = ((k + 1 : Nat) : Int) := by omega
   have e3 : (p : Int) + (z94 e.args[k] : Int) = ((p + z94 e.args[k] : Nat) : Int) := by omega
   rw [e1, e3, zz1.yz4]
   refine (ihk (p + z94 e.args[k]) (by omega)).to ?_
   congr 1; omega
 have hv := y7r e.args
 exact loop 0 (Nat.zero_le _) 1 (by simp; omega)
theorem ymq : ∀ e : zz1, e.size ≤ 8388608 → Ev (fun n => za2 n e) (zf5 e : Int) := zsr fun e ih hs => by
 have hsl := z99 e
 have hlen := z9m e.args
 rw [ya1, zz1.yz4, y3o]
 have loop : ∀ k, k ≤ e.args.length → ∀ p : Nat, p ≤ 8388609 → Ev (fun n => z68 n (k : Int) (p : Int) e) ((max p (zjj (e.args.drop k)) : Nat) : Int) :=
  down (fun p hp => by
   rw [zoa, Ev.zz2 (by simp), Ev.zz0]
   simp [zjj]) fun k hk ihk p hp => by
   have hx := List.getElem_mem hk
   have hsx := zj6 hx
   rw [← List.getElem_cons_drop (h := hk)]
   simp only [zjj]
   have hpl := zod e.args[k]
   have hdl := yl4 e.args[k]
   rw [zoa, Ev.kz1 (by simpa using hk), Ev.kz2 (kz5 hk), zz1.yz4, Ev.kz0 (ih _ hx (by omega)), wI (x := _ + 1) (by omega), wI (x := 1 + _) (by omega)]
   have e1 : (k : Int) + 1 = ((k + 1 : Nat) : Int) := by omega
   have e3 : 1 + (zf5 e.args[k] : Int) = ((1 + zf5 e.args[k] : Nat) : Int) := by omega
   rw [e1, e3, zz1.yz4, y2t]
   refine (ihk (max p (1 + zf5 e.args[k])) (by omega)).to ?_
   congr 1; omega
 exact loop 0 (Nat.zero_le _) 1 (by omega)
def z97 (op : Int) : Int :=
 if op = 1 ∨ op = 2 then 0 else if (3 ≤ op ∧ op ≤ 10) ∨ op = 13 ∨ op = 14 ∨ op = 17 then 2 else if op = 11 ∨ op = 15 ∨ op = 16 then 1 else if op = 12 then 3 else if op = 18 then -1 else -2
theorem ops (op : Int) : op = 1 ∨ op = 2 ∨ op = 3 ∨ op = 4 ∨ op = 5 ∨ op = 6 ∨ op = 7 ∨ op = 8 ∨ op = 9 ∨ op = 10 ∨ op = 11 ∨ op = 12 ∨ op = 13 ∨ op = 14 ∨ op = 15 ∨ op = 16 ∨ op = 17 ∨ op = 18 ∨ (op < 1 ∨ 18 < op) := by omega
theorem yme {op : Int} : Ev (fun n => zc9 n op) (z97 op) := by
 rcases ops op with rfl | rfl | rfl | rfl | rfl | rfl | rfl | rfl | rfl | rfl | rfl | rfl | rfl | rfl | rfl | rfl | rfl | rfl | h
 case inr.inr.inr.inr.inr.inr.inr.inr.inr.inr.inr.inr.inr.inr.inr.inr.inr.inr =>
  have e : z97 op = -2 := by unfold z97; rw [if_neg (by omega), if_neg (by omega), if_neg (by omega), if_neg (by omega), if_neg (by omega)]
  rw [e]
  have n (j : Int) (h1 : 1 ≤ j) (h2 : j ≤ 18) : (op == j) = false := by simp; omega
  simp [ztb, zos, zox, znv, znq, znt, znx, Ev.pif, Ev.zz0, n]
 all_goals simp [ztb, zos, zox, znv, znq, znt, znx, Ev.pif, Ev.zz0, z97]
theorem ym4 {op : Int} : Ev (fun n => zce n op) (z97 op) := by
 rcases ops op with rfl | rfl | rfl | rfl | rfl | rfl | rfl | rfl | rfl | rfl | rfl | rfl | rfl | rfl | rfl | rfl | rfl | rfl | h
 case inr.inr.inr.inr.inr.inr.inr.inr.inr.inr.inr.inr.inr.inr.inr.inr.inr.inr =>
  have e : z97 op = -2 := by unfold z97; rw [if_neg (by omega), if_neg (by omega), if_neg (by omega), if_neg (by omega), if_neg (by omega)]
  rw [e]
  have n (j : Int) (h1 : 1 ≤ j) (h2 : j ≤ 18) : (op == j) = false := by simp; omega
  rw [ztl, Ev.zz2 (n 1 (by omega) (by omega)), n 2 (by omega) (by omega), zok, Ev.zz2 (by rfl)]
  have l1 : Ev (fun m => zzw m op false) (-2) := by simp [zno, zp7, Ev.pif, Ev.zz0, n]
  by_cases h3 : op ≥ 3
  ·rw [Ev.kz1 (by simpa using h3), Ev.zz2 (by simp; omega), Ev.zz2 (n 13 (by omega) (by omega)), Ev.zz2 (n 14 (by omega) (by omega)), n 17 (by omega) (by omega)]; exact l1
  ·rw [Ev.zz2 (by simpa using h3), Ev.zz2 (n 13 (by omega) (by omega)), Ev.zz2 (n 14 (by omega) (by omega)), n 17 (by omega) (by omega)]; exact l1
 all_goals simp [ztl, zok, zno, zp7, Ev.pif, Ev.zz0, z97]
noncomputable def yg8 (op : Int) (v : yz1) (nm : List UInt8) : Bool :=
 if op = 1 then ztx v == 0 && (v.kind != 4 && nm.isEmpty) else if op = 2 then zqd nm && eqB v v0 else nm.isEmpty && eqB v v0
def yhl (op : Int) (k : Nat) : Bool := z97 op != -2 && (decide (z97 op < 0) || (k : Int) == z97 op)
mutual
noncomputable def zm6 : zz1 → Bool
 | ⟨op, v, nm, l⟩ => yhl op l.length && (yg8 op v nm && zcq l)
noncomputable def zcq : List zz1 → Bool
 | [] => true
 | x :: l => zm6 x && zcq l
end
theorem yj5 (e : zz1) : zm6 e = (yhl e.op e.args.length && (yg8 e.op e.value e.name && zcq e.args)) := by cases e; rw [zm6]
noncomputable def z9d (e : zz1) : Int := if 100 < z94 e ∨ 12 < zf5 e then 4 else if zm6 e then 0 else 8
theorem ype {e : zz1} (h : e.wf) : e.value.wf := by rw [zz1.z3m] at h; exact h.2.1
theorem ysd {e : zz1} (h : e.wf) : ∀ x ∈ e.args, x.wf := by rw [zz1.z3m] at h; exact h.2.2.2
theorem y0q (s : List UInt8) : (!(s == [])) = !s.isEmpty := by cases s <;> rfl
theorem ypu : ∀ e : zz1, e.wf → e.size ≤ 8388608 → Ev (fun n => zbq n e) (zm6 e) := zsr fun e ih hw hs => by
 have hsl := z99 e
 have hlen := z9m e.args
 have idx : ∀ k, k ≤ e.args.length → ∃ i : Int, Ev (fun n => kzb n (k : Int) e.args (e.args.length : Int)) i ∧ decide (i ≥ 0) = !zcq (e.args.drop k) :=
  down ⟨-1, by rw [z0c, Ev.zz2 (by simp), Ev.zz0], by simp [zcq]⟩ fun k hk ihk => by
   have hx := List.getElem_mem hk
   have hsx := zj6 hx
   have hf1 : Ev (fun n => zaz n e.args[k]) (!zm6 e.args[k]) := by
    rw [y6n, zz1.yz4, Ev.kz0 (ih _ hx (ysd hw _ hx) (by omega)), Ev.zz0]
   obtain ⟨i, h1, h2⟩ := ihk
   rw [← List.getElem_cons_drop (h := hk), zcq]
   cases hf : zm6 e.args[k]
   ·refine ⟨k, ?_, by simp⟩
    rw [z0c, Ev.kz1 (by simpa using hk), Ev.kz2 (kz5 hk), zz1.yz4, Ev.kz0 hf1, Ev.kz1 (by rw [hf]; rfl), Ev.zz0]
   ·refine ⟨i, ?_, by rw [h2]; rfl⟩
    rw [z0c, Ev.kz1 (by simpa using hk), Ev.kz2 (kz5 hk), zz1.yz4, Ev.kz0 hf1, Ev.zz2 (by rw [hf]; rfl), wrk (by omega)]
    exact h1
 have l4 : Ev (fun n => z58 n e) (zcq e.args) := by
  obtain ⟨i, h1, h2⟩ := idx 0 (Nat.zero_le _)
  have hi : Ev (fun n => kzg n e.args) i := by rw [zcn]; exact h1
  have hc : Ev (fun n => yzf n e.args) (!zcq e.args) := by
   rw [zbk, Ev.kz0 hi, Ev.zz0, h2]; rfl
  rw [y1u, Ev.kz0 hc, Ev.zz0, Bool.not_not]
 have l1 : ∀ b, Ev (fun n => z56 n b e) (!b && zcq e.args) := fun b => by
  rw [y1o]; cases b
  ·rw [Ev.zz2 (by rfl), zz1.yz4]; exact l4
  ·rw [Ev.kz1 (by rfl), Ev.zz0]; rfl
 have l2 : ∀ b, Ev (fun n => z84 n b e) (!b && zcq e.args) := fun b => by
  rw [y17]; cases b
  ·rw [Ev.zz2 (by rfl), zz1.yz4]; exact l4
  ·rw [Ev.kz1 (by rfl), Ev.zz0]; rfl
 have l3 : ∀ b, Ev (fun n => z7n n b e) (!b && zcq e.args) := fun b => by
  rw [y1w]; cases b
  ·rw [Ev.zz2 (by rfl), zz1.yz4]; exact l4
  ·rw [Ev.kz1 (by rfl), Ev.zz0]; rfl
 have l0 : ∀ b, Ev (fun n => z55 n b e) (!b && (yg8 e.op e.value e.name && zcq e.args)) := fun b => by
  rw [y15]; cases b
  case true => rw [Ev.kz1 (by rfl), Ev.zz0]; rfl
  rw [Ev.zz2 (by rfl)]
  have hsame : Ev (fun n => z2i n e.value (yz1.mk 0 (yz6.mk 0 0) false [] [])) (eqB e.value v0) := y4z e.value v0 (by omega)
  by_cases h1 : e.op = 1
  ·rw [Ev.kz1 (by simpa using h1), yz1.yz4, Ev.kz0 (yiw (ype hw) (by omega)), zz1.yz4, y0q]
   simp only [yg8, if_pos h1]
   by_cases hc : ztx e.value = 0
   ·rw [Ev.zz2 (by simpa using hc)]
    by_cases hk : e.value.kind = 4
    ·rw [Ev.kz1 (by simpa using hk)]
     refine (l1 true).to ?_; simp [hc, hk]
    ·rw [Ev.zz2 (by simpa using hk)]
     have hk' : (e.value.kind != 4) = true := by simpa using hk
     refine (l1 _).to ?_; simp [hc, hk']
   ·rw [Ev.kz1 (by simpa using hc)]
    refine (l1 true).to ?_; simp [hc]
  rw [Ev.zz2 (by simpa using h1)]
  by_cases h2 : e.op = 2
  ·rw [Ev.kz1 (by simpa using h2), Ev.kz0 (yns (by omega)), yz1.yz4, zz1.yz4]
   simp only [yg8, if_neg h1, if_pos h2]
   cases hn : zqd e.name
   ·rw [Ev.kz1 (by rfl)]
    exact (l2 true).to (by simp)
   ·rw [Ev.zz2 (by rfl), Ev.kz0 hsame]
    exact (l2 _).to (by simp)
  ·rw [Ev.zz2 (by simpa using h2), y0q, yz1.yz4, zz1.yz4]
   simp only [yg8, if_neg h1, if_neg h2]
   cases hn : e.name.isEmpty
   ·rw [Ev.kz1 (by rfl)]
    exact (l3 true).to (by simp)
   ·rw [Ev.zz2 (by rfl), Ev.kz0 hsame]
    exact (l3 _).to (by simp)
 rw [yh2, Ev.kz0 yme, yj5, zz1.yz4]
 unfold yhl
 by_cases c1 : z97 e.op = -2
 ·rw [Ev.kz1 (by simpa using c1)]
  exact (l0 true).to (by simp [c1])
 rw [Ev.zz2 (by simpa using c1)]
 by_cases c2 : z97 e.op ≥ 0
 ·rw [Ev.kz1 (by simpa using c2)]
  refine (l0 _).to ?_
  rw [show decide (z97 e.op < 0) = false by simpa using c2, show (z97 e.op != -2) = true by simpa using c1]
  simp only [bne, Bool.not_not, Bool.true_and, Bool.false_or]
 ·rw [Ev.zz2 (by simpa using c2)]
  refine (l0 _).to ?_
  rw [show decide (z97 e.op < 0) = true by simp; omega, show (z97 e.op != -2) = true by simpa using c1]
  simp
theorem yn0 : ∀ e : zz1, e.size ≤ 8388608 → Ev (fun n => zac n e) (zm6 e) := zsr fun e ih hs => by
 have hsl := z99 e
 have hlen := z9m e.args
 have loop : ∀ k, k ≤ e.args.length → Ev (fun n => z5u n (k : Int) e) (zcq (e.args.drop k)) :=
  down (by rw [zp3, Ev.zz2 (by simp), Ev.zz0]; simp [zcq]) fun k hk ihk => by
   have hx := List.getElem_mem hk
   have hsx := zj6 hx
   rw [← List.getElem_cons_drop (h := hk), zcq]
   rw [zp3, Ev.kz1 (by simpa using hk), Ev.kz2 (kz5 hk), zz1.yz4, Ev.kz0 (ih _ hx (by omega))]
   cases hf : zm6 e.args[k]
   ·rw [Ev.kz1 (by rfl), Ev.zz0]; rfl
   ·rw [Ev.zz2 (by rfl), wrk (by omega), zz1.yz4, Bool.true_and]; exact ihk
 have l2 : ∀ b, Ev (fun n => z0t n b e) (!b && zcq e.args) := fun b => by
  rw [zy9]; cases b
  ·rw [Ev.zz2 (by rfl), zz1.yz4]; exact loop 0 (Nat.zero_le _)
  ·rw [Ev.kz1 (by rfl), Ev.zz0]; rfl
 have hgn : decide ((e.name.length : Int) > 0) = !e.name.isEmpty := by cases e.name <;> simp
 have l1 : ∀ b, Ev (fun n => z04 n b e) (!b && ((if e.op = 2 then zqd e.name else e.name.isEmpty) && zcq e.args)) := fun b => by
  rw [zyc]; cases b
  case true => rw [Ev.kz1 (by rfl), Ev.zz0]; rfl
  rw [Ev.zz2 (by rfl), zz1.yz4, hgn]
  by_cases h2 : e.op = 2
  ·rw [Ev.kz1 (by simpa using h2), if_pos h2, Ev.kz0 (yka (by omega))]
   cases hn : zqd e.name
   ·rw [Ev.kz1 (by rfl)]; exact (l2 true).to (by simp)
   ·rw [Ev.zz2 (by rfl), Ev.zz2 (by simpa using h2)]; exact (l2 false).to (by simp)
  ·rw [Ev.zz2 (by simpa using h2), Ev.kz1 (by simpa using h2), if_neg h2]; exact (l2 _).to (by simp)
 have l0 : ∀ b, Ev (fun n => z3f n b e) (!b && (yg8 e.op e.value e.name && zcq e.args)) := fun b => by
  rw [zyg]; cases b
  case true => rw [Ev.kz1 (by rfl), Ev.zz0]; rfl
  rw [Ev.zz2 (by rfl), yz1.yz4, zz1.yz4]
  have hsame : Ev (fun n => z2l n e.value (yz1.mk 0 (yz6.mk 0 0) false [] [])) (eqB e.value v0) := y69 e.value v0 (by omega)
  by_cases h1 : e.op = 1
  ·rw [Ev.kz1 (by simpa using h1), Ev.kz0 (yky (by omega))]
   simp only [yg8, if_pos h1]
   by_cases hc : ztx e.value = 0
   ·rw [Ev.zz2 (by simpa using hc)]
    by_cases hk : e.value.kind = 4
    ·rw [Ev.kz1 (by simpa using hk)]
     refine (l1 true).to ?_; simp [hc, hk]
    ·rw [Ev.zz2 (by simpa using hk), Ev.zz2 (by simpa using h1)]
     have hk' : (e.value.kind != 4) = true := by simpa using hk
     refine (l1 _).to ?_; simp [hc, hk', h1]
   ·rw [Ev.kz1 (by simpa using hc)]
    refine (l1 true).to ?_; simp [hc]
  ·rw [Ev.zz2 (by simpa using h1), Ev.kz1 (by simpa using h1), Ev.kz0 hsame]
   refine (l1 _).to ?_
   simp only [yg8, if_neg h1]
   split
   ·cases eqB e.value v0 <;> cases zqd e.name <;> simp
   ·cases eqB e.value v0 <;> cases e.name.isEmpty <;> simp
 rw [y8e, Ev.kz0 ym4, yj5, zz1.yz4]
 unfold yhl
 by_cases c1 : z97 e.op = -2
 ·rw [Ev.kz1 (by simpa using c1)]
  exact (l0 true).to (by simp [c1])
 rw [Ev.zz2 (by simpa using c1)]
 by_cases c2 : z97 e.op ≥ 0
 ·rw [Ev.kz1 (by simpa using c2)]
  refine (l0 _).to ?_
  rw [show decide (z97 e.op < 0) = false by simpa using c2, show (z97 e.op != -2) = true by simpa using c1]
  simp only [bne, Bool.not_not, Bool.true_and, Bool.false_or]
 ·rw [Ev.zz2 (by simpa using c2)]
  refine (l0 _).to ?_
  rw [show decide (z97 e.op < 0) = true by simp; omega, show (z97 e.op != -2) = true by simpa using c1]
  simp
theorem zpo {e : zz1} (hw : e.wf) (hs : e.size ≤ 8388608) : Ev (fun n => z2d n e) (z9d e) := by
 have l0 : ∀ b, Ev (fun n => z63 n b e) (if b then 4 else if zm6 e then 0 else 8) := fun b => by
  rw [zxg]
  cases b
  ·rw [Ev.zz2 (by rfl), zz1.yz4, Ev.kz0 (ypu e hw hs)]
   cases zm6 e
   ·rw [Ev.kz1 (by rfl), Ev.zz0]; rfl
   ·rw [Ev.zz2 (by rfl), Ev.zz0]; rfl
  ·rw [Ev.kz1 (by rfl), Ev.zz0]; rfl
 rw [yah, zz1.yz4, Ev.kz0 (yii e hs)]
 unfold z9d
 simp only [Ev.pif]
 by_cases h1 : 100 < z94 e
 ·rw [if_pos (by simp; omega), if_pos (.inl h1)]; exact l0 true
 ·rw [if_neg (by simp; omega)]
  by_cases h2 : 12 < zf5 e
  ·rw [if_pos (.inr h2), show decide ((zf5 e : Int) > 12) = true by simp; omega]; exact l0 true
  ·rw [if_neg (by omega), show decide ((zf5 e : Int) > 12) = false by simp; omega]; exact l0 false
theorem zg1 {e : zz1} (hs : e.size ≤ 8388608) : Ev (fun n => z1e n e) (z9d e) := by
 have l0 : ∀ b, Ev (fun n => z4v n b e) (if b then 4 else if zm6 e then 0 else 8) := fun b => by
  rw [zvf]
  cases b
  ·rw [Ev.zz2 (by rfl), zz1.yz4, Ev.kz0 (yn0 e hs)]
   cases zm6 e
   ·rw [Ev.kz1 (by rfl), Ev.zz0]; rfl
   ·rw [Ev.zz2 (by rfl), Ev.zz0]; rfl
  ·rw [Ev.kz1 (by rfl), Ev.zz0]; rfl
 rw [y3w, zz1.yz4, Ev.kz0 (y0d e hs)]
 unfold z9d
 by_cases h1 : 100 < z94 e
 ·rw [Ev.kz1 (by simp; omega), if_pos (.inl h1)]; exact l0 true
 ·rw [Ev.zz2 (by simp; omega), Ev.kz0 (ymq e hs)]
  by_cases h2 : 12 < zf5 e
  ·rw [if_pos (.inr h2), show decide ((zf5 e : Int) > 12) = true by simp; omega]; exact l0 true
  ·rw [if_neg (by omega), show decide ((zf5 e : Int) > 12) = false by simp; omega]; exact l0 false
theorem y0m {e : zz1} (h : z9d e = 0) : zm6 e = true ∧ z94 e ≤ 100 ∧ zf5 e ≤ 12 := by
 unfold z9d at h
 split at h
 ·cases h
 ·split at h
  ·exact ⟨‹_›, by omega, by omega⟩
  ·cases h
theorem yjh : ∀ e : zz1, e.size ≤ 8388608 → ∀ d : Int, ∃ b, Ev (fun n => z9c n e d) b := zsr fun e ih hs d => by
 have hsl := z99 e
 have hlen := z9m e.args
 have loop : ∀ k, k ≤ e.args.length → ∀ d : Int, ∃ b, Ev (fun n => z4d n (k : Int) d e) b :=
  down (fun d => ⟨false, by rw [zme, Ev.zz2 (by simp), Ev.zz0]⟩) fun k hk ihk d => by
   have hx := List.getElem_mem hk
   have hsx := zj6 hx
   obtain ⟨b, hb⟩ := ih _ hx (by omega) (IntKind.i64.wrap (d - 1))
   obtain ⟨c, hc⟩ := ihk d
   refine ⟨if b then true else c, ?_⟩
   rw [zme, Ev.kz1 (by simpa using hk), Ev.kz2 (kz5 hk), zz1.yz4, Ev.kz0 hb, zz1.yz4, wrk (by omega)]
   cases b
   ·rw [Ev.zz2 (by rfl)]; exact hc
   ·rw [Ev.kz1 (by rfl), Ev.zz0]; rfl
 have l0 : ∀ d b, ∃ c, Ev (fun n => z15 n d b e) c := fun d b => by
  cases b
  ·obtain ⟨c, hc⟩ := loop 0 (Nat.zero_le _) d
   exact ⟨c, by rw [zm8, Ev.zz2 (by rfl), zz1.yz4]; exact hc⟩
  ·exact ⟨true, by rw [zm8, Ev.kz1 (by rfl), Ev.zz0]⟩
 obtain ⟨g, hg⟩ := yk7 (v := e.value) (by omega)
 simp only [y62, zz1.yz4, yz1.yz4, Ev.pif, Ev.kz0 hg]
 split
 ·exact l0 _ _
 split
 ·exact l0 _ _
 split
 ·exact l0 _ _
 ·exact l0 _ _
theorem zm7 {e : zz1} (hs : e.size ≤ 8388608) : ∃ b, Ev (fun n => z3p n e) b := by
 obtain ⟨b, hb⟩ := yjh e hs 16
 cases b
 ·exact ⟨_, by rw [zrm, zz1.yz4, Ev.kz0 hb, Ev.zz2 (by rfl), Ev.kz0 (y0d e hs)]; exact Ev.zz0.2 rfl⟩
 ·exact ⟨true, by rw [zrm, zz1.yz4, Ev.kz0 hb, Ev.kz1 (by rfl), Ev.zz0]⟩
end Go.Proofs.YtflgdagdibabiaaGreat


namespace Go.Proofs.YtflgdagdibabiaaGreat
open Go Go.Ab
set_option linter.unusedVariables false
set_option linter.unusedSimpArgs false
theorem zqt (l : List zz1) : l.length ≤ yzt l := by
 induction l with
 | nil => simp
 | cons x l ih => have := zcb x; simp [yzt]; omega
mutual
def zkk : zz1 → List (List UInt8) → List (List UInt8)
 | ⟨op, _, nm, l⟩, acc => zbt l (if op = 2 ∧ nm ∉ acc then acc ++ [nm] else acc)
def zbt : List zz1 → List (List UInt8) → List (List UInt8)
 | [], acc => acc
 | x :: l, acc => zbt l (zkk x acc)
end
theorem zxy (e : zz1) (acc : List (List UInt8)) : zkk e acc = zbt e.args (if e.op = 2 ∧ e.name ∉ acc then acc ++ [e.name] else acc) := by cases e; rw [zkk]
mutual
def zoz : zz1 → List (List UInt8) → List (List UInt8)
 | ⟨op, _, nm, l⟩, acc => zbw l (if op = 2 then ins acc nm else acc)
def zbw : List zz1 → List (List UInt8) → List (List UInt8)
 | [], acc => acc
 | x :: l, acc => zbw l (zoz x acc)
end
theorem y7c (e : zz1) (acc : List (List UInt8)) : zoz e acc = zbw e.args (if e.op = 2 then ins acc e.name else acc) := by cases e; rw [zoz]
theorem yl1 : ∀ (e : zz1) (a b : List (List UInt8)), a.Nodup → z6y b → (∀ x, x ∈ a ↔ x ∈ b) → (zkk e a).Nodup ∧ z6y (zoz e b) ∧ (∀ x, x ∈ zkk e a ↔ x ∈ zoz e b) ∧ (zkk e a).length ≤ a.length + z94 e ∧ (zoz e b).length ≤ b.length + z94 e := zsr fun e ih a b ha hb hab => by
 have hL : ∀ (l : List zz1), (∀ x ∈ l, x ∈ e.args) → ∀ a b : List (List UInt8), a.Nodup → z6y b → (∀ x, x ∈ a ↔ x ∈ b) → (zbt l a).Nodup ∧ z6y (zbw l b) ∧ (∀ x, x ∈ zbt l a ↔ x ∈ zbw l b) ∧ (zbt l a).length ≤ a.length + yzt l ∧ (zbw l b).length ≤ b.length + yzt l := fun l => by
  induction l with
  | nil => intro _ a b ha hb hab; simp only [zbt, zbw, yzt]; exact ⟨ha, hb, hab, Nat.le_refl _, Nat.le_refl _⟩
  | cons x l ihl =>
    intro hm a b ha hb hab
    obtain ⟨h1, h2, h3, h4, h5⟩ := ih x (hm x List.mem_cons_self) a b ha hb hab
    obtain ⟨k1, k2, k3, k4, k5⟩ := ihl (fun y hy => hm y (List.mem_cons_of_mem _ hy)) _ _ h1 h2 h3
    simp only [zbt, zbw, yzt]
    exact ⟨k1, k2, k3, by omega, by omega⟩
 rw [zxy, y7c, zcb]
 by_cases h2 : e.op = 2
 ·rw [if_pos h2]
  by_cases hn : e.name ∈ a
  ·rw [if_neg (by simp [hn])]
   obtain ⟨k1, k2, k3, k4, k5⟩ := hL e.args (fun _ h => h) a (ins b e.name) ha (zia hb) (fun x => by
    rw [zmj, ← hab]
    exact ⟨.inl, fun h => h.elim id fun h => by rw [h]; exact hn⟩)
   have := zmp e.name b
   exact ⟨k1, k2, k3, by omega, by omega⟩
  ·rw [if_pos ⟨h2, hn⟩]
   obtain ⟨k1, k2, k3, k4, k5⟩ := hL e.args (fun _ h => h) (a ++ [e.name]) (ins b e.name) (by
    rw [List.nodup_append]
    refine ⟨ha, by simp, fun x hx y hy => ?_⟩
    rw [List.mem_singleton.1 hy]; intro h; subst h; exact hn hx) (zia hb) (fun x => by
    rw [zmj, ← hab, List.mem_append, List.mem_singleton])
   have := zmp e.name b
   rw [List.length_append, List.length_singleton] at k4
   exact ⟨k1, k2, k3, by omega, by omega⟩
 ·rw [if_neg h2, if_neg (fun h => h2 h.1)]
  obtain ⟨k1, k2, k3, k4, k5⟩ := hL e.args (fun _ h => h) a b ha hb hab
  exact ⟨k1, k2, k3, by omega, by omega⟩
theorem ykl (e : zz1) : z2f (zkk e []) = zoz e [] := by
 obtain ⟨h1, h2, h3, _⟩ := yl1 e [] [] (by simp) (by simp [z6y]) (by simp)
 exact zim (zpz h1) h2 fun x => by rw [(zdt _).mem_iff, h3]
theorem y5w : ∀ (e : zz1) (a : List (List UInt8)), (zkk e a).length ≤ a.length + z94 e := zsr fun e ih a => by
 have hL : ∀ (l : List zz1), (∀ x ∈ l, x ∈ e.args) → ∀ a : List (List UInt8), (zbt l a).length ≤ a.length + yzt l := fun l => by
  induction l with
  | nil => intro _ a; simp [zbt, yzt]
  | cons x l ihl =>
    intro hm a
    have h1 := ih x (hm x List.mem_cons_self) a
    have h2 := ihl (fun y hy => hm y (List.mem_cons_of_mem _ hy)) (zkk x a)
    simp only [zbt, yzt]; omega
 rw [zxy, zcb]
 have := hL e.args (fun _ h => h) (if e.op = 2 ∧ e.name ∉ a then a ++ [e.name] else a)
 have h2 : (if e.op = 2 ∧ e.name ∉ a then a ++ [e.name] else a).length ≤ a.length + 1 := by split <;> simp
 omega
theorem ydw : ∀ (e : zz1) (a : List (List UInt8)), (zoz e a).length ≤ a.length + z94 e := zsr fun e ih a => by
 have hL : ∀ (l : List zz1), (∀ x ∈ l, x ∈ e.args) → ∀ a : List (List UInt8), (zbw l a).length ≤ a.length + yzt l := fun l => by
  induction l with
  | nil => intro _ a; simp [zbw, yzt]
  | cons x l ihl =>
    intro hm a
    have h1 := ih x (hm x List.mem_cons_self) a
    have h2 := ihl (fun y hy => hm y (List.mem_cons_of_mem _ hy)) (zoz x a)
    simp only [zbw, yzt]; omega
 rw [y7c, zcb]
 have hi := zmp e.name a
 have := hL e.args (fun _ h => h) (if e.op = 2 then ins a e.name else a)
 split at this
 ·rename_i h; rw [if_pos h]; omega
 ·rename_i h; rw [if_neg h]; omega
theorem yq8 {l : List (List UInt8)} (hl : l.length ≤ 8388608) {s : List UInt8} : ∃ i : Int, Ev (fun n => zzp n s l) (i, l) ∧ decide (i ≥ 0) = decide (s ∈ l) := by
 have loop : ∀ k, k ≤ l.length → ∃ i : Int, Ev (fun n => kzi n (k : Int) s (l.length : Int) l) (i, l) ∧ decide (i ≥ 0) = decide (s ∈ l.drop k) :=
  down ⟨-1, by rw [z2j, Ev.zz2 (by simp), Ev.zz0], by simp⟩ fun k hk ih => by
   obtain ⟨i, h1, h2⟩ := ih
   by_cases he : s = l[k]
   ·refine ⟨k, ?_, ?_⟩
    ·rw [z2j, Ev.kz1 (by simpa using hk), Ev.kz2 (kz5 hk), Ev.kz1 (by simpa using he), Ev.zz0]
    ·have : s ∈ l.drop k := by rw [← List.getElem_cons_drop (h := hk), he]; exact List.mem_cons_self
     simp [this]
   ·refine ⟨i, ?_, ?_⟩
    ·rw [z2j, Ev.kz1 (by simpa using hk), Ev.kz2 (kz5 hk), Ev.zz2 (by simpa using he), wrk (by omega)]; exact h1
    ·rw [h2]
     have : (s ∈ l.drop k) ↔ (s ∈ l.drop (k + 1)) := by
      rw [← List.getElem_cons_drop (h := hk), List.mem_cons]
      exact ⟨fun h => h.elim (fun h => (he h).elim) id, .inr⟩
     exact decide_eq_decide.2 this.symm
 obtain ⟨i, h1, h2⟩ := loop 0 (Nat.zero_le _)
 exact ⟨i, by rw [zhk]; exact h1, by simpa using h2⟩
theorem yly : ∀ (e : zz1) (acc : List (List UInt8)), acc.length + z94 e ≤ 8388608 → Ev (fun n => za9 n e acc) (zkk e acc) := zsr fun e ih acc hb => by
 rw [zcb] at hb
 have loop : ∀ k, k ≤ e.args.length → ∀ acc : List (List UInt8), acc.length + yzt (e.args.drop k) ≤ 8388608 → Ev (fun n => z5y n (k : Int) e.args (e.args.length : Int) acc) (zbt (e.args.drop k) acc) :=
  down (fun acc hb => by rw [zpf, Ev.zz2 (by simp), Ev.zz0]; simp [zbt]) fun k hk ihk acc hb => by
   have hx := List.getElem_mem hk
   have hlen := zqt e.args
   rw [← List.getElem_cons_drop (h := hk)] at hb ⊢
   simp only [zbt, yzt] at hb ⊢
   have := y5w e.args[k] acc
   have hk2 : k ≤ 8388609 := by
    have := zqt e.args; omega
   rw [zpf, Ev.kz1 (by simpa using hk), Ev.kz2 (kz5 hk), zz1.yz4, Ev.kz0 (ih _ hx _ (by omega)), wrk (by omega)]
   exact ihk _ (by omega)
 have l1 : ∀ acc : List (List UInt8), acc.length + yzt e.args ≤ 8388608 → Ev (fun n => z65 n acc e) (zbt e.args acc) := fun acc hb => by
  rw [zy1]; simpa using loop 0 (Nat.zero_le _) acc (by simpa using hb)
 rw [y8c, zxy]
 by_cases h2 : e.op = 2
 ·obtain ⟨i, h3, h4⟩ := yq8 (l := acc) (by omega) (s := e.name)
  have hc : Ev (fun n => zzm n e.name acc) (decide (e.name ∈ acc), acc) := by
   rw [zfk, Ev.kz0 h3, Ev.zz0, h4]
  rw [Ev.kz1 (by simpa using h2), Ev.kz0 hc, zz1.yz4, zpj]
  by_cases hn : e.name ∈ acc
  ·rw [Ev.zz2 (by simpa using hn), if_neg (by simp [hn]), zz1.yz4]
   exact l1 acc (by omega)
  ·rw [Ev.kz1 (by simpa using hn), if_pos ⟨h2, hn⟩, Ev.kz2 (z7b (by simp; omega)), zz1.yz4]
   exact l1 _ (by simp; omega)
 ·rw [Ev.zz2 (by simpa using h2), if_neg (fun h => h2 h.1), zz1.yz4, zpj, Ev.zz2 (by rfl), zz1.yz4]
  exact l1 _ (by omega)
theorem y75 {α : Type} {p : α → Bool} : ∀ {l : List α}, (∀ x ∈ l, p x = true) → l.takeWhile p = l ∧ l.dropWhile p = []
 | [], _ => ⟨rfl, rfl⟩
 | x :: l, h => by
   have hx := h x List.mem_cons_self
   obtain ⟨h1, h2⟩ := y75 (l := l) fun y hy => h y (List.mem_cons_of_mem _ hy)
   rw [List.takeWhile_cons_of_pos hx, List.dropWhile_cons_of_pos hx, h1, h2]; exact ⟨rfl, rfl⟩
theorem yd2 {l : List (List UInt8)} {k : Nat} (hk : k ≤ l.length) (s : List UInt8) :
  zrb (l ++ [[]]) ((k + 1 : Nat) : Int) (k : Int) = some (l.take k ++ [(l ++ [[]])[k]'(by simp; omega)] ++ l.drop k) ∧ ((l.take k ++ [(l ++ [[]])[k]'(by simp; omega)] ++ l.drop k).set k s = l.take k ++ s :: l.drop k) := by
 constructor
 ·unfold zrb
  rw [if_pos (by simp; omega)]
  congr 1
  have e1 : ((k + 1 : Nat) : Int).toNat = k + 1 := by simp
  have e2 : ((k : Nat) : Int).toNat = k := by simp
  rw [e1, e2]
  have e3 : min ((l ++ [[]]).length - k) ((l ++ [[]]).length - (k + 1)) = l.length - k := by simp; omega
  rw [e3, show k + 1 + (l.length - k) = l.length + 1 by omega]
  have e4 : (l ++ [[]]).drop (l.length + 1) = [] := List.drop_of_length_le (by simp)
  have e5 : ((l ++ [[]]).drop k).take (l.length - k) = l.drop k := by
   rw [List.drop_append_of_le_length hk, List.take_append_of_le_length (by simp), List.take_of_length_le (by simp)]
  have e6 : (l ++ [[]]).take (k + 1) = l.take k ++ [(l ++ [[]])[k]'(by simp; omega)] := by
   have hlt : k < (l ++ [[]]).length := by simp; omega
   rw [← za6 hlt, List.take_append_of_le_length hk]
  rw [e4, e5, e6, List.append_nil]
 ·have hl : (l.take k).length = k := by simp; omega
  rw [List.append_assoc, List.set_append, if_neg (by omega), hl, Nat.sub_self]; rfl
theorem yo4 : ∀ (e : zz1) (acc : List (List UInt8)), acc.length + z94 e ≤ 8388608 → Ev (fun n => zad n e acc) (zoz e acc) := zsr fun e ih acc hb => by
 rw [zcb] at hb
 have loop : ∀ k, k ≤ e.args.length → ∀ acc : List (List UInt8), acc.length + yzt (e.args.drop k) ≤ 8388608 → Ev (fun n => z5m n (k : Int) acc e) (zbw (e.args.drop k) acc) :=
  down (fun acc hb => by rw [zpa, Ev.zz2 (by simp), Ev.zz0]; simp [zbw]) fun k hk ihk acc hb => by
   have hx := List.getElem_mem hk
   have hlen := zqt e.args
   rw [← List.getElem_cons_drop (h := hk)] at hb ⊢
   simp only [zbw, yzt] at hb ⊢
   have := ydw e.args[k] acc
   rw [zpa, Ev.kz1 (by simpa using hk), Ev.kz2 (kz5 hk), zz1.yz4, Ev.kz0 (ih _ hx _ (by omega)), wrk (by omega), zz1.yz4]
   exact ihk _ (by omega)
 have l3 : ∀ acc : List (List UInt8), acc.length + yzt e.args ≤ 8388608 → Ev (fun n => z39 n acc e) (zbw e.args acc) := fun acc hb => by
  rw [zyh, zz1.yz4]; simpa using loop 0 (Nat.zero_le _) acc (by simpa using hb)
 rw [y9h, zz1.yz4, y7c]
 by_cases h2 : e.op = 2
 case neg => rw [Ev.zz2 (by simpa using h2), if_neg h2]; exact l3 _ (by omega)
 rw [Ev.kz1 (by simpa using h2), if_pos h2]
 have hil := zmp e.name acc
 have fin : ∀ k, k ≤ acc.length → acc.takeWhile (fun x => Op.bytesLess x e.name) = acc.take k → acc.dropWhile (fun x => Op.bytesLess x e.name) = acc.drop k → Ev (fun n => z62 n (k : Int) false e acc) (zbw e.args (ins acc e.name)) := fun k hk ht hd => by
  have hins := ymk e.name acc
  rw [ht, hd] at hins
  have put : ins acc e.name = acc.take k ++ e.name :: acc.drop k → Ev (fun n => z66 n (k : Int) true e acc) (zbw e.args (ins acc e.name)) := fun hi => by
   obtain ⟨s1, s2⟩ := yd2 hk e.name
   have hx : ext acc [[]] = some (acc ++ [[]]) := z7b (by simp; omega)
   have hc1 : zwt (acc ++ [[]]) ((k + 1 : Nat) : Int) = some () := by unfold zwt; rw [if_pos (by simp; omega)]
   have hc2 : zwt (acc ++ [[]]) (k : Int) = some () := by unfold zwt; rw [if_pos (by simp; omega)]
   have hg : ix (acc.take k ++ [(acc ++ [[]])[k]'(by simp; omega)] ++ acc.drop k) (k : Int) = some ((acc ++ [[]])[k]'(by simp; omega)) := by
    rw [ylx, List.append_assoc, List.getElem?_append_right (by simp; omega)]
    simp [Nat.min_eq_left hk]
   rw [zpc, Ev.kz1 (by rfl), Ev.kz2 hx, wrk (by omega), Ev.kz2 hc1, Ev.kz2 hc2, Ev.kz2 s1, Ev.kz2 hg, zz1.yz4, Int.toNat_natCast, s2, ← hi]
   exact l3 _ (by omega)
  rw [zp5, Ev.zz2 (by rfl), zz1.yz4]
  by_cases he : k = acc.length
  ·rw [Ev.kz1 (by simp; omega)]
   exact put (by rw [hins, if_neg (by rw [List.drop_of_length_le (by omega)]; simp)])
  ·have hlt : k < acc.length := by omega
   rw [Ev.zz2 (by simp; omega), Ev.kz2 (kz5 hlt)]
   have hhead : (acc.drop k).head? = some acc[k] := by rw [← List.getElem_cons_drop (h := hlt)]; rfl
   by_cases heq : acc[k] = e.name
   ·rw [show (!(acc[k] == e.name)) = false by simpa using heq, zpc, Ev.zz2 (by rfl), zz1.yz4]
    have : ins acc e.name = acc := by rw [hins, if_pos (by rw [hhead, heq])]
    rw [this]
    exact l3 _ (by omega)
   ·rw [show (!(acc[k] == e.name)) = true by simpa using heq]
    exact put (by rw [hins, if_neg (by rw [hhead]; simpa using heq)])
 have place : ∀ k, k ≤ acc.length → (acc.take k).all (fun x => Op.bytesLess x e.name) = true → Ev (fun n => z3e n (k : Int) e acc) (zbw e.args (ins acc e.name)) :=
  down (Q := fun k => (acc.take k).all (fun x => Op.bytesLess x e.name) = true → Ev (fun n => z3e n (k : Int) e acc) (zbw e.args (ins acc e.name))) (fun hall => by
   rw [List.take_length] at hall
   rw [List.all_eq_true] at hall
   rw [zpb, Ev.zz2 (by simp), zz1.yz4]
   refine fin _ (Nat.le_refl _) ?_ ?_
   ·rw [List.take_length]; exact (y75 hall).1
   ·rw [List.drop_length]; exact (y75 hall).2) fun k hk ihk hall => by
   have hsplit : acc = acc.take k ++ acc.drop k := (List.take_append_drop k acc).symm
   rw [zpb, Ev.kz1 (by simpa using hk), Ev.kz2 (kz5 hk), zz1.yz4]
   cases hb : Op.bytesLess acc[k] e.name
   ·rw [List.all_eq_true] at hall
    refine fin k (by omega) ?_ ?_
    ·conv => lhs; rw [hsplit]
     rw [List.takeWhile_append_of_pos hall, ← List.getElem_cons_drop (h := hk), List.takeWhile_cons_of_neg (by simp [hb]), List.append_nil]
    ·conv => lhs; rw [hsplit]
     rw [List.dropWhile_append_of_pos hall, ← List.getElem_cons_drop (h := hk), List.dropWhile_cons_of_neg (by simp [hb])]
   ·rw [zp5, Ev.kz1 (by rfl), wrk (by omega), zz1.yz4]
    refine ihk ?_
    rw [← za6 hk, List.all_append, hall]; simp [hb]
 exact place 0 (Nat.zero_le _) (by simp)
noncomputable def zfu (e : zz1) : List (List UInt8) × Int := if z9d e ≠ 0 then ([], z9d e) else (zoz e [], 0)
theorem ymh {e : zz1} (hw : e.wf) (hs : e.size ≤ 8388608) : Ev (fun n => zcc n e) (zfu e) := by
 rw [ycm, zz1.yz4, Ev.kz0 (zpo hw hs)]
 unfold zfu
 by_cases hc : z9d e = 0
 case neg => rw [Ev.kz1 (by simpa using hc), Ev.zz0, if_pos hc]
 obtain ⟨_, hp, _⟩ := y0m hc
 have hl := y5w e []
 have hsort : Ev (fun n => kzp n (zkk e [])) (zoz e []) := by
  refine .same (fun n => ?_) (.pure rfl)
  unfold kzp
  rw [if_pos (by simp at hl; omega), ykl]
 rw [Ev.zz2 (by simpa using hc), if_neg (by simpa using hc), Ev.kz0 (yly e [] (by simp; omega)), Ev.kz0 hsort, Ev.zz0]
theorem yko {e : zz1} (hs : e.size ≤ 8388608) : Ev (fun n => zau n e) (zfu e) := by
 rw [y6x, zz1.yz4, Ev.kz0 (zg1 hs)]
 unfold zfu
 by_cases hc : z9d e = 0
 case neg => rw [Ev.kz1 (by simpa using hc), Ev.kz0 (zg1 hs), Ev.zz0, if_pos hc]
 obtain ⟨_, hp, _⟩ := y0m hc
 rw [Ev.zz2 (by simpa using hc), if_neg (by simpa using hc), Ev.kz0 (yo4 e [] (by simp; omega)), Ev.zz0]
end Go.Proofs.YtflgdagdibabiaaGreat


namespace Go.Proofs.YtflgdagdibabiaaGreat
open Go Go.Ab
set_option linter.unusedVariables false
set_option linter.unusedSimpArgs false
theorem zq8 {α : Type} {f : α → Nat} : ∀ {l : List α} {x : α}, x ∈ l → f x ≤ (l.map f).sum
 | y :: l, x, h => by
   simp only [List.map_cons, List.sum_cons]
   rcases List.mem_cons.1 h with h | h
   · subst h; omega
   · have := zq8 (f := f) h; omega
theorem zpw {α : Type} {f : α → Nat} (hf : ∀ x, 1 ≤ f x) : ∀ l : List α, l.length ≤ (l.map f).sum
 | [] => by simp
 | x :: l => by have := zpw hf l; have := hf x; simp only [List.length_cons, List.map_cons, List.sum_cons]; omega
def zan (l : List zz1) : zz1 := ⟨18, ⟨0, ⟨0, 0⟩, false, [], []⟩, [], l⟩
theorem zi9 (l : List zz1) : (zan l).size = (l.map zz1.size).sum + 12 := by
 rw [zz1.size_eq]; show 1 + yz1.size _ + 0 + 1 + ((l.map zz1.size).sum + 1) + 1 = _
 rw [yz1.size_eq]; show 1 + (1 + (1 + 1 + 1) + 1 + (0 + 1) + (0 + 1) + 1) + 0 + 1 + ((l.map zz1.size).sum + 1) + 1 = _
 omega
theorem yjx {l : List zz1} (h : ∀ x ∈ l, x.wf) : (zan l).wf := by
 rw [zz1.z3m]
 refine ⟨by show (IntKind.u8.min ≤ 18 ∧ 18 ≤ IntKind.u8.max); decide, ?_, trivial, h⟩
 rw [yz1.z3m]
 refine ⟨by show (IntKind.u8.min ≤ 0 ∧ 0 ≤ IntKind.u8.max); decide, ?_, trivial, trivial, by simp [zan]⟩
 rw [yz6.z3m]
 exact ⟨by show (IntKind.i64.min ≤ 0 ∧ 0 ≤ IntKind.i64.max); decide, by show (IntKind.i64.min ≤ 0 ∧ 0 ≤ IntKind.i64.max); decide⟩
theorem ypj {a b : List zz1} : eqB (zan a) (zan b) = eqB a b := by
 by_cases h : a = b
 ·rw [h, z9w, z9w]
 ·rw [yzm.2 h, yzm.2 (fun e => h (by injection e))]
section
variable {p : yz0} {t : kz9} {r : kz4} {c : zz5} {a : zz3} {x : zza} {e : zz1}
theorem y6e (h : t ∈ p.attrs) : t.size + 2 ≤ p.size := by have := zq8 (f := kz9.size) h; rw [yz0.size_eq]; omega
theorem zis (h : r ∈ p.rules) : r.size + 2 ≤ p.size := by have := zq8 (f := kz4.size) h; rw [yz0.size_eq]; omega
theorem y31 : t.value.size + t.name.length + 2 ≤ t.size := by rw [kz9.size_eq]; omega
theorem zqh (h : c ∈ r.cases) : c.size + 2 ≤ r.size := by have := zq8 (f := zz5.size) h; rw [kz4.size_eq]; omega
theorem yuc : r.name.length + 2 ≤ r.size := by rw [kz4.size_eq]; omega
theorem yu2 {s : List UInt8} (h : s ∈ r.params) : s.length + 2 ≤ r.size := by have := zq8 (f := fun s : List UInt8 => s.length + 1) h; rw [kz4.size_eq]; omega
theorem ydg : c.when_.size + 2 ≤ c.size := by rw [zz5.size_eq]; omega
theorem ztr (h : a ∈ c.do_) : a.size + 2 ≤ c.size := by have := zq8 (f := zz3.size) h; rw [zz5.size_eq]; omega
theorem yue : a.name.length + 2 ≤ a.size := by rw [zz3.size_eq]; omega
theorem y7m : (a.args.map zz1.size).sum + 5 ≤ a.size := by rw [zz3.size_eq]; omega
theorem y0s (h : x ∈ a.items) : x.size + 2 ≤ a.size := by have := zq8 (f := zza.size) h; rw [zz3.size_eq]; omega
theorem yu6 : x.name.length + 2 ≤ x.size := by rw [zza.size_eq]; omega
theorem y4b : (x.args.map zz1.size).sum + 4 ≤ x.size := by rw [zza.size_eq]; omega
theorem zqk : p.attrs.length ≤ p.size := by have := zpw (f := kz9.size) (fun x => by rw [kz9.size_eq]; omega) p.attrs; rw [yz0.size_eq]; omega
theorem zi5 : p.rules.length ≤ p.size := by have := zpw (f := kz4.size) (fun x => by rw [kz4.size_eq]; omega) p.rules; rw [yz0.size_eq]; omega
theorem zr6 : r.params.length ≤ r.size := by have := zpw (f := fun s : List UInt8 => s.length + 1) (fun x => by omega) r.params; rw [kz4.size_eq]; omega
theorem zr4 : r.cases.length ≤ r.size := by have := zpw (f := zz5.size) (fun x => by rw [zz5.size_eq]; omega) r.cases; rw [kz4.size_eq]; omega
theorem zqr : c.do_.length ≤ c.size := by have := zpw (f := zz3.size) (fun x => by rw [zz3.size_eq]; omega) c.do_; rw [zz5.size_eq]; omega
theorem zwo : a.items.length ≤ a.size := by have := zpw (f := zza.size) (fun x => by rw [zza.size_eq]; omega) a.items; rw [zz3.size_eq]; omega
theorem yu7 : a.args.length ≤ a.size := by have := z9m a.args; have := @y7m a; omega
theorem ysq : x.args.length ≤ x.size := by have := z9m x.args; have := @y4b x; omega
theorem yu9 (h : p.wf) (ht : t ∈ p.attrs) : t.value.wf := by rw [yz0.z3m] at h; have := h.1 t ht; rw [kz9.z3m] at this; exact this.2
theorem yrx (h : p.wf) (hr : r ∈ p.rules) : r.wf := by rw [yz0.z3m] at h; exact h.2 r hr
theorem ysb (h : r.wf) (hc : c ∈ r.cases) : c.wf := by rw [kz4.z3m] at h; exact h.2.2 c hc
theorem yua (h : c.wf) : c.when_.wf := by rw [zz5.z3m] at h; exact h.2.1
theorem ys5 (h : c.wf) (ha : a ∈ c.do_) : a.wf := by rw [zz5.z3m] at h; exact h.2.2 a ha
theorem yul (h : a.wf) : (0 ≤ a.kind ∧ a.kind ≤ 255) ∧ (0 ≤ a.axis ∧ a.axis ≤ 255) := by rw [zz3.z3m] at h; exact ⟨h.1, h.2.1⟩
theorem wf_aa (h : a.wf) : (zan a.args).wf := by rw [zz3.z3m] at h; exact yjx h.2.2.2.1
theorem wf_ae (h : a.wf) (he : e ∈ a.args) : e.wf := by rw [zz3.z3m] at h; exact h.2.2.2.1 e he
theorem yuk (h : a.wf) (hx : x ∈ a.items) : x.wf := by rw [zz3.z3m] at h; exact h.2.2.2.2 x hx
theorem wf_xa (h : x.wf) : (zan x.args).wf := by rw [zza.z3m] at h; exact yjx h.2.2
theorem wf_xe (h : x.wf) (he : e ∈ x.args) : e.wf := by rw [zza.z3m] at h; exact h.2.2 e he
end
theorem ys9 {α : Type} {a b : List α} (h : ¬ a.length = b.length) : ((a.length : Int) != (b.length : Int)) = true := by simp; omega
theorem yng {α : Type} {a b : List α} (h : a.length = b.length) : ((a.length : Int) != (b.length : Int)) = false := by simp; omega
theorem zg0 {α : Type} {F : Nat → List α → List α → Option Bool} {L : Nat → Int → List α → List α → Int → Option Bool} {S : Nat → α → α → Option Bool} {a b : List α}
  (hF : ∀ n, F (n + 1) a b = pIf ((a.length : Int) != (b.length : Int)) (some false) (L n 0 b a (a.length : Int)))
  (hL : ∀ n (k : Int), L (n + 1) k b a (a.length : Int) = pIf (decide (k < (a.length : Int))) ((ix a k).bind fun x0 => (ix b k).bind fun x1 => (S n x0 x1).bind fun y2 => pIf (!y2) (some false) (L n (IntKind.i64.wrap (k + 1)) b a (a.length : Int))) (some true))
  (hb : a.length ≤ 8388608) (hS : ∀ x ∈ a, ∀ y, Ev (fun n => S n x y) (eqB x y)) : Ev (fun n => F n a b) (eqB a b) := by
 rw [Ev.zgz hF]
 by_cases hlen : a.length = b.length
 case neg => rw [Ev.kz1 (ys9 hlen), Ev.zz0, yzm.2 (fun h => hlen (by rw [h]))]
 rw [Ev.zz2 (yng hlen)]
 have := zq5 (L := fun n k => L n k b a (a.length : Int)) (fail := false) (r := true) hlen
  (by rw [Ev.zgz (fun n => hL n _), Ev.zz2 (by simp), Ev.zz0]) fun k hk hk' v hv => by
   rw [Ev.zgz (fun n => hL n _), Ev.kz1 (by simpa using hk), Ev.kz2 (kz5 hk), Ev.kz2 (kz5 hk'), Ev.kz0 (hS _ (List.getElem_mem hk) _)]
   by_cases he : a[k] = b[k]
   ·rw [he, z9w, Ev.zz2 (by rfl), wrk (by omega)]; exact hv
   ·rw [yzm.2 he, Ev.kz1 (by rfl), Ev.zz0]; rfl
 cases h : eqB a b <;> rw [h] at this <;> exact this
theorem zyf {α : Type} {L : Nat → Int → List α → Int → Option Int} {S : Nat → α → Option Bool} {l : List α} {p : α → Bool}
  (hL : ∀ n (k : Int), L (n + 1) k l (l.length : Int) = pIf (decide (k < (l.length : Int))) ((ix l k).bind fun x0 => (S n x0).bind fun y1 => pIf y1 (some k) (L n (IntKind.i64.wrap (k + 1)) l (l.length : Int))) (some (-1)))
  (hb : l.length ≤ 8388608) (hS : ∀ x ∈ l, Ev (fun n => S n x) (p x)) : ∃ i : Int, Ev (fun n => L n 0 l (l.length : Int)) i ∧ decide (i ≥ 0) = l.any p := by
 have : ∀ k, k ≤ l.length → ∃ i : Int, Ev (fun n => L n (k : Int) l (l.length : Int)) i ∧ decide (i ≥ 0) = (l.drop k).any p :=
  down ⟨-1, by rw [Ev.zgz (fun n => hL n _), Ev.zz2 (by simp), Ev.zz0], by simp⟩ fun k hk ⟨i, h1, h2⟩ => by
   cases hp : p l[k] with
   | true =>
     refine ⟨k, ?_, ?_⟩
     · rw [Ev.zgz (fun n => hL n _), Ev.kz1 (by simpa using hk), Ev.kz2 (kz5 hk), Ev.kz0 (hS _ (List.getElem_mem hk)), hp, Ev.kz1 rfl, Ev.zz0]
     · rw [← List.getElem_cons_drop (h := hk), List.any_cons, hp]; simp
   | false =>
     refine ⟨i, ?_, ?_⟩
     · rw [Ev.zgz (fun n => hL n _), Ev.kz1 (by simpa using hk), Ev.kz2 (kz5 hk), Ev.kz0 (hS _ (List.getElem_mem hk)), hp, Ev.zz2 rfl, wrk (by omega)]; exact h1
     · rw [← List.getElem_cons_drop (h := hk), List.any_cons, hp, h2]; simp
 simpa using this 0 (Nat.zero_le _)
theorem zxp : ∀ a b : zz1, a.size ≤ 8388608 → Ev (fun n => z4y n a b) (eqB a b) := zsr (P := fun a => ∀ b : zz1, a.size ≤ 8388608 → Ev (fun n => z4y n a b) (eqB a b)) fun a ih b hs => by
 have hsz := z99 a
 have hlen := z9m a.args
 rw [ygg]
 by_cases h1 : a.op = b.op
 case neg => rw [Ev.zz2 (by simpa using h1), Ev.zz0, yzm.2 (fun h => h1 (by rw [h]))]
 rw [Ev.kz1 (by simpa using h1)]
 by_cases h2 : a.name = b.name
 case neg => rw [Ev.zz2 (by simpa using h2), Ev.zz0, yzm.2 (fun h => h2 (by rw [h]))]
 rw [Ev.kz1 (by simpa using h2), yz1.yz4, yz1.yz4, Ev.kz0 (y4z _ _ (by omega))]
 by_cases h3 : a.value = b.value
 case neg => rw [yzm.2 h3, Ev.zz2 rfl, Ev.zz0, yzm.2 (fun h => h3 (by rw [h]))]
 rw [h3, z9w, Ev.kz1 rfl, Ev.kz0 (zg0 (S := fun n x y => z4y n x.re y.re) (fun n => zz8.eq_2 _ _ n) (fun n k => kz6.eq_2 _ _ _ _ n) (by omega) fun x hx y => by rw [zz1.yz4, zz1.yz4]; exact ih x hx y (by have := zj6 hx; omega)), Ev.zz0]
 obtain ⟨a1, a2, a3, a4⟩ := a
 obtain ⟨b1, b2, b3, b4⟩ := b
 cases h1; cases h2; cases h3
 by_cases h : a4 = b4
 ·cases h; rw [z9w, z9w]
 ·rw [yzm.2 h, yzm.2 (fun e => h (by injection e))]
theorem zuo : ∀ a b : zz1, a.size ≤ 8388608 → Ev (fun n => z3k n a b) (eqB a b) := zsr (P := fun a => ∀ b : zz1, a.size ≤ 8388608 → Ev (fun n => z3k n a b) (eqB a b)) fun a ih b hs => by
 have hsz := z99 a
 have hlen := z9m a.args
 have bad : a ≠ b → Ev (fun n => z1t n true b a) (eqB a b) := fun h => by rw [zo8, Ev.kz1 rfl, Ev.zz0, yzm.2 h]
 rw [ycc, zz1.yz4, zz1.yz4]
 by_cases h1 : a.op = b.op
 case neg => rw [Ev.kz1 (by simpa using h1)]; exact bad fun h => h1 (by rw [h])
 rw [Ev.zz2 (by simpa using h1)]
 by_cases h2 : a.name = b.name
 case neg => rw [Ev.kz1 (by simpa using h2)]; exact bad fun h => h2 (by rw [h])
 rw [Ev.zz2 (by simpa using h2), yz1.yz4, yz1.yz4, Ev.kz0 (y69 _ _ (by omega))]
 by_cases h3 : a.value = b.value
 case neg => rw [yzm.2 h3, Ev.kz1 (by rfl)]; exact bad fun h => h3 (by rw [h])
 rw [h3, z9w, Ev.zz2 (by rfl)]
 by_cases h4 : a.args.length = b.args.length
 case neg => rw [ys9 h4]; exact bad fun h => h4 (by rw [h])
 rw [yng h4, zo8, Ev.zz2 rfl, zz1.yz4, zz1.yz4]
 have := zq5 (L := fun n k => z6c n k b a) (fail := false) (r := true) h4
  (by rw [zpd, Ev.zz2 (by simp), Ev.zz0]) fun k hk hk' v hv => by
   rw [zpd, Ev.kz1 (by simpa using hk), Ev.kz2 (kz5 hk), Ev.kz2 (kz5 hk'), zz1.yz4, zz1.yz4, Ev.kz0 (ih _ (List.getElem_mem hk) _ (by have := zj6 (List.getElem_mem hk); omega))]
   by_cases he : a.args[k] = b.args[k]
   ·rw [he, z9w, Ev.zz2 (by rfl), wrk (by omega), zz1.yz4, zz1.yz4]; exact hv
   ·rw [yzm.2 he, Ev.kz1 (by rfl), Ev.zz0]; rfl
 have e : (if eqB a.args b.args = true then true else false) = eqB a b := by
  obtain ⟨a1, a2, a3, a4⟩ := a
  obtain ⟨b1, b2, b3, b4⟩ := b
  cases h1; cases h2; cases h3
  by_cases h : a4 = b4
  ·cases h; rw [z9w, z9w]; rfl
  ·rw [yzm.2 h, yzm.2 (fun e => h (by injection e))]; rfl
 rw [← e]; exact this
end Go.Proofs.YtflgdagdibabiaaGreat


namespace Go.Proofs.YtflgdagdibabiaaGreat
open Go Go.Ab
set_option linter.unusedVariables false
set_option linter.unusedSimpArgs false
theorem zsy {c d : Bool} {A : Nat → Option Bool} (h : c = true → Ev A d) : Ev (fun n => pIf c (A n) (some false)) (c && d) := by
 cases c
 ·exact Ev.pure rfl
 ·exact h rfl
theorem ync {c d : Bool} {A Z : Nat → Option Bool} (hz : Ev Z false) (h : c = true → Ev A d) : Ev (fun n => pIf (!c) (Z n) (A n)) (c && d) := by
 cases c
 ·exact hz
 ·exact h rfl
theorem ztw {α : Type} [BEq α] [LawfulBEq α] (a b : α) : (a == b) = eqB a b := by
 by_cases h : a = b
 ·subst h; simp
 ·rw [yzm.2 h]; simpa using h
theorem ybn {α : Type} [BEq α] [LawfulBEq α] (a b : α) : (a != b) = !eqB a b := by rw [bne, ztw]
theorem zsg {α : Type} {a b : α} {c : Bool} (h : a = b ↔ c = true) : eqB a b = c := by
 cases c
 ·exact yzm.2 fun e => by simpa using h.1 e
 ·exact z8d.2 (h.2 rfl)
theorem yoq (a b : kz9) : eqB a b = (eqB a.name b.name && eqB a.value b.value) := zsg (by
 obtain ⟨a1, a2⟩ := a; obtain ⟨b1, b2⟩ := b; simp only [kz9.mk.injEq, Bool.and_eq_true, z8d])
theorem yob (a b : zza) : eqB a b = (eqB a.kind b.kind && (eqB a.name b.name && eqB a.args b.args)) := zsg (by
 obtain ⟨a1, a2, a3⟩ := a; obtain ⟨b1, b2, b3⟩ := b; simp only [zza.mk.injEq, Bool.and_eq_true, z8d])
theorem ydu (a b : zz3) : eqB a b = (eqB a.kind b.kind && (eqB a.axis b.axis && (eqB a.name b.name && (eqB a.args b.args && eqB a.items b.items)))) := zsg (by
 obtain ⟨a1, a2, a3, a4, a5⟩ := a; obtain ⟨b1, b2, b3, b4, b5⟩ := b; simp only [zz3.mk.injEq, Bool.and_eq_true, z8d])
theorem yp1 (a b : zz5) : eqB a b = (eqB a.weight b.weight && (eqB a.when_ b.when_ && eqB a.do_ b.do_)) := zsg (by
 obtain ⟨a1, a2, a3⟩ := a; obtain ⟨b1, b2, b3⟩ := b; simp only [zz5.mk.injEq, Bool.and_eq_true, z8d])
theorem yox (a b : kz4) : eqB a b = (eqB a.name b.name && (eqB a.params b.params && eqB a.cases b.cases)) := zsg (by
 obtain ⟨a1, a2, a3⟩ := a; obtain ⟨b1, b2, b3⟩ := b; simp only [kz4.mk.injEq, Bool.and_eq_true, z8d])
theorem yoz (a b : yz0) : eqB a b = (eqB a.attrs b.attrs && eqB a.rules b.rules) := zsg (by
 obtain ⟨a1, a2⟩ := a; obtain ⟨b1, b2⟩ := b; simp only [yz0.mk.injEq, Bool.and_eq_true, z8d])
theorem yp6 {α : Type} {a b : List α} (h : ¬ a.length = b.length) : eqB (a.length : Int) (b.length : Int) = false := yzm.2 (by omega)
theorem ypo {α : Type} {a b : List α} (h : a.length = b.length) : eqB (a.length : Int) (b.length : Int) = true := z8d.2 (by omega)
theorem yql {α : Type} {a b : List α} (h : ¬ a.length = b.length) : eqB a b = false := yzm.2 fun e => h (by rw [e])
theorem ifB (c : Bool) : (if c = true then true else false) = c := by cases c <;> rfl
theorem y3i {a b : List zz1} (hs : (a.map zz1.size).sum ≤ 8000000) : Ev (fun n => z4h n a b) (eqB a b) := by
 have := z9m a
 rw [zwr, Ev.kz0 (zg0 (S := fun n x y => z4y n x.re y.re) (fun n => zz8.eq_2 _ _ n) (fun n k => kz6.eq_2 _ _ _ _ n) (by omega) fun x hx y => by rw [zz1.yz4, zz1.yz4]; exact zxp x y (by have := zse hx; omega)), Ev.zz0]
theorem ykn {a b : zza} (hs : a.size ≤ 8000000) : Ev (fun n => z2y n a b) (eqB a b) := by
 have := @y4b a
 rw [zuy, yob, ztw, ztw]
 refine zsy fun _ => zsy fun _ => ?_
 rw [Ev.kz0 (y3i (by omega)), Ev.zz0]
theorem y9w {a b : zz3} (hs : a.size ≤ 8000000) : Ev (fun n => z1d n a b) (eqB a b) := by
 have := @y7m a
 have := @zwo a
 rw [zrf, ydu, ztw, ztw, ztw]
 refine zsy fun _ => zsy fun _ => zsy fun _ => ?_
 rw [Ev.kz0 (y3i (by omega))]
 refine zsy fun _ => ?_
 rw [Ev.kz0 (zg0 (S := fun n x y => z2y n x y) (fun n => yzh.eq_2 _ _ n) (fun n k => yza.eq_2 _ _ _ _ n) (by omega) fun x hx y => ykn (by have := y0s hx; omega)), Ev.zz0]
theorem yjm {a b : zz5} (hs : a.size ≤ 8000000) : Ev (fun n => z2x n a b) (eqB a b) := by
 have := @ydg a
 have := @zqr a
 rw [zv3, yp1, ztw, zz1.yz4, zz1.yz4]
 refine zsy fun _ => ?_
 rw [Ev.kz0 (zxp _ _ (by omega))]
 refine zsy fun _ => ?_
 rw [Ev.kz0 (zg0 (S := fun n x y => z1d n x y) (fun n => yzd.eq_2 _ _ n) (fun n k => kz7.eq_2 _ _ _ _ n) (by omega) fun x hx y => y9w (by have := ztr hx; omega)), Ev.zz0]
theorem ypd {a b : List (List UInt8)} (hl : a.length ≤ 8000000) : Ev (fun n => z0e n a b) (eqB a b) := by
 refine zg0 (S := fun n x y => some (eqB x y)) (fun n => z0e.eq_2 _ _ n) (fun n k => ?_) (by omega) (fun x hx y => Ev.pure rfl)
 rw [yzx.eq_2]
 simp only [ztw, Option.bind_some]
theorem ylb {a b : kz4} (hs : a.size ≤ 8000000) : Ev (fun n => z7h n a b) (eqB a b) := by
 have := @zr6 a
 have := @zr4 a
 rw [y1v, yox, ztw]
 refine zsy fun _ => ?_
 rw [Ev.kz0 (ypd (by omega))]
 refine zsy fun _ => ?_
 rw [Ev.kz0 (zg0 (S := fun n x y => z2x n x.re y.re) (fun n => zzi.eq_2 _ _ n) (fun n k => kza.eq_2 _ _ _ _ n) (by omega) fun x hx y => by rw [zz5.yz4, zz5.yz4]; exact yjm (by have := zqh hx; omega)), Ev.zz0]
theorem yle {a b : kz9} (hs : a.size ≤ 8000000) : Ev (fun n => z8b n a b) (eqB a b) := by
 have := @y31 a
 rw [y2j, yoq, ztw, zz1.yz4, zz1.yz4]
 refine zsy fun _ => ?_
 rw [Ev.kz0 (zxp _ _ (by omega)), Ev.zz0]
theorem ynh {a b : yz0} (hs : a.size ≤ 8000000) : Ev (fun n => zca n a b) (eqB a b) := by
 have := @zqk a
 have := @zi5 a
 rw [ybw, yoz, Ev.kz0 (zg0 (S := fun n x y => z8b n x.re y.re) (fun n => zzh.eq_2 _ _ n) (fun n k => yzb.eq_2 _ _ _ _ n) (by omega) fun x hx y => by rw [kz9.yz4, kz9.yz4]; exact yle (by have := y6e hx; omega))]
 refine zsy fun _ => ?_
 rw [Ev.kz0 (zg0 (S := fun n x y => z7h n x y) (fun n => kzh.eq_2 _ _ n) (fun n k => zzb.eq_2 _ _ _ _ n) (by omega) fun x hx y => ylb (by have := zis hx; omega)), Ev.zz0]
theorem y63 {a b : List zz1} (hs : (a.map zz1.size).sum ≤ 8000000) : Ev (fun n => z2v n a b) (eqB a b) := by
 have e1 : Ev (fun n => z0a n a) (zan a) := by rw [zin, Ev.zz0]; rfl
 have e2 : Ev (fun n => z0a n b) (zan b) := by rw [zin, Ev.zz0]; rfl
 rw [zv7, Ev.kz0 e1, Ev.kz0 e2, zz1.yz4, zz1.yz4, Ev.kz0 (zuo _ _ (by rw [zi9]; omega)), Ev.zz0, ypj]
theorem yab {a b : zz3} (hs : a.size ≤ 8000000) : Ev (fun n => z3d n a b) (eqB a b) := by
 have := @y7m a
 have := @zwo a
 have hz : Ev (fun n => kzm n true b a) false := by rw [zg7, Ev.kz1 rfl, Ev.zz0]
 rw [zra, ydu, ybn, ybn, ztw, ybn]
 refine ync hz fun _ => ync hz fun _ => ync hz fun _ => ?_
 rw [Ev.kz0 (y63 (by omega))]
 refine ync hz fun _ => ?_
 by_cases hl : a.items.length = b.items.length
 case neg => simp only [yp6 hl, yql hl, Bool.false_and]; exact hz
 rw [ypo hl, zg7, Ev.zz2 (by rfl)]
 rw [← ifB (eqB a.items b.items)]
 refine zq5 (L := fun n k => z08 n k b a) hl (by rw [zg4, Ev.zz2 (by simp), Ev.zz0]) fun k hk hk' v hv => ?_
 have hx := List.getElem_mem hk
 have := y0s hx
 have := @y4b a.items[k]
 have l2 : ∀ c, Ev (fun n => kzu n (k : Int) (!c) b a) (if c = true then v else false) := fun c => by
  cases c
  ·rw [zg3, Ev.kz1 (by rfl), Ev.zz0]; rfl
  ·rw [zg3, Ev.zz2 (by rfl), wrk (by omega)]; exact hv
 rw [zg4, Ev.kz1 (by simpa using hk), Ev.kz2 (kz5 hk), Ev.kz2 (kz5 hk'), yob, ybn]
 cases h1 : eqB a.items[k].kind b.items[k].kind
 ·exact l2 false
 rw [Ev.zz2 (by rfl), Ev.kz2 (kz5 hk), Ev.kz2 (kz5 hk'), ztw]
 cases h2 : eqB a.items[k].name b.items[k].name
 ·exact l2 false
 rw [Ev.zz2 (by rfl), Ev.kz2 (kz5 hk), Ev.kz2 (kz5 hk'), Ev.kz0 (y63 (by omega))]
 exact l2 _
theorem ykh {a b : zz5} (hs : a.size ≤ 8000000) : Ev (fun n => z5d n a b) (eqB a b) := by
 have := @ydg a
 have := @zqr a
 have hz : Ev (fun n => z03 n true b a) false := by rw [zi1, Ev.kz1 rfl, Ev.zz0]
 rw [zu4, yp1, ybn, zz1.yz4, zz1.yz4, zz5.yz4, zz5.yz4, ybn]
 refine ync hz fun _ => ?_
 rw [Ev.kz0 (zuo _ _ (by omega))]
 refine ync hz fun _ => ?_
 by_cases hl : a.do_.length = b.do_.length
 case neg => simp only [yp6 hl, yql hl, Bool.false_and]; exact hz
 rw [ypo hl, zi1, Ev.zz2 (by rfl), zz5.yz4, zz5.yz4]
 rw [← ifB (eqB a.do_ b.do_)]
 refine zq5 (L := fun n k => z11 n k b a) hl (by rw [zi4, Ev.zz2 (by simp), Ev.zz0]) fun k hk hk' v hv => ?_
 have hx := List.getElem_mem hk
 have := ztr hx
 rw [zi4, Ev.kz1 (by simpa using hk), Ev.kz2 (kz5 hk), Ev.kz2 (kz5 hk'), Ev.kz0 (yab (by omega))]
 cases h1 : eqB a.do_[k] b.do_[k]
 ·rw [Ev.kz1 (by rfl), Ev.zz0]; rfl
 ·rw [Ev.zz2 (by rfl), wrk (by omega), zz5.yz4, zz5.yz4]; exact hv
theorem yki {a b : kz4} (hs : a.size ≤ 8000000) : Ev (fun n => z5o n a b) (eqB a b) := by
 have := @zr6 a
 have := @zr4 a
 have hz : Ev (fun n => z00 n true b a) false := by rw [zi7, Ev.kz1 rfl, Ev.zz0]
 rw [zu9, yox, ztw, ybn, ybn]
 refine ync hz fun _ => ?_
 by_cases hl : a.params.length = b.params.length
 case neg => simp only [yp6 hl, yql hl, Bool.false_and]; exact hz
 rw [ypo hl, Ev.zz2 (by rfl)]
 by_cases hm : a.cases.length = b.cases.length
 case neg => rw [yp6 hm, yql hm, Bool.and_false]; exact hz
 rw [ypo hm, zi7, Ev.zz2 (by rfl)]
 have e : (eqB a.params b.params && eqB a.cases b.cases) = if eqB a.params b.params = true then eqB a.cases b.cases else false := by cases eqB a.params b.params <;> rfl
 rw [e]
 refine zq5 (L := fun n k => z0y n k b a) hl ?_ fun k hk hk' v hv => ?_
 ·rw [zi8, Ev.zz2 (by simp), ← ifB (eqB a.cases b.cases)]
  refine zq5 (L := fun n k => z14 n k b a) hm (by rw [zhy, Ev.zz2 (by simp), Ev.zz0]) fun k hk hk' v hv => ?_
  have := zqh (List.getElem_mem hk)
  rw [zhy, Ev.kz1 (by simpa using hk), Ev.kz2 (kz5 hk), Ev.kz2 (kz5 hk'), zz5.yz4, zz5.yz4, Ev.kz0 (ykh (by omega))]
  cases h1 : eqB a.cases[k] b.cases[k]
  ·rw [Ev.kz1 (by rfl), Ev.zz0]; rfl
  ·rw [Ev.zz2 (by rfl), wrk (by omega)]; exact hv
 ·rw [zi8, Ev.kz1 (by simpa using hk), Ev.kz2 (kz5 hk), Ev.kz2 (kz5 hk'), ztw]
  cases h1 : eqB a.params[k] b.params[k]
  ·rw [Ev.kz1 (by rfl), Ev.zz0]; rfl
  ·rw [Ev.zz2 (by rfl), wrk (by omega)]; exact hv
theorem yn2 {a b : yz0} (hs : a.size ≤ 8000000) : Ev (fun n => zci n a b) (eqB a b) := by
 have := @zqk a
 have := @zi5 a
 have hz : Ev (fun n => z5w n true b a) false := by rw [zoh, Ev.kz1 rfl, Ev.zz0]
 rw [y8g, yoz, ybn, ybn]
 by_cases hl : a.attrs.length = b.attrs.length
 case neg => simp only [yp6 hl, yql hl, Bool.false_and]; exact hz
 rw [ypo hl, Ev.zz2 (by rfl)]
 by_cases hm : a.rules.length = b.rules.length
 case neg => rw [yp6 hm, yql hm, Bool.and_false]; exact hz
 rw [ypo hm, zoh, Ev.zz2 (by rfl)]
 have e : (eqB a.attrs b.attrs && eqB a.rules b.rules) = if eqB a.attrs b.attrs = true then eqB a.rules b.rules else false := by cases eqB a.attrs b.attrs <;> rfl
 rw [e]
 refine zq5 (L := fun n k => z5g n k b a) hl ?_ fun k hk hk' v hv => ?_
 ·rw [zop, Ev.zz2 (by simp), ← ifB (eqB a.rules b.rules)]
  refine zq5 (L := fun n k => z5p n k b a) hm (by rw [zof, Ev.zz2 (by simp), Ev.zz0]) fun k hk hk' v hv => ?_
  have := zis (List.getElem_mem hk)
  rw [zof, Ev.kz1 (by simpa using hk), Ev.kz2 (kz5 hk), Ev.kz2 (kz5 hk'), Ev.kz0 (yki (by omega))]
  cases h1 : eqB a.rules[k] b.rules[k]
  ·rw [Ev.kz1 (by rfl), Ev.zz0]; rfl
  ·rw [Ev.zz2 (by rfl), wrk (by omega)]; exact hv
 ·have := y6e (List.getElem_mem hk)
  have := @y31 a.attrs[k]
  have l2 : ∀ c, Ev (fun n => z5j n (k : Int) (!c) b a) (if c = true then v else false) := fun c => by
   cases c
   ·rw [zpk, Ev.kz1 (by rfl), Ev.zz0]; rfl
   ·rw [zpk, Ev.zz2 (by rfl), wrk (by omega)]; exact hv
  rw [zop, Ev.kz1 (by simpa using hk), Ev.kz2 (kz5 hk), Ev.kz2 (kz5 hk'), ztw, yoq]
  cases h1 : eqB a.attrs[k].name b.attrs[k].name
  ·exact l2 false
  ·rw [Ev.zz2 (by rfl), Ev.kz2 (kz5 hk), Ev.kz2 (kz5 hk'), zz1.yz4, zz1.yz4, Ev.kz0 (zuo _ _ (by omega))]
   exact l2 _
end Go.Proofs.YtflgdagdibabiaaGreat


namespace Go.Proofs.YtflgdagdibabiaaGreat
open Go Go.Ab
set_option linter.unusedVariables false
set_option linter.unusedSimpArgs false
theorem yo8 {c : zz5} (hs : c.size ≤ 8000000) : ∃ b, Ev (fun n => z6b n c) b := by
 have := @ydg c
 have := @zqr c
 have list : ∀ l : List zz1, Ev (fun n => z0a n l) (zan l) := fun l => by rw [zin, Ev.zz0]; rfl
 have l1 : ∃ b, Ev (fun n => kzz n 0 c) b := by
  refine zpe (L := fun n k => kzz n k c) (len := c.do_.length) ⟨false, by rw [zi0, Ev.zz2 (by simp), Ev.zz0]⟩ fun k hk v hv => ?_
  have ha := List.getElem_mem hk
  have hsa := ztr ha
  have := @y7m c.do_[k]
  have := @zwo c.do_[k]
  have l3 : ∃ b, Ev (fun n => z02 n 0 (k : Int) c) b := by
   refine zpe (L := fun n j => z02 n j (k : Int) c) (len := c.do_[k].items.length) ⟨v, by rw [zhz, Ev.kz2 (kz5 hk), Ev.zz2 (by simp), wrk (by omega), zz5.yz4]; exact hv⟩ fun j hj w hw => ?_
   have := y0s (List.getElem_mem hj)
   have := @y4b c.do_[k].items[j]
   have l4 : ∀ b, ∃ d, Ev (fun n => z0z n (k : Int) (j : Int) b c) d := fun b => by
    cases b
    ·exact ⟨w, by rw [zi6, Ev.zz2 (by rfl), wrk (by omega), zz5.yz4]; exact hw⟩
    ·exact ⟨true, by rw [zi6, Ev.kz1 (by rfl), Ev.zz0]⟩
   obtain ⟨g, hg⟩ := zm7 (e := zan c.do_[k].items[j].args) (by rw [zi9]; omega)
   simp only [zhz, Ev.kz2 (kz5 hk)]
   simp only [Ev.kz1 (show decide ((j : Int) < (c.do_[k].items.length : Int)) = true by simpa using hj), Ev.kz2 (kz5 hk), Ev.kz2 (kz5 hj), Ev.kz0 (list _), zz1.yz4, zz5.yz4, Ev.kz0 hg, Ev.pif]
   split <;> exact l4 _
  have l2 : ∀ b, ∃ d, Ev (fun n => z01 n (k : Int) b c) d := fun b => by
   cases b
   ·obtain ⟨d, hd⟩ := l3; exact ⟨d, by rw [zhw, Ev.zz2 (by rfl), zz5.yz4]; exact hd⟩
   ·exact ⟨true, by rw [zhw, Ev.kz1 (by rfl), Ev.zz0]⟩
  obtain ⟨g, hg⟩ := zm7 (e := zan c.do_[k].args) (by rw [zi9]; omega)
  simp only [zi0, Ev.kz1 (show decide ((k : Int) < (c.do_.length : Int)) = true by simpa using hk), Ev.kz2 (kz5 hk), Ev.kz0 (list _), zz1.yz4, zz5.yz4, Ev.kz0 hg, Ev.pif]
  split
  ·exact l2 _
  ·split <;> exact l2 _
 have l0 : ∀ b, ∃ d, Ev (fun n => z0x n b c) d := fun b => by
  cases b
  ·obtain ⟨d, hd⟩ := l1; exact ⟨d, by rw [zi3, Ev.zz2 (by rfl), zz5.yz4]; exact hd⟩
  ·exact ⟨true, by rw [zi3, Ev.kz1 (by rfl), Ev.zz0]⟩
 obtain ⟨g, hg⟩ := zm7 (e := c.when_) (by omega)
 simp only [zud, Ev.pif, zz5.yz4, zz1.yz4, Ev.kz0 hg]
 split <;> exact l0 _
theorem yud {p : yz0} (hs : p.size ≤ 8000000) : ∃ b, Ev (fun n => z96 n p) b := by
 have := @zqk p
 have := @zi5 p
 have l3 : ∃ b, Ev (fun n => z1y n 0 p) b := by
  refine zpe (L := fun n k => z1y n k p) (len := p.rules.length) ⟨false, by rw [zlz, Ev.zz2 (by simp), Ev.zz0]⟩ fun k hk v hv => ?_
  have hsa := zis (List.getElem_mem hk)
  have := @zr6 p.rules[k]
  have := @zr4 p.rules[k]
  have l6 : ∃ b, Ev (fun n => z23 n 0 (k : Int) p.rules[k] p) b := by
   refine zpe (L := fun n j => z23 n j (k : Int) p.rules[k] p) (len := p.rules[k].cases.length) ⟨v, by rw [zlu, Ev.zz2 (by simp), wrk (by omega)]; exact hv⟩ fun j hj w hw => ?_
   obtain ⟨g, hg⟩ := yo8 (c := p.rules[k].cases[j]) (by have := zqh (List.getElem_mem hj); omega)
   simp only [zlu (a0 := (j : Int)), Ev.kz1 (show decide ((j : Int) < (p.rules[k].cases.length : Int)) = true by simpa using hj), Ev.kz2 (kz5 hj), zz5.yz4, Ev.kz0 hg]
   simp only [Ev.pif]
   split
   ·exact ⟨true, Ev.pure rfl⟩
   ·exact ⟨w, by rw [wrk (by omega)]; exact hw⟩
  have l5 : ∃ b, Ev (fun n => z1x n 0 (k : Int) p.rules[k] p) b := by
   obtain ⟨d, hd⟩ := l6
   refine zpe (L := fun n j => z1x n j (k : Int) p.rules[k] p) (len := p.rules[k].params.length) ⟨d, by rw [zlt, Ev.zz2 (by simp)]; exact hd⟩ fun j hj w hw => ?_
   simp only [zlt (a0 := (j : Int)), Ev.kz1 (show decide ((j : Int) < (p.rules[k].params.length : Int)) = true by simpa using hj), Ev.kz2 (kz5 hj), Ev.pif]
   split
   ·exact ⟨true, Ev.pure rfl⟩
   ·exact ⟨w, by rw [wrk (by omega)]; exact hw⟩
  have l4 : ∀ b, ∃ d, Ev (fun n => z25 n (k : Int) b p.rules[k] p) d := fun b => by
   cases b
   ·obtain ⟨d, hd⟩ := l5; exact ⟨d, by rw [zn4, Ev.zz2 (by rfl)]; exact hd⟩
   ·exact ⟨true, by rw [zn4, Ev.kz1 (by rfl), Ev.zz0]⟩
  simp only [zlz, Ev.kz1 (show decide ((k : Int) < (p.rules.length : Int)) = true by simpa using hk), Ev.kz2 (kz5 hk), Ev.pif]
  split
  ·exact l4 _
  ·split <;> exact l4 _
 have l1 : ∃ b, Ev (fun n => z1z n 0 p) b := by
  obtain ⟨d, hd⟩ := l3
  refine zpe (L := fun n k => z1z n k p) (len := p.attrs.length) ⟨d, by rw [zlw, Ev.zz2 (by simp)]; exact hd⟩ fun k hk v hv => ?_
  have := y6e (List.getElem_mem hk)
  have := @y31 p.attrs[k]
  have l2 : ∀ b, ∃ d, Ev (fun n => z4n n (k : Int) b p) d := fun b => by
   cases b
   ·exact ⟨v, by rw [zma, Ev.zz2 (by rfl), wrk (by omega)]; exact hv⟩
   ·exact ⟨true, by rw [zma, Ev.kz1 (by rfl), Ev.zz0]⟩
  obtain ⟨g, hg⟩ := zm7 (e := p.attrs[k].value) (by omega)
  simp only [zlw, Ev.kz1 (show decide ((k : Int) < (p.attrs.length : Int)) = true by simpa using hk), Ev.kz2 (kz5 hk), zz1.yz4, Ev.kz0 hg, Ev.pif]
  split <;> exact l2 _
 have l0 : ∀ b, ∃ d, Ev (fun n => z4r n b p) d := fun b => by
  cases b
  ·obtain ⟨d, hd⟩ := l1; exact ⟨d, by rw [zm4, Ev.zz2 (by rfl)]; exact hd⟩
  ·exact ⟨true, by rw [zm4, Ev.kz1 (by rfl), Ev.zz0]⟩
 simp only [y3q, Ev.pif]
 split <;> exact l0 _
def zuj (c : zz5) : Bool := decide (10 < c.do_.length) || c.do_.any fun a => decide (10 < a.items.length)
def zuc (r : kz4) : Bool := decide (4 < r.params.length) || (decide (6 < r.cases.length) || r.cases.any zuj)
def y06 (p : yz0) : Bool := decide (20 < p.attrs.length) || (decide (40 < p.rules.length) || p.rules.any zuc)
theorem gt4 {k : Nat} : decide ((k : Int) > 4) = decide (4 < k) := decide_eq_decide.2 (by omega)
theorem gt6 {k : Nat} : decide ((k : Int) > 6) = decide (6 < k) := decide_eq_decide.2 (by omega)
theorem gt10 {k : Nat} : decide ((k : Int) > 10) = decide (10 < k) := decide_eq_decide.2 (by omega)
theorem gt20 {k : Nat} : decide ((k : Int) > 20) = decide (20 < k) := decide_eq_decide.2 (by omega)
theorem gt40 {k : Nat} : decide ((k : Int) > 40) = decide (40 < k) := decide_eq_decide.2 (by omega)
theorem orB {c d : Bool} {γ : Type} {x y : γ} : (if (c || d) = true then x else y) = if c = true then x else if d = true then x else y := by cases c <;> rfl
theorem yn4 {p : yz0} (hs : p.size ≤ 8000000) : Ev (fun n => zc8 n p) (y06 p) := by
 have := @zqk p
 have := @zi5 p
 have l1 : Ev (fun n => z3a n 0 p.rules (p.rules.length : Int)) (if p.rules.any zuc = true then true else false) := by
  refine zmq (L := fun n k => z3a n k p.rules (p.rules.length : Int)) (by rw [znw, Ev.zz2 (by simp), Ev.zz0]) fun k hk v hv => ?_
  have := zis (List.getElem_mem hk)
  have := @zr6 p.rules[k]
  have := @zr4 p.rules[k]
  have l3 : Ev (fun n => z3c n 0 p.rules[k].cases p.rules (p.rules.length : Int) (k : Int) (p.rules[k].cases.length : Int)) (if p.rules[k].cases.any zuj = true then true else v) := by
   refine zmq (L := fun n j => z3c n j p.rules[k].cases p.rules (p.rules.length : Int) (k : Int) (p.rules[k].cases.length : Int)) (by rw [zp2, Ev.zz2 (by simp), wrk (by omega)]; exact hv) fun j hj w hw => ?_
   have := zqh (List.getElem_mem hj)
   have := @zqr p.rules[k].cases[j]
   have l4 : ∀ b, Ev (fun n => z5x n p.rules[k].cases p.rules (p.rules.length : Int) (k : Int) (p.rules[k].cases.length : Int) (j : Int) b) (if b = true then true else w) := fun b => by
    cases b
    ·rw [znz, Ev.zz2 (by rfl), wrk (by omega)]; exact hw
    ·rw [znz, Ev.kz1 (by rfl), Ev.zz0]; rfl
   obtain ⟨i, h1, h2⟩ := zyf (S := fun n x => z9o n x) (l := p.rules[k].cases[j].do_) (p := fun a => decide (10 < a.items.length)) (L := fun n k l m => kze n k l m) (fun n k => kze.eq_2 _ _ _ n) (by omega) fun x hx => by
    rw [y18, Ev.zz0]; exact gt10
   have hc : Ev (fun n => zzf n p.rules[k].cases[j].do_) (p.rules[k].cases[j].do_.any fun a => decide (10 < a.items.length)) := by
    rw [zax, Ev.kz0 (by rw [zc2]; exact h1), Ev.zz0, h2]
   rw [zp2, Ev.kz1 (by simpa using hj), Ev.kz2 (kz5 hj), zuj, orB, Ev.pif, gt10]
   split
   ·exact l4 true
   ·rw [Ev.kz0 hc]; exact l4 _
  have l2 : ∀ b, Ev (fun n => z5r n p.rules (p.rules.length : Int) (k : Int) b p.rules[k]) (if b = true then true else if p.rules[k].cases.any zuj = true then true else v) := fun b => by
   cases b
   ·rw [zns, Ev.zz2 (by rfl)]; exact l3
   ·rw [zns, Ev.kz1 (by rfl), Ev.zz0]; rfl
  rw [znw, Ev.kz1 (by simpa using hk), Ev.kz2 (kz5 hk), zuc, orB, orB, Ev.pif, gt4, gt6]
  split
  ·exact l2 true
  ·exact l2 _
 have l0 : ∀ b, Ev (fun n => z69 n b p) (b || p.rules.any zuc) := fun b => by
  cases b
  ·rw [zoc, Ev.zz2 (by rfl), ifB] at *; exact l1
  ·rw [zoc, Ev.kz1 (by rfl), Ev.zz0]; rfl
 rw [yck, Ev.pif, gt20, gt40, y06]
 split
 ·rename_i h; rw [h]; exact l0 true
 ·rename_i h; simp only [h, Bool.false_or]; exact l0 _
theorem ynz {p : yz0} (hs : p.size ≤ 8000000) : Ev (fun n => zck n p) (y06 p) := by
 have := @zqk p
 have := @zi5 p
 have l1 : Ev (fun n => z36 n 0 p) (if p.rules.any zuc = true then true else false) := by
  refine zmq (L := fun n k => z36 n k p) (by rw [zpl, Ev.zz2 (by simp), Ev.zz0]) fun k hk v hv => ?_
  have := zis (List.getElem_mem hk)
  have := @zr6 p.rules[k]
  have := @zr4 p.rules[k]
  have l3 : Ev (fun n => z35 n 0 (k : Int) p.rules[k] p) (if p.rules[k].cases.any zuj = true then true else v) := by
   refine zmq (L := fun n j => z35 n j (k : Int) p.rules[k] p) (by rw [zo6, Ev.zz2 (by simp), wrk (by omega)]; exact hv) fun j hj w hw => ?_
   have := zqh (List.getElem_mem hj)
   have := @zqr p.rules[k].cases[j]
   have l4 : Ev (fun n => z38 n 0 (j : Int) (k : Int) p.rules[k] p) (if (p.rules[k].cases[j].do_.any fun a => decide (10 < a.items.length)) = true then true else w) := by
    refine zmq (L := fun n i => z38 n i (j : Int) (k : Int) p.rules[k] p) (by rw [zog, Ev.kz2 (kz5 hj), Ev.zz2 (by simp), wrk (by omega)]; exact hw) fun i hi u hu => ?_
    rw [zog, Ev.kz2 (kz5 hj), Ev.kz1 (by simpa using hi), Ev.kz2 (kz5 hj), Ev.kz2 (kz5 hi), Ev.pif, gt10, wrk (by omega), Ev.zz0]
    split
    ·rfl
    ·exact hu
   rw [zo6, Ev.kz1 (by simpa using hj), Ev.kz2 (kz5 hj), zuj, orB, Ev.pif, gt10]
   split
   ·exact Ev.pure rfl
   ·exact l4
  have l2 : ∀ b, Ev (fun n => z6j n (k : Int) b p.rules[k] p) (if b = true then true else if p.rules[k].cases.any zuj = true then true else v) := fun b => by
   cases b
   ·rw [zot, Ev.zz2 (by rfl)]; exact l3
   ·rw [zot, Ev.kz1 (by rfl), Ev.zz0]; rfl
  rw [zpl, Ev.kz1 (by simpa using hk), Ev.kz2 (kz5 hk), zuc, orB, orB, Ev.pif, gt4, gt6]
  split
  ·exact l2 true
  ·exact l2 _
 have l0 : ∀ b, Ev (fun n => z67 n b p) (b || p.rules.any zuc) := fun b => by
  cases b
  ·rw [zoj, Ev.zz2 (by rfl), ifB] at *; exact l1
  ·rw [zoj, Ev.kz1 (by rfl), Ev.zz0]; rfl
 rw [y9o, Ev.pif, gt20, gt40, y06]
 split
 ·rename_i h; rw [h]; exact l0 true
 ·rename_i h; simp only [h, Bool.false_or]; exact l0 _
end Go.Proofs.YtflgdagdibabiaaGreat


namespace Go.Proofs.YtflgdagdibabiaaGreat
open Go Go.Ab
set_option linter.unusedVariables false
set_option linter.unusedSimpArgs false
def kept : List (List UInt8) := [[116, 114, 117, 101], [102, 97, 108, 115, 101], [115, 120], [115, 121], [115, 122]]
def zaq (s : List UInt8) : Bool := zje s && !(kept.any fun x => s == x)
theorem zj1 {s : List UInt8} (hs : s.length ≤ 8388608) : Ev (fun n => z2e n s) (zaq s) := by
 obtain ⟨i, h1, h2⟩ := zyf (S := fun n x => some (s == x)) (l := kept) (p := fun x => s == x) (L := fun n k l m => kzf n k l s m) (fun n k => kzf.eq_2 _ _ _ _ n) (by decide) fun x hx => Ev.pure rfl
 have hc : Ev (fun n => yzp n kept s) (kept.any fun x => s == x) := by
  rw [zgk, Ev.kz0 (by rw [zbl]; exact h1), Ev.zz0, h2]
 rw [y5a, Ev.kz0 (y6b hs), zaq]
 refine zsy fun _ => ?_
 exact (Ev.kz0 hc).2 (Ev.pure rfl)
theorem zkq {s : List UInt8} (hs : s.length ≤ 8388608) : Ev (fun n => z3j n s) (zaq s) := by
 have h1 : Ev (fun n => z9l n s) ((s == [115, 120]) || ((s == [115, 121]) || (s == [115, 122]))) := by
  rw [y1i, Ev.pif]
  split
  ·rename_i h; rw [h]; exact Ev.pure rfl
  ·rename_i h; rw [Ev.pif]; simp only [h, Bool.false_or]; split
   ·rename_i h; rw [h]; exact Ev.pure rfl
   ·rename_i h; simp only [h, Bool.false_or]; exact Ev.pure rfl
 have e : zaq s = (zje s && (!(s == [116, 114, 117, 101]) && (!(s == [102, 97, 108, 115, 101]) && !((s == [115, 120]) || ((s == [115, 121]) || (s == [115, 122])))))) := by
  simp only [zaq, kept, List.any_cons, List.any_nil, Bool.or_false, Bool.not_or]
 rw [ybt, Ev.kz0 (y5v hs), e]
 refine zsy fun _ => zsy fun _ => zsy fun _ => ?_
 rw [Ev.kz0 h1, Ev.zz0]
theorem ydm : zaq [] = false := rfl
theorem ymm {α : Type} {l : List α} : decide ((l.length : Int) > 0) = !l.isEmpty := by cases l <;> simp
theorem sc_t {α : Type} {k : Int} {l : List α} (h : ¬ (k = 5 ↔ l ≠ [])) : (!((k == 5) == decide ((l.length : Int) > 0))) = true := by
 rw [ymm]; cases l <;> by_cases q : k = 5 <;> simp_all
theorem sc_f {α : Type} {k : Int} {l : List α} (h : k = 5 ↔ l ≠ []) : (!((k == 5) == decide ((l.length : Int) > 0))) = false := by
 rw [ymm]; cases l <;> by_cases q : k = 5 <;> simp_all
def own (k : Int) : Int := if k = 2 ∨ k = 3 then 3 else if k = 4 ∨ k = 6 then 1 else 0
theorem zyo {k : Int} : Ev (fun n => z9x n k) (own k) := by
 have l1 : ∀ b, Ev (fun n => z7o n b) (if b = true then 1 else 0) := fun b => by cases b <;> rw [y1g] <;> exact Ev.pure rfl
 have l0 : ∀ b, Ev (fun n => z80 n k b) (if b = true then 3 else if k = 4 ∨ k = 6 then 1 else 0) := fun b => by
  rw [y2f, Ev.pif]
  split
  ·exact Ev.pure rfl
  ·rw [Ev.pif]
   split
   ·rename_i h; rw [if_pos (.inl (by simpa using h))]; exact l1 true
   ·rename_i h
    have h : k ≠ 4 := by simpa using h
    refine (l1 _).to ?_
    by_cases q : k = 6 <;> simp [q, h]
 rw [yhd, Ev.pif, own]
 split
 ·rename_i h; rw [if_pos (.inl (by simpa using h))]; exact l0 true
 ·rename_i h
  have h : k ≠ 2 := by simpa using h
  refine (l0 _).to ?_
  by_cases q : k = 3 <;> simp [q, h]
theorem yde {k : Int} : Ev (fun n => zc1 n k) (own k) := by
 have l1 : ∀ b, Ev (fun n => z81 n b) (if b = true then 1 else 0) := fun b => by cases b <;> rw [y1l] <;> exact Ev.pure rfl
 have l0 : ∀ b, Ev (fun n => z7u n k b) (if b = true then 3 else if k = 4 ∨ k = 6 then 1 else 0) := fun b => by
  rw [y1n, Ev.pif]
  split
  ·exact Ev.pure rfl
  ·rw [Ev.pif]
   split
   ·rename_i h; rw [if_pos (.inl (by simpa using h))]; exact l1 true
   ·rename_i h
    have h : k ≠ 4 := by simpa using h
    refine (l1 _).to ?_
    by_cases q : k = 6 <;> simp [q, h]
 rw [yf2, Ev.pif, own]
 split
 ·rename_i h; rw [if_pos (.inl (by simpa using h))]; exact l0 true
 ·rename_i h
  have h : k ≠ 2 := by simpa using h
  refine (l0 _).to ?_
  by_cases q : k = 3 <;> simp [q, h]
noncomputable def y57 (x : zza) : Bool := decide (1 ≤ x.kind) && (decide (x.kind ≤ 3) && (zaq x.name && (!x.args.isEmpty && (z9d (zan x.args) == 0))))
def ynk (a : zz3) : Prop := (1 ≤ a.kind ∧ a.kind ≤ 6) ∧ (a.axis ≤ if a.kind = 4 ∨ a.kind = 5 then 2 else 0) ∧ (if a.kind ≤ 4 then zaq a.name = true else a.name = []) ∧ z9d (zan a.args) = 0 ∧ (own a.kind ≤ a.args.length) ∧ (4 < a.kind → (a.args.length : Int) = own a.kind) ∧ (a.kind = 5 ↔ a.items ≠ []) ∧ a.items.all y57 = true
noncomputable def z3g (a : zz3) : Bool := @decide (ynk a) (Classical.propDecidable _)
theorem zr7 {a : zz3} : z3g a = true ↔ ynk a := @decide_eq_true_iff _ (Classical.propDecidable _)
theorem z9h {a : zz3} (h : ¬ ynk a) : z3g a = false := @decide_eq_false _ (Classical.propDecidable _) h
theorem yds {l : List zz1} (hw : (zan l).wf) (hs : (l.map zz1.size).sum ≤ 8000000) : Ev (fun n => z2d n (zan l)) (z9d (zan l)) := zpo hw (by rw [zi9]; omega)
theorem neI {k : Int} : (k != 0) = !(k == 0) := rfl
theorem yml {a : zz3} (hw : a.wf) (hs : a.size ≤ 8000000) : Ev (fun n => z54 n a) (z3g a) := by
 have := @y7m a
 have := @zwo a
 have := @yue a
 have list : ∀ l : List zz1, Ev (fun n => zab n l) (zan l) := fun l => by rw [yc7, Ev.zz0]; rfl
 obtain ⟨⟨hk0, hk1⟩, hx0, hx1⟩ := yul hw
 have l6 : Ev (fun n => kzx n 0 a.items (a.items.length : Int)) (if a.items.all y57 = true then true else false) := by
  refine zak (L := fun n k => kzx n k a.items (a.items.length : Int)) (by rw [zgw, Ev.zz2 (by simp), Ev.zz0]) fun k hk v hv => ?_
  have hx := List.getElem_mem hk
  have := y0s hx
  have := @y4b a.items[k]
  have := @yu6 a.items[k]
  have l7 : ∀ b, Ev (fun n => kzn n a.items (a.items.length : Int) (k : Int) (!b)) (if b = true then v else false) := fun b => by
   cases b
   ·rw [zgp, Ev.kz1 (by rfl), Ev.zz0]; rfl
   ·rw [zgp, Ev.zz2 (by rfl), wrk (by omega)]; exact hv
  rw [zgw, Ev.kz1 (by simpa using hk), Ev.kz2 (kz5 hk), y57]
  generalize a.items[k] = x at *
  by_cases h1 : 1 ≤ x.kind
  case neg => rw [Ev.kz1 (by simp; omega), decide_eq_false h1]; exact l7 false
  rw [Ev.zz2 (by simp; omega), decide_eq_true h1]
  by_cases h2 : x.kind ≤ 3
  case neg => rw [Ev.kz1 (by simp; omega), decide_eq_false h2]; exact l7 false
  rw [Ev.zz2 (by simp; omega), decide_eq_true h2, Ev.kz0 (zj1 (by omega))]
  cases h3 : zaq x.name
  ·exact l7 false
  rw [Ev.zz2 (by rfl)]
  cases h4 : x.args.isEmpty
  case true => rw [Ev.kz1 (by rw [List.isEmpty_iff.1 h4]; rfl)]; exact l7 false
  have h4' : x.args ≠ [] := by intro h; rw [h] at h4; cases h4
  have h4' : x.args.length ≠ 0 := by intro h; exact h4' (List.length_eq_zero_iff.1 h)
  rw [Ev.zz2 (by simpa using h4'), Ev.kz0 (list _), zz1.yz4, Ev.kz0 (yds (wf_xa (yuk hw hx)) (by omega)), neI]
  exact l7 _
 have l5 : ∀ b, (b = false → ((1 ≤ a.kind ∧ a.kind ≤ 6) ∧ (a.axis ≤ if a.kind = 4 ∨ a.kind = 5 then 2 else 0) ∧ (if a.kind ≤ 4 then zaq a.name = true else a.name = []) ∧ z9d (zan a.args) = 0 ∧ (own a.kind ≤ a.args.length) ∧ (4 < a.kind → (a.args.length : Int) = own a.kind))) → (b = true → ¬ ynk a) → Ev (fun n => yzs n b a) (z3g a) := fun b hf ht => by
  cases b
  case true => rw [zhh, Ev.kz1 (by rfl), Ev.zz0, z9h (ht rfl)]
  obtain ⟨g1, g2, g3, g4, g5, g6⟩ := hf rfl
  rw [zhh, Ev.zz2 (by rfl)]
  by_cases h : a.kind = 5 ↔ a.items ≠ []
  case neg =>
   rw [Ev.kz1 (sc_t h), Ev.zz0, z9h (fun q => h q.2.2.2.2.2.2.1)]
  rw [Ev.zz2 (sc_f h)]
  refine l6.to ?_
  by_cases q : a.items.all y57 = true
  ·rw [if_pos q, zr7.2 ⟨g1, g2, g3, g4, g5, g6, h, q⟩]
  ·rw [if_neg q, z9h (fun z => q z.2.2.2.2.2.2.2)]
 have l4 : ∀ c : Bool, (c = decide (1 ≤ a.kind ∧ a.kind ≤ 4)) → ((1 ≤ a.kind ∧ a.kind ≤ 6) ∧ (a.axis ≤ if a.kind = 4 ∨ a.kind = 5 then 2 else 0)) → ∀ b, (b = false → (if a.kind ≤ 4 then zaq a.name = true else a.name = [])) → (b = true → ¬ ynk a) → Ev (fun n => kzw n c b a) (z3g a) := fun c hc hg b hf ht => by
  cases b
  case true => rw [zgj, Ev.kz1 (by rfl), Ev.zz0, z9h (ht rfl)]
  have g3 := hf rfl
  rw [zgj, Ev.zz2 (by rfl), Ev.kz0 (list _), zz1.yz4, Ev.kz0 (yds (wf_aa hw) (by omega))]
  by_cases h1 : z9d (zan a.args) = 0
  case neg => rw [Ev.kz1 (by simpa using h1)]; exact l5 true (fun h => by cases h) fun _ q => h1 q.2.2.2.1
  rw [Ev.zz2 (by simpa using h1), Ev.kz0 zyo]
  by_cases h2 : own a.kind ≤ a.args.length
  case neg => rw [Ev.kz1 (by simp; omega)]; exact l5 true (fun h => by cases h) fun _ q => h2 q.2.2.2.2.1
  rw [Ev.zz2 (by simp; omega)]
  cases hcc : c
  ·rw [Ev.kz1 (by rfl), Ev.kz0 zyo]
   have hk4 : 4 < a.kind := by rw [hcc] at hc; have := of_decide_eq_false hc.symm; omega
   refine l5 _ (fun h => ⟨hg.1, hg.2, g3, h1, h2, fun _ => by simpa using h⟩) fun h q => ?_
   have := q.2.2.2.2.2.1 hk4
   simp [this] at h
  ·rw [Ev.zz2 (by rfl)]
   have hk4 : a.kind ≤ 4 := by rw [hcc] at hc; have := of_decide_eq_true hc.symm; omega
   exact l5 _ (fun h => ⟨hg.1, hg.2, g3, h1, h2, fun h => by omega⟩) fun h => by cases h
 have l3 : ∀ c : Bool, (c = decide (1 ≤ a.kind ∧ a.kind ≤ 4)) → ∀ b, (b = false → ((1 ≤ a.kind ∧ a.kind ≤ 6) ∧ (a.axis ≤ if a.kind = 4 ∨ a.kind = 5 then 2 else 0))) → (b = true → ¬ ynk a) → Ev (fun n => zzy n c b a) (z3g a) := fun c hc b hf ht => by
  cases b
  case true => rw [zhb, Ev.kz1 (by rfl), Ev.zz0, z9h (ht rfl)]
  have hg := hf rfl
  rw [zhb, Ev.zz2 (by rfl), Ev.kz0 (zj1 (by omega))]
  by_cases hk4 : a.kind ≤ 4
  ·rw [decide_eq_true (by omega)] at hc
   subst hc
   cases hn : zaq a.name
   ·exact l4 true (by rw [decide_eq_true (by omega)]) hg true (fun h => by cases h) fun _ q => by have := q.2.2.1; rw [if_pos hk4, hn] at this; cases this
   ·exact l4 true (by rw [decide_eq_true (by omega)]) hg false (fun _ => by rw [if_pos hk4, hn]) fun h => by cases h
  ·rw [decide_eq_false (by omega)] at hc
   subst hc
   cases hn : zaq a.name
   ·rw [Ev.zz2 (by rfl), Ev.kz1 (by rfl)]
    refine l4 false (by rw [decide_eq_false (by omega)]) hg _ (fun h => by rw [if_neg hk4]; simpa using h) fun h q => ?_
    have := q.2.2.1
    rw [if_neg hk4] at this
    rw [this] at h; cases h
   ·exact l4 false (by rw [decide_eq_false (by omega)]) hg true (fun h => by cases h) fun _ q => by
     have := q.2.2.1
     rw [if_neg hk4] at this
     rw [this, ydm] at hn; cases hn
 have l2 : ∀ c : Bool, (c = decide (1 ≤ a.kind ∧ a.kind ≤ 4)) → ∀ x : Int, x = (if a.kind = 4 ∨ a.kind = 5 then 2 else 0) → Ev (fun n => z0h n c x a) (z3g a) := fun c hc x hx => by
  rw [zpv]
  by_cases h1 : 1 ≤ a.kind
  case neg => rw [Ev.kz1 (by simp; omega)]; exact l3 c hc true (fun h => by cases h) fun _ q => h1 q.1.1
  rw [Ev.zz2 (by simp; omega)]
  by_cases h2 : a.kind ≤ 6
  case neg => rw [Ev.kz1 (by simp; omega)]; exact l3 c hc true (fun h => by cases h) fun _ q => h2 q.1.2
  rw [Ev.zz2 (by simp; omega), hx]
  refine l3 c hc _ (fun h => ⟨⟨h1, h2⟩, by have := of_decide_eq_false h; omega⟩) fun h q => ?_
  have := of_decide_eq_true h
  have := q.2.1
  omega
 have l1 : ∀ c : Bool, (c = decide (1 ≤ a.kind ∧ a.kind ≤ 4)) → ∀ b : Bool, b = decide (a.kind = 4 ∨ a.kind = 5) → Ev (fun n => z0i n c 0 b a) (z3g a) := fun c hc b hb => by
  rw [zqa]
  by_cases h : a.kind = 4 ∨ a.kind = 5
  ·rw [hb, decide_eq_true h, Ev.kz1 rfl]; exact l2 c hc _ (by rw [if_pos h])
  ·rw [hb, decide_eq_false h, Ev.zz2 rfl]; exact l2 c hc _ (by rw [if_neg h])
 have l0 : ∀ c : Bool, (c = decide (1 ≤ a.kind ∧ a.kind ≤ 4)) → Ev (fun n => z0f n c a) (z3g a) := fun c hc => by
  rw [zq0]
  by_cases h : a.kind = 4
  ·rw [Ev.kz1 (by simpa using h)]; exact l1 c hc true (by rw [decide_eq_true (.inl h)])
  ·rw [Ev.zz2 (by simpa using h)]; exact l1 c hc _ (by by_cases q : a.kind = 5 <;> simp [q, h])
 rw [zt8]
 by_cases h : 1 ≤ a.kind
 ·rw [Ev.kz1 (by simpa using h)]; exact l0 _ (by simp [h])
 ·rw [Ev.zz2 (by simpa using h)]; exact l0 _ (by simp [h])
theorem yo2 {a : zz3} (hw : a.wf) (hs : a.size ≤ 8000000) : Ev (fun n => z9k n a) (z3g a) := by
 have := @y7m a
 have := @zwo a
 have := @yue a
 have list : ∀ l : List zz1, Ev (fun n => z0a n l) (zan l) := fun l => by rw [zin, Ev.zz0]; rfl
 obtain ⟨⟨hk0, hk1⟩, hx0, hx1⟩ := yul hw
 have l6 : Ev (fun n => z1g n 0 a) (if a.items.all y57 = true then true else false) := by
  refine zak (L := fun n k => z1g n k a) (by rw [zkd, Ev.zz2 (by simp), Ev.zz0]) fun k hk v hv => ?_
  have hx := List.getElem_mem hk
  have := y0s hx
  have := @y4b a.items[k]
  have := @yu6 a.items[k]
  have l7 : ∀ b, Ev (fun n => kzy n (k : Int) (!b) a) (if b = true then v else false) := fun b => by
   cases b
   ·rw [zle, Ev.kz1 (by rfl), Ev.zz0]; rfl
   ·rw [zle, Ev.zz2 (by rfl), wrk (by omega)]; exact hv
  rw [zkd, Ev.kz1 (by simpa using hk), Ev.kz2 (kz5 hk), y57]
  generalize a.items[k] = x at *
  by_cases h1 : 1 ≤ x.kind
  case neg => rw [Ev.kz1 (by simp; omega), decide_eq_false h1]; exact l7 false
  rw [Ev.zz2 (by simp; omega), decide_eq_true h1]
  by_cases h2 : x.kind ≤ 3
  case neg => rw [Ev.kz1 (by simp; omega), decide_eq_false h2]; exact l7 false
  rw [Ev.zz2 (by simp; omega), decide_eq_true h2, Ev.kz0 (zkq (by omega))]
  cases h3 : zaq x.name
  ·exact l7 false
  rw [Ev.zz2 (by rfl)]
  cases h4 : x.args.isEmpty
  case true => rw [Ev.kz1 (by rw [List.isEmpty_iff.1 h4]; rfl)]; exact l7 false
  have h4' : x.args ≠ [] := by intro h; rw [h] at h4; cases h4
  have h4' : x.args.length ≠ 0 := by intro h; exact h4' (List.length_eq_zero_iff.1 h)
  rw [Ev.zz2 (by simpa using h4'), Ev.kz0 (list _), zz1.yz4, Ev.kz0 (zg1 (by rw [zi9]; omega)), neI]
  exact l7 _
 have l5 : ((1 ≤ a.kind ∧ a.kind ≤ 6) ∧ (a.axis ≤ if a.kind = 4 ∨ a.kind = 5 then 2 else 0) ∧ (if a.kind ≤ 4 then zaq a.name = true else a.name = []) ∧ z9d (zan a.args) = 0 ∧ (own a.kind ≤ a.args.length) ∧ (4 < a.kind → (a.args.length : Int) = own a.kind)) → Ev (fun n => z34 n a) (z3g a) := fun ⟨g1, g2, g3, g4, g5, g6⟩ => by
  rw [zv5]
  by_cases h : a.kind = 5 ↔ a.items ≠ []
  case neg =>
   rw [Ev.kz1 (sc_t h), Ev.zz0, z9h (fun q => h q.2.2.2.2.2.2.1)]
  rw [Ev.zz2 (sc_f h)]
  refine l6.to ?_
  by_cases q : a.items.all y57 = true
  ·rw [if_pos q, zr7.2 ⟨g1, g2, g3, g4, g5, g6, h, q⟩]
  ·rw [if_neg q, z9h (fun z => q z.2.2.2.2.2.2.2)]
 have l4 : (1 ≤ a.kind ∧ a.kind ≤ 6) ∧ (a.axis ≤ if a.kind = 4 ∨ a.kind = 5 then 2 else 0) ∧ z9d (zan a.args) = 0 ∧ own a.kind ≤ a.args.length → 4 < a.kind → ∀ b : Bool, (b = true ↔ ¬ (a.name = [] ∧ (a.args.length : Int) = own a.kind)) → Ev (fun n => zzu n b a) (z3g a) := fun ⟨g1, g2, g4, g5⟩ hk b hb => by
  cases b
  case true => rw [zl5, Ev.kz1 (by rfl), Ev.zz0, z9h]; exact fun q => hb.1 rfl ⟨by have := q.2.2.1; rwa [if_neg (by omega)] at this, q.2.2.2.2.2.1 hk⟩
  obtain ⟨q1, q2⟩ := Classical.byContradiction fun q => Bool.noConfusion (hb.2 q)
  rw [zl5, Ev.zz2 (by rfl)]
  exact l5 ⟨g1, g2, by rw [if_neg (by omega)]; exact q1, g4, g5, fun _ => q2⟩
 have l2 : (1 ≤ a.kind ∧ a.kind ≤ 6) ∧ (a.axis ≤ if a.kind = 4 ∨ a.kind = 5 then 2 else 0) ∧ z9d (zan a.args) = 0 ∧ own a.kind ≤ a.args.length → Ev (fun n => z2w n a) (z3g a) := fun hg => by
  have nm : decide ((a.name.length : Int) > 0) = !(a.name == []) := by rw [ymm]; cases a.name <;> rfl
  rw [zut]
  by_cases h5 : a.kind = 5
  ·rw [Ev.kz1 (by simpa using h5), zfs, Ev.kz1 (by rfl), nm]
   have ho : own a.kind = 0 := by rw [h5]; rfl
   by_cases hn : a.name = []
   case neg => rw [Ev.kz1 (by simpa using hn)]; exact l4 hg (by omega) true (by simp [hn])
   rw [Ev.zz2 (by simpa using hn), Ev.kz1 (by simpa using h5)]
   by_cases ha : (a.args.length : Int) = 0
   ·rw [Ev.zz2 (decide_eq_false (by omega)), Ev.zz2 (by rw [h5]; rfl)]; exact l4 hg (by omega) false ⟨fun h => (Bool.noConfusion h), fun h => (h ⟨hn, by rw [ho]; exact ha⟩).elim⟩
   ·rw [Ev.kz1 (decide_eq_true (by omega))]; exact l4 hg (by omega) true ⟨fun _ h => ha (by rw [← ho]; exact h.2), fun _ => rfl⟩
  rw [Ev.zz2 (by simpa using h5)]
  by_cases h6 : a.kind = 6
  ·rw [show (a.kind == 6) = true by simpa using h6, zfs, Ev.kz1 (by rfl), nm]
   have ho : own a.kind = 1 := by rw [h6]; rfl
   by_cases hn : a.name = []
   case neg => rw [Ev.kz1 (by simpa using hn)]; exact l4 hg (by omega) true (by simp [hn])
   rw [Ev.zz2 (by simpa using hn), Ev.zz2 (by simpa using h5), Ev.kz1 (by simpa using h6)]
   have := hg.2.2.2
   refine l4 hg (by omega) _ ?_
   rw [ho] at this ⊢
   simp only [decide_eq_true_eq, hn, true_and]; omega
  ·rw [show (a.kind == 6) = false by simpa using h6, zfs, Ev.zz2 (by rfl), Ev.kz0 (zkq (by omega))]
   have hk : a.kind ≤ 4 := by have := hg.1; omega
   cases hn : zaq a.name
   ·rw [Ev.kz1 (by rfl), Ev.zz0, z9h]; exact fun q => by have := q.2.2.1; rw [if_pos hk, hn] at this; cases this
   ·rw [Ev.zz2 (by rfl)]; exact l5 ⟨hg.1, hg.2.1, by rw [if_pos hk, hn], hg.2.2.1, hg.2.2.2, fun h => by omega⟩
 have l1 : (1 ≤ a.kind ∧ a.kind ≤ 6) ∧ z9d (zan a.args) = 0 ∧ own a.kind ≤ a.args.length → ∀ b : Bool, b = decide (a.kind = 4 ∨ a.kind = 5) → Ev (fun n => z2z n b a) (z3g a) := fun hg b hb => by
  rw [zum]
  by_cases h : a.kind = 4 ∨ a.kind = 5
  ·rw [hb, decide_eq_true h, Ev.kz1 rfl]
   by_cases q : a.axis ≤ 2
   ·rw [Ev.zz2 (by simp; omega)]; exact l2 ⟨hg.1, by rw [if_pos h]; exact q, hg.2⟩
   ·rw [Ev.kz1 (by simp; omega), Ev.zz0, z9h]; exact fun z => q (by have := z.2.1; rwa [if_pos h] at this)
  ·rw [hb, decide_eq_false h, Ev.zz2 rfl]
   by_cases q : a.axis ≤ 0
   ·rw [Ev.zz2 (by simp; omega)]; exact l2 ⟨hg.1, by rw [if_neg h]; exact q, hg.2⟩
   ·rw [Ev.kz1 (by simp; omega), Ev.zz0, z9h]; exact fun z => q (by have := z.2.1; rwa [if_neg h] at this)
 have l0 : ∀ b : Bool, (b = false → (1 ≤ a.kind ∧ a.kind ≤ 6) ∧ z9d (zan a.args) = 0 ∧ own a.kind ≤ a.args.length) → (b = true → ¬ ynk a) → Ev (fun n => z0g n b a) (z3g a) := fun b hf ht => by
  cases b
  case true => rw [zkp, Ev.kz1 (by rfl), Ev.zz0, z9h (ht rfl)]
  rw [zkp, Ev.zz2 (by rfl)]
  by_cases h : a.kind = 4
  ·rw [Ev.kz1 (by simpa using h)]; exact l1 (hf rfl) true (by rw [decide_eq_true (.inl h)])
  ·rw [Ev.zz2 (by simpa using h)]; exact l1 (hf rfl) _ (by by_cases q : a.kind = 5 <;> simp [q, h])
 rw [y2c]
 by_cases h1 : 1 ≤ a.kind
 case neg => rw [Ev.kz1 (by simp; omega)]; exact l0 true (fun h => by cases h) fun _ q => h1 q.1.1
 rw [Ev.zz2 (by simp; omega)]
 by_cases h2 : a.kind ≤ 6
 case neg => rw [Ev.kz1 (by simp; omega)]; exact l0 true (fun h => by cases h) fun _ q => h2 q.1.2
 rw [Ev.zz2 (by simp; omega), Ev.kz0 (list _), zz1.yz4, Ev.kz0 (zg1 (by rw [zi9]; omega))]
 by_cases h3 : z9d (zan a.args) = 0
 case neg => rw [Ev.kz1 (by simpa using h3)]; exact l0 true (fun h => by cases h) fun _ q => h3 q.2.2.2.1
 rw [Ev.zz2 (by simpa using h3), Ev.kz0 yde]
 exact l0 _ (fun h => ⟨⟨h1, h2⟩, h3, by have := of_decide_eq_false h; omega⟩) fun h q => by have := of_decide_eq_true h; have := q.2.2.2.2.1; omega
end Go.Proofs.YtflgdagdibabiaaGreat


namespace Go.Proofs.YtflgdagdibabiaaGreat
open Go Go.Ab
set_option linter.unusedVariables false
set_option linter.unusedSimpArgs false
noncomputable def y0c (c : zz5) : Bool := decide (1 ≤ c.weight) && (decide (c.weight ≤ 1000000) && ((z9d c.when_ == 0) && c.do_.all z3g))
noncomputable def zta (r : kz4) : Bool := zaq r.name && (r.params.all zaq && r.cases.all y0c)
noncomputable def y3e (t : kz9) : Bool := zaq t.name && (z9d t.value == 0)
noncomputable def zfp (p : yz0) : Bool := p.attrs.all y3e && p.rules.all zta
theorem ifA {c d : Bool} {γ : Type} {x y : γ} : (if (c && d) = true then x else y) = if c = true then (if d = true then x else y) else y := by cases c <;> rfl
theorem yem {p : yz0} (hw : p.wf) (hs : p.size ≤ 8000000) : Ev (fun n => z9n n p) (zfp p) := by
 have := @zqk p
 have := @zi5 p
 have l2 : Ev (fun n => z1p n 0 p.rules (p.rules.length : Int)) (if p.rules.all zta = true then true else false) := by
  refine zak (L := fun n k => z1p n k p.rules (p.rules.length : Int)) (by rw [zke, Ev.zz2 (by simp), Ev.zz0]) fun k hk v hv => ?_
  have hr := List.getElem_mem hk
  have := zis hr
  have := @zr6 p.rules[k]
  have := @zr4 p.rules[k]
  have := @yuc p.rules[k]
  have hwr := yrx hw hr
  have l4 : Ev (fun n => z1o n 0 p.rules[k].cases p.rules (p.rules.length : Int) (k : Int) (p.rules[k].cases.length : Int)) (if p.rules[k].cases.all y0c = true then v else false) := by
   refine zak (L := fun n j => z1o n j p.rules[k].cases p.rules (p.rules.length : Int) (k : Int) (p.rules[k].cases.length : Int)) (by rw [zkw, Ev.zz2 (by simp), wrk (by omega)]; exact hv) fun j hj w hv => ?_
   have hc := List.getElem_mem hj
   have := zqh hc
   have := @ydg p.rules[k].cases[j]
   have := @zqr p.rules[k].cases[j]
   have hwc := ysb hwr hc
   have l6 : Ev (fun n => z1i n 0 p.rules[k].cases[j].do_ p.rules[k].cases p.rules (p.rules.length : Int) (k : Int) (p.rules[k].cases.length : Int) (j : Int) (p.rules[k].cases[j].do_.length : Int)) (if p.rules[k].cases[j].do_.all z3g = true then w else false) := by
    refine zak (L := fun n i => z1i n i p.rules[k].cases[j].do_ p.rules[k].cases p.rules (p.rules.length : Int) (k : Int) (p.rules[k].cases.length : Int) (j : Int) (p.rules[k].cases[j].do_.length : Int)) (by rw [zl3, Ev.zz2 (by simp), wrk (by omega)]; exact hv) fun i hi u hu => ?_
    have ha := List.getElem_mem hi
    have := ztr ha
    rw [zl3, Ev.kz1 (by simpa using hi), Ev.kz2 (kz5 hi), Ev.kz0 (yml (ys5 hwc ha) (by omega))]
    cases z3g p.rules[k].cases[j].do_[i]
    ·rw [Ev.kz1 (by rfl), Ev.zz0]; rfl
    ·rw [Ev.zz2 (by rfl), wrk (by omega)]; exact hu
   have l5 : ∀ b, Ev (fun n => z1q n p.rules[k].cases p.rules (p.rules.length : Int) (k : Int) (p.rules[k].cases.length : Int) (j : Int) (!b) p.rules[k].cases[j]) (if b = true then (if p.rules[k].cases[j].do_.all z3g = true then w else false) else false) := fun b => by
    cases b
    ·rw [zkz, Ev.kz1 (by rfl), Ev.zz0]; rfl
    ·rw [zkz, Ev.zz2 (by rfl)]; exact l6
   rw [zkw, Ev.kz1 (by simpa using hj), Ev.kz2 (kz5 hj), zz5.yz4, y0c, ifA, ifA, ifA]
   by_cases h1 : 1 ≤ p.rules[k].cases[j].weight
   case neg => rw [Ev.kz1 (by simp; omega), decide_eq_false h1]; exact l5 false
   rw [Ev.zz2 (by simp; omega), decide_eq_true h1]
   by_cases h2 : p.rules[k].cases[j].weight ≤ 1000000
   case neg => rw [Ev.kz1 (by simp; omega), decide_eq_false h2]; exact l5 false
   rw [Ev.zz2 (by simp; omega), decide_eq_true h2, zz1.yz4, Ev.kz0 (zpo (yua hwc) (by omega)), neI]
   exact l5 _
  have l3 : ∀ b, Ev (fun n => z32 n p.rules (p.rules.length : Int) (k : Int) (!b) p.rules[k]) (if b = true then (if p.rules[k].cases.all y0c = true then v else false) else false) := fun b => by
   cases b
   ·rw [zlf, Ev.kz1 (by rfl), Ev.zz0]; rfl
   ·rw [zlf, Ev.zz2 (by rfl)]; exact l4
  obtain ⟨i, h1, h2⟩ := zyf (S := fun n x => z7f n x) (l := p.rules[k].params) (p := fun s => !zaq s) (L := fun n k l m => zzl n k l m) (fun n k => zzl.eq_2 _ _ _ n) (by omega) fun x hx => by
   have := yu2 hx
   rw [zx8, Ev.kz0 (zj1 (by omega)), Ev.zz0]
  have hc : Ev (fun n => yzl n p.rules[k].params) (!p.rules[k].params.all zaq) := by
   rw [zeh, Ev.kz0 (by rw [zgh]; exact h1), Ev.zz0, h2, ← List.not_all_eq_any_not]
  rw [zke, Ev.kz1 (by simpa using hk), Ev.kz2 (kz5 hk), zta, ifA, ifA, Ev.kz0 (zj1 (by omega))]
  cases zaq p.rules[k].name
  ·rw [Ev.kz1 (by rfl)]; exact l3 false
  ·rw [Ev.zz2 (by rfl), Ev.kz0 hc]; exact l3 _
 have l0 : Ev (fun n => z1m n 0 p.attrs (p.attrs.length : Int) p) (if p.attrs.all y3e = true then p.rules.all zta else false) := by
  refine zak (L := fun n k => z1m n k p.attrs (p.attrs.length : Int) p) (by rw [zli, Ev.zz2 (by simp), ← ifB (p.rules.all zta)]; exact l2) fun k hk v hv => ?_
  have ht := List.getElem_mem hk
  have := y6e ht
  have := @y31 p.attrs[k]
  have l1 : ∀ b, Ev (fun n => z30 n p.attrs (p.attrs.length : Int) (k : Int) (!b) p) (if b = true then v else false) := fun b => by
   cases b
   ·rw [zl2, Ev.kz1 (by rfl), Ev.zz0]; rfl
   ·rw [zl2, Ev.zz2 (by rfl), wrk (by omega)]; exact hv
  rw [zli, Ev.kz1 (by simpa using hk), Ev.kz2 (kz5 hk), y3e, ifA, Ev.kz0 (zj1 (by omega))]
  cases zaq p.attrs[k].name
  ·rw [Ev.kz1 (by rfl)]; exact l1 false
  ·rw [Ev.zz2 (by rfl), zz1.yz4, Ev.kz0 (zpo (yu9 hw ht) (by omega)), neI]; exact l1 _
 rw [y2g]
 refine l0.to ?_
 rw [zfp]; cases p.attrs.all y3e <;> rfl
theorem yht {p : yz0} (hw : p.wf) (hs : p.size ≤ 8000000) : Ev (fun n => z9p n p) (zfp p) := by
 have := @zqk p
 have := @zi5 p
 have l2 : Ev (fun n => z1a n 0 p) (if p.rules.all zta = true then true else false) := by
  refine zak (L := fun n k => z1a n k p) (by rw [zkg, Ev.zz2 (by simp), Ev.zz0]) fun k hk v hv => ?_
  have hr := List.getElem_mem hk
  have := zis hr
  have := @zr6 p.rules[k]
  have := @zr4 p.rules[k]
  have := @yuc p.rules[k]
  have hwr := yrx hw hr
  have l4 : Ev (fun n => z1b n 0 (k : Int) p.rules[k] p) (if p.rules[k].cases.all y0c = true then v else false) := by
   refine zak (L := fun n j => z1b n j (k : Int) p.rules[k] p) (by rw [zl8, Ev.zz2 (by simp), wrk (by omega)]; exact hv) fun j hj w hv => ?_
   have hc := List.getElem_mem hj
   have := zqh hc
   have := @ydg p.rules[k].cases[j]
   have := @zqr p.rules[k].cases[j]
   have hwc := ysb hwr hc
   have l6 : Ev (fun n => z1n n 0 (k : Int) (j : Int) p.rules[k].cases[j] p.rules[k] p) (if p.rules[k].cases[j].do_.all z3g = true then w else false) := by
    refine zak (L := fun n i => z1n n i (k : Int) (j : Int) p.rules[k].cases[j] p.rules[k] p) (by rw [zkf, Ev.zz2 (by simp), wrk (by omega)]; exact hv) fun i hi u hu => ?_
    have ha := List.getElem_mem hi
    have := ztr ha
    rw [zkf, Ev.kz1 (by simpa using hi), Ev.kz2 (kz5 hi), Ev.kz0 (yo2 (ys5 hwc ha) (by omega)), zz5.yz4]
    cases z3g p.rules[k].cases[j].do_[i]
    ·rw [Ev.kz1 (by rfl), Ev.zz0]; rfl
    ·rw [Ev.zz2 (by rfl), wrk (by omega)]; exact hu
   have l5 : ∀ b, Ev (fun n => z19 n (k : Int) (j : Int) (!b) p.rules[k].cases[j] p.rules[k] p) (if b = true then (if p.rules[k].cases[j].do_.all z3g = true then w else false) else false) := fun b => by
    cases b
    ·rw [zkj, Ev.kz1 (by rfl), Ev.zz0]; rfl
    ·rw [zkj, Ev.zz2 (by rfl), zz5.yz4]; exact l6
   rw [zl8, Ev.kz1 (by simpa using hj), Ev.kz2 (kz5 hj), zz5.yz4, y0c, ifA, ifA, ifA]
   by_cases h1 : 1 ≤ p.rules[k].cases[j].weight
   case neg => rw [Ev.kz1 (by simp; omega), decide_eq_false h1]; exact l5 false
   rw [Ev.zz2 (by simp; omega), decide_eq_true h1]
   by_cases h2 : p.rules[k].cases[j].weight ≤ 1000000
   case neg => rw [Ev.kz1 (by simp; omega), decide_eq_false h2]; exact l5 false
   rw [Ev.zz2 (by simp; omega), decide_eq_true h2, zz1.yz4, Ev.kz0 (zg1 (by omega)), neI]
   exact l5 _
  have l3 : Ev (fun n => z1c n 0 (k : Int) p.rules[k] p) (if p.rules[k].params.all zaq = true then (if p.rules[k].cases.all y0c = true then v else false) else false) := by
   refine zak (L := fun n j => z1c n j (k : Int) p.rules[k] p) (by rw [zko, Ev.zz2 (by simp)]; exact l4) fun j hj w hv => ?_
   have := yu2 (List.getElem_mem hj)
   rw [zko, Ev.kz1 (by simpa using hj), Ev.kz2 (kz5 hj), Ev.kz0 (zkq (by omega))]
   cases zaq p.rules[k].params[j]
   ·rw [Ev.kz1 (by rfl), Ev.zz0]; rfl
   ·rw [Ev.zz2 (by rfl), wrk (by omega)]; exact hv
  rw [zkg, Ev.kz1 (by simpa using hk), Ev.kz2 (kz5 hk), zta, ifA, ifA, Ev.kz0 (zkq (by omega))]
  cases zaq p.rules[k].name
  ·rw [Ev.kz1 (by rfl), Ev.zz0]; rfl
  ·rw [Ev.zz2 (by rfl)]; exact l3
 have l0 : Ev (fun n => z1f n 0 p) (if p.attrs.all y3e = true then p.rules.all zta else false) := by
  refine zak (L := fun n k => z1f n k p) (by rw [zkt, Ev.zz2 (by simp), ← ifB (p.rules.all zta)]; exact l2) fun k hk v hv => ?_
  have ht := List.getElem_mem hk
  have := y6e ht
  have := @y31 p.attrs[k]
  have l1 : ∀ b, Ev (fun n => z2r n (k : Int) (!b) p) (if b = true then v else false) := fun b => by
   cases b
   ·rw [zlc, Ev.kz1 (by rfl), Ev.zz0]; rfl
   ·rw [zlc, Ev.zz2 (by rfl), wrk (by omega)]; exact hv
  rw [zkt, Ev.kz1 (by simpa using hk), Ev.kz2 (kz5 hk), y3e, ifA, Ev.kz0 (zkq (by omega))]
  cases zaq p.attrs[k].name
  ·rw [Ev.kz1 (by rfl)]; exact l1 false
  ·rw [Ev.zz2 (by rfl), Ev.kz2 (kz5 hk), zz1.yz4, Ev.kz0 (zg1 (by omega)), neI]; exact l1 _
 rw [y20]
 refine l0.to ?_
 rw [zfp]; cases p.attrs.all y3e <;> rfl
def kzq (p : yz0) : List (List UInt8) := p.attrs.map (·.name)
def yz8 (p : yz0) : List (List UInt8) := p.rules.map (·.name)
theorem zuf {α β : Type} {g : α → β} (l : List α) (s : List β) : l.foldl (fun s x => s ++ [g x]) s = s ++ l.map g := by
 induction l generalizing s with
 | nil => simp
 | cons x l ih => simp [ih]
theorem zsa {p : yz0} (hs : p.size ≤ 8000000) : Ev (fun n => z71 n p) (kzq p) := by
 have := @zqk p
 rw [y3a]
 refine zvw (L := fun n k s => z3t n k p s) (xs := p.attrs) (f := fun s x => s ++ [x.name]) (I := fun k s => s.length = k) rfl (fun _ => by
  rw [zn6, Ev.zz2 (by simp), Ev.zz0, zuf]; rfl) fun k hk s hi => ⟨by simp [hi], fun h => by
  rw [zn6, Ev.kz1 (by simpa using hk), Ev.kz2 (kz5 hk), Ev.kz2 (z7b (by simp; omega)), wrk (by omega)]; exact h⟩
theorem zj3 {p : yz0} (hs : p.size ≤ 8000000) : Ev (fun n => z2h n p) (yz8 p) := by
 have := @zi5 p
 rw [y55]
 refine zvw (L := fun n k s => z3r n k p s) (xs := p.rules) (f := fun s x => s ++ [x.name]) (I := fun k s => s.length = k) rfl (fun _ => by
  rw [zlq, Ev.zz2 (by simp), Ev.zz0, zuf]; rfl) fun k hk s hi => ⟨by simp [hi], fun h => by
  rw [zlq, Ev.kz1 (by simpa using hk), Ev.kz2 (kz5 hk), Ev.kz2 (z7b (by simp; omega)), wrk (by omega)]; exact h⟩
def atI (l : List (List UInt8)) (s : List UInt8) : Int := match l.idxOf? s with
 | some i => (i : Int)
 | none => -1
theorem yst {l : List (List UInt8)} {s : List UInt8} : -1 ≤ atI l s := by unfold atI; split <;> omega
theorem zku (x : List UInt8) (l : List (List UInt8)) (s : List UInt8) : atI (x :: l) s = if x = s then 0 else if atI l s = -1 then -1 else atI l s + 1 := by
 unfold atI
 rw [List.idxOf?_cons]
 by_cases h : x = s
 ·subst h; simp
 ·have : (x == s) = false := by simpa using h
  rw [this, if_neg h]
  simp only [Bool.false_eq_true, if_false]
  cases l.idxOf? s <;> simp
theorem y77 {L : Nat → Int → Option Int} {l : List (List UInt8)} {s : List UInt8} {p : List UInt8 → Bool} (hp : ∀ x, p x = true ↔ x = s) (hb : l.length ≤ 8388608)
  (hL : ∀ n (k : Int), L (n + 1) k = pIf (decide (k < (l.length : Int))) ((ix l k).bind fun x0 => pIf (p x0) (some k) (L n (IntKind.i64.wrap (k + 1)))) (some (-1))) : Ev (fun n => L n 0) (atI l s) := by
 have : ∀ k, k ≤ l.length → Ev (fun n => L n (k : Int)) (if atI (l.drop k) s = -1 then -1 else atI (l.drop k) s + k) :=
  down (by rw [Ev.zgz (fun n => hL n _), Ev.zz2 (by simp), Ev.zz0, List.drop_length]; rfl) fun k hk ih => by
   rw [Ev.zgz (fun n => hL n _), Ev.kz1 (by simpa using hk), Ev.kz2 (kz5 hk), ← List.getElem_cons_drop (h := hk), zku]
   by_cases h : l[k] = s
   ·rw [Ev.kz1 ((hp _).2 h), Ev.zz0, if_pos h]; simp
   ·rw [Ev.zz2 (by rw [Bool.eq_false_iff]; exact fun q => h ((hp _).1 q)), wrk (by omega), if_neg h]
    refine ih.to ?_
    by_cases q : atI (l.drop (k + 1)) s = -1
    ·simp [q]
    ·have h0 := @yst (l.drop (k + 1)) s
     rw [if_neg q, if_neg q, if_neg (by omega)]; omega
 have := this 0 (Nat.zero_le _)
 simp only [List.drop_zero] at this
 refine Ev.to this ?_
 split
 ·rename_i h; exact h.symm
 ·simp
theorem zo3 {l : List (List UInt8)} {s : List UInt8} (hb : l.length ≤ 8388608) : Ev (fun n => z6s n l s) (atI l s) := by
 rw [yjv]
 exact y77 (L := fun n k => zas n k s l) (p := fun x => x == s) (fun x => by simp) hb fun n k => zas.eq_2 _ _ _ n
theorem yqa {l : List (List UInt8)} {s : List UInt8} (hb : l.length ≤ 8388608) : Ev (fun n => zzo n l s) (atI l s) := by
 rw [zbl]
 exact y77 (L := fun n k => kzf n k l s (l.length : Int)) (p := fun x => s == x) (fun x => by simp; exact eq_comm) hb fun n k => kzf.eq_2 _ _ _ _ n
theorem zam {l : List (List UInt8)} {s : List UInt8} : atI l s < 0 ↔ s ∉ l := by
 induction l with
 | nil => simp [atI]
 | cons x l ih =>
   rw [zku]
   by_cases h : x = s
   · subst h; simp
   · have : s ∉ x :: l ↔ s ∉ l := by simp [Ne.symm h]
     rw [if_neg h, this, ← ih]
     split
     · rename_i q; simp [q]
     · have : -1 ≤ atI l s := by unfold atI; split <;> omega
       omega
theorem zvq {l : List (List UInt8)} {s : List UInt8} (h : s ∈ l) : ∃ i : Nat, ∃ (hi : i < l.length), atI l s = (i : Int) ∧ l[i] = s ∧ ∀ j (hj : j < i), l[j]'(by omega) ≠ s := by
 induction l with
 | nil => cases h
 | cons x l ih =>
   rw [zku]
   by_cases q : x = s
   · exact ⟨0, by simp, by simp [q], by simpa using q, fun j hj => by omega⟩
   · have hm : s ∈ l := by rcases List.mem_cons.1 h with h | h; · exact (q h.symm).elim
                           · exact h
     obtain ⟨i, hi, h1, h2, h3⟩ := ih hm
     refine ⟨i + 1, by simp; omega, ?_, by simpa using h2, fun j hj => ?_⟩
     · rw [if_neg q, h1, if_neg (by omega)]; omega
     · cases j with
       | zero => simpa using q
       | succ j => simpa using h3 j (by omega)
end Go.Proofs.YtflgdagdibabiaaGreat


namespace Go.Proofs.YtflgdagdibabiaaGreat
open Go Go.Ab
set_option linter.unusedVariables false
set_option linter.unusedSimpArgs false
theorem zh9 {α β γ : Type} {L : Nat → Int → List β → Option γ} {xs : List α} {g : α → List β} {v : γ} {s0 : List β} {B : Nat} (hB : s0.length + (xs.flatMap g).length ≤ B)
  (he : Ev (fun n => L n (xs.length : Int) (s0 ++ xs.flatMap g)) v)
  (hs : ∀ k (h : k < xs.length) s, s.length + (g xs[k]).length ≤ B → Ev (fun n => L n ((k + 1 : Nat) : Int) (s ++ g xs[k])) v → Ev (fun n => L n (k : Int) s) v) : Ev (fun n => L n 0 s0) v := by
 have : ∀ m k, k + m = xs.length → ∀ s, s.length + ((xs.drop k).flatMap g).length ≤ B → s ++ (xs.drop k).flatMap g = s0 ++ xs.flatMap g → Ev (fun n => L n (k : Int) s) v := fun m => by
  induction m with
  | zero =>
    intro k hk s hi hf
    have hkl : k = xs.length := by omega
    subst hkl
    rw [List.drop_length] at hf
    simp only [List.flatMap_nil, List.append_nil] at hf
    rw [hf]; exact he
  | succ m ih =>
    intro k hk s hi hf
    have hlt : k < xs.length := by omega
    rw [← List.getElem_cons_drop (h := hlt), List.flatMap_cons, List.length_append] at hi
    rw [← List.getElem_cons_drop (h := hlt), List.flatMap_cons, ← List.append_assoc] at hf
    exact hs k hlt s (by omega) (ih (k + 1) (by omega) _ (by rw [List.length_append]; omega) hf)
 simpa using this xs.length 0 (by omega) s0 (by simpa using hB) (by simp)
theorem zl4 {α β : Type} {f : α → Nat} {g : α → List β} : ∀ {l : List α}, (∀ x ∈ l, (g x).length ≤ f x) → (l.flatMap g).length ≤ (l.map f).sum
 | [], _ => by simp
 | x :: l, h => by
   have h1 := h x List.mem_cons_self
   have h2 := zl4 (f := f) (g := g) (l := l) fun y hy => h y (List.mem_cons_of_mem _ hy)
   simp only [List.flatMap_cons, List.length_append, List.map_cons, List.sum_cons]; omega
def zr1 (x : zza) : List (List UInt8 × Int) := [(x.name, (x.args.length : Int) - 1)]
def zhc (a : zz3) : List (List UInt8 × Int) := (if a.name = [] then [] else [(a.name, (a.args.length : Int) - own a.kind)]) ++ a.items.flatMap zr1
def zyr (c : zz5) : List (List UInt8 × Int) := c.do_.flatMap zhc
def zz6 (r : kz4) : List (List UInt8 × Int) := r.cases.flatMap zyr
theorem ymd (a : zz3) : (zhc a).length ≤ a.size := by
 have h := zl4 (f := zza.size) (g := zr1) (l := a.items) fun x _ => by rw [zza.size_eq]; show 1 ≤ _; omega
 rw [zz3.size_eq, zhc, List.length_append]
 split <;> simp only [List.length_cons, List.length_nil] <;> omega
theorem ym7 (c : zz5) : (zyr c).length ≤ c.size := by
 have h := zl4 (f := zz3.size) (g := zhc) (l := c.do_) fun x _ => ymd x
 rw [zz5.size_eq]; unfold zyr; omega
theorem zai (r : kz4) : (zz6 r).length ≤ r.size := by
 have h := zl4 (f := zz5.size) (g := zyr) (l := r.cases) fun x _ => ym7 x
 rw [kz4.size_eq]; unfold zz6; omega
def toT (x : List UInt8 × Int) : kzk := ⟨x.1, x.2⟩
def toG (x : List UInt8 × Int) : yzy := ⟨x.1, x.2⟩
theorem yu4 (k : Int) : 0 ≤ own k ∧ own k ≤ 3 := by unfold own; split <;> (try split) <;> omega
theorem yel {a k : Int} (h0 : 0 ≤ a) (h1 : a ≤ 8000000) (h2 : 0 ≤ k) (h3 : k ≤ 3) : IntKind.i64.wrap (a - k) = a - k := wI (by omega)
theorem zs0 {r : kz4} (hs : r.size ≤ 8000000) : Ev (fun n => z6v n r) ((zz6 r).map toT) := by
 have hlen := zai r
 have hmap : (zz6 r).map toT = r.cases.flatMap fun c => c.do_.flatMap fun a => (zhc a).map toT := by simp only [zz6, zyr, List.map_flatMap]
 have := @zr4 r
 rw [y7p]
 refine zh9 (L := fun n k s => z4b n k r.cases (r.cases.length : Int) s) (xs := r.cases) (g := fun c => c.do_.flatMap fun a => (zhc a).map toT) (B := 8000000) (by rw [← hmap]; simp; omega) (by
  rw [zly, Ev.zz2 (by simp), Ev.zz0, hmap]; rfl) fun k hk s hi hv => ?_
 have := zqh (List.getElem_mem hk)
 have := @zqr r.cases[k]
 rw [zly, Ev.kz1 (by simpa using hk), Ev.kz2 (kz5 hk)]
 refine zh9 (L := fun n j s => z2c n j r.cases[k].do_ r.cases (r.cases.length : Int) (k : Int) (r.cases[k].do_.length : Int) s) (xs := r.cases[k].do_) (g := fun a => (zhc a).map toT) (B := 8000000) hi (by
  rw [zml, Ev.zz2 (by simp), wrk (by omega)]; exact hv) fun j hj s hi hv => ?_
 have := ztr (List.getElem_mem hj)
 generalize hx : r.cases[k].do_[j] = a at *
 have := @zwo a
 have := @yu7 a
 have ho := yu4 a.kind
 rw [zhc, List.map_append, List.length_append] at hi
 rw [zhc, List.map_append, ← List.append_assoc] at hv
 have l2 : ∀ t : List kzk, t.length + ((a.items.flatMap zr1).map toT).length ≤ 8000000 → Ev (fun n => z2c n ((j + 1 : Nat) : Int) r.cases[k].do_ r.cases (r.cases.length : Int) (k : Int) (r.cases[k].do_.length : Int) (t ++ (a.items.flatMap zr1).map toT)) ((zz6 r).map toT) → Ev (fun n => z42 n r.cases[k].do_ r.cases (r.cases.length : Int) (k : Int) (r.cases[k].do_.length : Int) (j : Int) t a) ((zz6 r).map toT) := fun t ht hv => by
  have hm : (a.items.flatMap zr1).map toT = a.items.flatMap fun x => [(⟨x.name, (x.args.length : Int) - 1⟩ : kzk)] := by rw [List.map_flatMap]; rfl
  rw [hm] at ht hv
  rw [zvc]
  refine zh9 (L := fun n i s => z4t n i a.items r.cases[k].do_ r.cases (r.cases.length : Int) (k : Int) (r.cases[k].do_.length : Int) (j : Int) (a.items.length : Int) s) (xs := a.items) (g := fun x => [(⟨x.name, (x.args.length : Int) - 1⟩ : kzk)]) (B := 8000000) ht (by
   rw [znb, Ev.zz2 (by simp), wrk (by omega)]; exact hv) fun i hi s hl hv => ?_
  have := y0s (List.getElem_mem hi)
  have := @ysq a.items[i]
  rw [znb, Ev.kz1 (by simpa using hi), Ev.kz2 (kz5 hi), yel (by omega) (by omega) (by omega) (by omega), Ev.kz2 (z7b (by simp at hl ⊢; omega)), wrk (by omega)]
  exact hv
 rw [zml, Ev.kz1 (by simpa using hj), Ev.kz2 (kz5 hj), hx]
 by_cases hn : a.name = []
 ·rw [Ev.zz2 (by simp [hn])]
  rw [if_pos hn] at hv hi
  exact l2 s (by simpa using hi) (by simpa using hv)
 ·rw [Ev.kz1 (by simpa using hn), Ev.kz0 zyo, yel (by omega) (by omega) ho.1 ho.2]
  rw [if_neg hn] at hv hi
  rw [Ev.kz2 (z7b (by simp at hi ⊢; omega))]
  exact l2 _ (by simp at hi ⊢; omega) hv
theorem zq1 {r : kz4} (hs : r.size ≤ 8000000) (hf : ∀ c ∈ r.cases, ∀ a ∈ c.do_, (a.name = [] ↔ a.kind = 5 ∨ a.kind = 6)) : Ev (fun n => z6o n r) ((zz6 r).map toG) := by
 have hlen := zai r
 have hmap : (zz6 r).map toG = r.cases.flatMap fun c => c.do_.flatMap fun a => (zhc a).map toG := by simp only [zz6, zyr, List.map_flatMap]
 have := @zr4 r
 rw [y9m]
 refine zh9 (L := fun n k s => z5v n k s r) (xs := r.cases) (g := fun c => c.do_.flatMap fun a => (zhc a).map toG) (B := 8000000) (by rw [← hmap]; simp; omega) (by
  rw [zor, Ev.zz2 (by simp), Ev.zz0, hmap]; rfl) fun k hk s hi hv => ?_
 have hc := List.getElem_mem hk
 have := zqh hc
 have := @zqr r.cases[k]
 rw [zor, Ev.kz1 (by simpa using hk)]
 refine zh9 (L := fun n j s => z3b n j (k : Int) s r) (xs := r.cases[k].do_) (g := fun a => (zhc a).map toG) (B := 8000000) hi (by
  rw [zp9, Ev.kz2 (kz5 hk), Ev.zz2 (by simp), wrk (by omega)]; exact hv) fun j hj s hi hv => ?_
 have ha := List.getElem_mem hj
 have := ztr ha
 have hfa := hf _ hc _ ha
 generalize hx : r.cases[k].do_[j] = a at *
 have := @zwo a
 have := @yu7 a
 have ho := yu4 a.kind
 rw [zhc, List.map_append, List.length_append] at hi
 rw [zhc, List.map_append, ← List.append_assoc] at hv
 have l2 : ∀ t : List yzy, t.length + ((a.items.flatMap zr1).map toG).length ≤ 8000000 → Ev (fun n => z3b n ((j + 1 : Nat) : Int) (k : Int) (t ++ (a.items.flatMap zr1).map toG) r) ((zz6 r).map toG) → Ev (fun n => z6d n (k : Int) (j : Int) a t r) ((zz6 r).map toG) := fun t ht hv => by
  have hm : (a.items.flatMap zr1).map toG = a.items.flatMap fun x => [(⟨x.name, (x.args.length : Int) - 1⟩ : yzy)] := by rw [List.map_flatMap]; rfl
  rw [hm] at ht hv
  rw [zxj]
  refine zh9 (L := fun n i s => z5e n i (k : Int) (j : Int) a s r) (xs := a.items) (g := fun x => [(⟨x.name, (x.args.length : Int) - 1⟩ : yzy)]) (B := 8000000) ht (by
   rw [zp4, Ev.zz2 (by simp), wrk (by omega)]; exact hv) fun i hi s hl hv => ?_
  have := y0s (List.getElem_mem hi)
  have := @ysq a.items[i]
  rw [zp4, Ev.kz1 (by simpa using hi), Ev.kz2 (kz5 hi), Ev.kz2 (kz5 hi), yel (by omega) (by omega) (by omega) (by omega), Ev.kz2 (z7b (by simp at hl ⊢; omega)), wrk (by omega)]
  exact hv
 rw [zp9, Ev.kz2 (kz5 hk), Ev.kz1 (by simpa using hj), Ev.kz2 (kz5 hk), Ev.kz2 (kz5 hj), hx]
 by_cases hn : a.name = []
 ·rw [if_pos hn] at hv hi
  have l3 := l2 s (by simpa using hi) (by simpa using hv)
  have l2f : Ev (fun n => z5n n (k : Int) (j : Int) false a r s) ((zz6 r).map toG) := by rw [zpi, Ev.zz2 (by rfl)]; exact l3
  rcases hfa.1 hn with h | h
  ·rw [Ev.zz2 (by simp [h])]; exact l2f
  ·rw [Ev.kz1 (by simp [h]), show (a.kind != 6) = false by simp [h]]; exact l2f
 ·have hk5 : a.kind ≠ 5 ∧ a.kind ≠ 6 := ⟨fun h => hn (hfa.2 (.inl h)), fun h => hn (hfa.2 (.inr h))⟩
  rw [Ev.kz1 (by simp [hk5.1]), show (a.kind != 6) = true by simp [hk5.2], zpi, Ev.kz1 (by rfl), Ev.kz0 yde, yel (by omega) (by omega) ho.1 ho.2]
  rw [if_neg hn] at hv hi
  rw [Ev.kz2 (z7b (by simp at hi ⊢; omega))]
  exact l2 _ (by simp at hi ⊢; omega) hv
theorem zw6 {a : zz3} (h : z3g a = true) : a.name = [] ↔ a.kind = 5 ∨ a.kind = 6 := by
 obtain ⟨h1, h2, h3, _⟩ := zr7.1 h
 by_cases hk : a.kind ≤ 4
 ·rw [if_pos hk] at h3
  refine ⟨fun h => ?_, fun h => by omega⟩
  rw [h, ydm] at h3; cases h3
 ·rw [if_neg hk] at h3
  exact ⟨fun _ => by omega, fun _ => h3⟩
theorem zwy {p : yz0} (h : zfp p = true) : ∀ r ∈ p.rules, ∀ c ∈ r.cases, ∀ a ∈ c.do_, z3g a = true := fun r hr c hc a ha => by
 unfold zfp at h
 have h := List.all_eq_true.1 (Bool.and_eq_true_iff.1 h).2 r hr
 unfold zta at h
 have h := List.all_eq_true.1 (Bool.and_eq_true_iff.1 (Bool.and_eq_true_iff.1 h).2).2 c hc
 unfold y0c at h
 exact List.all_eq_true.1 (Bool.and_eq_true_iff.1 (Bool.and_eq_true_iff.1 (Bool.and_eq_true_iff.1 h).2).2).2 a ha
def zic (a : zz3) : List zz1 := a.args ++ a.items.flatMap (·.args)
def zed (c : zz5) : List zz1 := c.when_ :: c.do_.flatMap zic
def zrt (r : kz4) : List zz1 := r.cases.flatMap zed
theorem ymj (a : zz3) : (zic a).length ≤ a.size := by
 have h := zl4 (f := zza.size) (g := fun x : zza => x.args) (l := a.items) fun x _ => ysq
 have := z9m a.args
 rw [zz3.size_eq, zic, List.length_append]; omega
theorem zuw (c : zz5) : (zed c).length ≤ c.size := by
 have h := zl4 (f := zz3.size) (g := zic) (l := c.do_) fun x _ => ymj x
 rw [zz5.size_eq, zed, List.length_cons]; omega
theorem y7f (r : kz4) : (zrt r).length ≤ r.size := by
 have h := zl4 (f := zz5.size) (g := zed) (l := r.cases) fun x _ => zuw x
 rw [kz4.size_eq]; unfold zrt; omega
theorem y4a {a : zz3} {e : zz1} (h : e ∈ zic a) : e.size ≤ a.size ∧ (a.wf → e.wf) := by
 rcases List.mem_append.1 h with h | h
 ·have := zse h; have := @y7m a; exact ⟨by omega, fun w => wf_ae w h⟩
 ·obtain ⟨x, hx, he⟩ := List.mem_flatMap.1 h
  have := zse he; have := @y4b x; have := y0s hx; exact ⟨by omega, fun w => wf_xe (yuk w hx) he⟩
theorem zv1 {c : zz5} {e : zz1} (h : e ∈ zed c) : e.size ≤ c.size ∧ (c.wf → e.wf) := by
 rcases List.mem_cons.1 h with h | h
 ·subst h; have := @ydg c; exact ⟨by omega, yua⟩
 ·obtain ⟨a, ha, he⟩ := List.mem_flatMap.1 h
  have := y4a he; have := ztr ha; exact ⟨by omega, fun w => (y4a he).2 (ys5 w ha)⟩
theorem y5f {r : kz4} {e : zz1} (h : e ∈ zrt r) : e.size ≤ r.size ∧ (r.wf → e.wf) := by
 obtain ⟨c, hc, he⟩ := List.mem_flatMap.1 h
 have := zv1 he; have := zqh hc; exact ⟨by omega, fun w => (zv1 he).2 (ysb w hc)⟩
theorem ylj {r : kz4} (hs : r.size ≤ 8000000) : Ev (fun n => zbd n r) (zrt r) := by
 have hlen := y7f r
 have := @zr4 r
 rw [y3x]
 refine zh9 (L := fun n k s => z4z n k r.cases (r.cases.length : Int) s) (xs := r.cases) (g := zed) (B := 8000000) (by show 0 + (zrt r).length ≤ _; omega) (by
  rw [zmt, Ev.zz2 (by simp), Ev.zz0]; rfl) fun k hk s hi hv => ?_
 have := zqh (List.getElem_mem hk)
 have := @zqr r.cases[k]
 have e1 : s ++ zed r.cases[k] = (s ++ [r.cases[k].when_]) ++ r.cases[k].do_.flatMap zic := by simp [zed]
 rw [e1] at hv
 rw [zed, List.length_cons] at hi
 rw [zmt, Ev.kz1 (by simpa using hk), Ev.kz2 (kz5 hk), zz1.yz4, Ev.kz2 (z7b (by simp only [List.length_append, List.length_cons, List.length_nil]; omega))]
 refine zh9 (L := fun n j s => z4a n j r.cases[k].do_ r.cases (r.cases.length : Int) (k : Int) (r.cases[k].do_.length : Int) s) (xs := r.cases[k].do_) (g := zic) (B := 8000000) (by simp only [List.length_append, List.length_cons, List.length_nil]; omega) (by
  rw [zlx, Ev.zz2 (by simp), wrk (by omega)]; exact hv) fun j hj s hi hv => ?_
 have := ztr (List.getElem_mem hj)
 generalize hx : r.cases[k].do_[j] = a at *
 have := @zwo a
 rw [zic, List.length_append] at hi
 rw [zic, ← List.append_assoc] at hv
 rw [zlx, Ev.kz1 (by simpa using hj), Ev.kz2 (kz5 hj), hx, Ev.kz2 (z7b (by omega))]
 refine zh9 (L := fun n i s => z47 n i a.items r.cases[k].do_ r.cases (r.cases.length : Int) (k : Int) (r.cases[k].do_.length : Int) (j : Int) (a.items.length : Int) s) (xs := a.items) (g := fun x => x.args) (B := 8000000) (by simp only [List.length_append, List.length_cons, List.length_nil]; omega) (by
  rw [zmm, Ev.zz2 (by simp), wrk (by omega)]; exact hv) fun i hi s hl hv => ?_
 rw [zmm, Ev.kz1 (by simpa using hi), Ev.kz2 (kz5 hi), Ev.kz2 (z7b (by omega)), wrk (by omega)]
 exact hv
theorem yjb {c : zz5} (hs : c.size ≤ 8000000) : Ev (fun n => zao n c) (zed c) := by
 have hlen := zuw c
 have := @zqr c
 have e1 : zed c = [c.when_] ++ c.do_.flatMap zic := by simp [zed]
 rw [zed, List.length_cons] at hlen
 rw [y4y, zz5.yz4, zz1.yz4]
 refine zh9 (L := fun n j s => z3l n j c s) (xs := c.do_) (g := zic) (B := 8000000) (by simp only [List.length_append, List.length_cons, List.length_nil]; omega) (by
  rw [zm5, Ev.zz2 (by simp), Ev.zz0, e1]) fun j hj s hi hv => ?_
 have := ztr (List.getElem_mem hj)
 have hxx := kz5 hj
 generalize hx : c.do_[j] = a at *
 have := @zwo a
 rw [zic, List.length_append] at hi
 rw [zic, ← List.append_assoc] at hv
 rw [zm5, Ev.kz1 (by simpa using hj), Ev.kz2 hxx, Ev.kz2 (z7b (by omega)), zz5.yz4]
 refine zh9 (L := fun n i s => z4j n i (j : Int) c s) (xs := a.items) (g := fun x => x.args) (B := 8000000) (by simp only [List.length_append, List.length_cons, List.length_nil]; omega) (by
  rw [zmo, Ev.kz2 hxx, Ev.zz2 (by simp), wrk (by omega), zz5.yz4]; exact hv) fun i hi s hl hv => ?_
 rw [zmo, Ev.kz2 hxx, Ev.kz1 (by simpa using hi), Ev.kz2 hxx, Ev.kz2 (kz5 hi), Ev.kz2 (z7b (by omega)), wrk (by omega), zz5.yz4]
 exact hv
noncomputable def within (K : List (List UInt8)) (e : zz1) : Bool := (zfu e).1.all fun s => decide (s ∈ K)
theorem y3d (e : zz1) (hs : e.size ≤ 8388608) : (zfu e).1.length ≤ 8388608 := by
 unfold zfu
 split
 ·simp
 ·have h1 := ydw e []; have h2 := zod e; simp only [List.length_nil] at h1; show (zoz e []).length ≤ _; omega
theorem zwn {e : zz1} {K : List (List UInt8)} (hs : e.size ≤ 8388608) (hK : K.length ≤ 8388608) : Ev (fun n => z83 n e K) (within K e) := by
 have hl := y3d e hs
 rw [y2b, zz1.yz4, Ev.kz0 (yko hs), ← ifB (within K e)]
 refine zak (L := fun n k => z2p n k (zfu e).1 K) (by rw [zkh, Ev.zz2 (by simp), Ev.zz0]) fun k hk v hv => ?_
 rw [zkh, Ev.kz1 (by simpa using hk), Ev.kz2 (kz5 hk), Ev.kz0 (zo3 hK)]
 by_cases h : (zfu e).1[k] ∈ K
 ·rw [Ev.zz2 (decide_eq_false fun q => zam.1 q h), decide_eq_true h, wrk (by omega)]; exact hv
 ·rw [Ev.kz1 (decide_eq_true (zam.2 h)), decide_eq_false h, Ev.zz0]; rfl
def MK (m : List (List UInt8 × Bool)) (K : List (List UInt8)) : Prop := ∀ k, (zby m k).getD false = decide (k ∈ K)
theorem y6l {α σ : Type} {L : Nat → Int → Option (Int × σ)} {l : List α} {p : α → Bool} {st : σ}
  (he : Ev (fun n => L n (l.length : Int)) (-1, st))
  (hs : ∀ k (h : k < l.length) v, (p l[k] = true → Ev (fun n => L n (k : Int)) ((k : Int), st)) ∧ (p l[k] = false → Ev (fun n => L n ((k + 1 : Nat) : Int)) v → Ev (fun n => L n (k : Int)) v)) :
  ∃ i : Int, Ev (fun n => L n 0) (i, st) ∧ decide (i ≥ 0) = l.any p := by
 have : ∀ k, k ≤ l.length → ∃ i : Int, Ev (fun n => L n (k : Int)) (i, st) ∧ decide (i ≥ 0) = (l.drop k).any p :=
  down ⟨-1, he, by simp⟩ fun k hk ⟨i, h1, h2⟩ => by
   obtain ⟨a1, a2⟩ := hs k hk (i, st)
   cases hp : p l[k] with
   | true => exact ⟨k, a1 hp, by rw [← List.getElem_cons_drop (h := hk), List.any_cons, hp]; simp⟩
   | false => exact ⟨i, a2 hp h1, by rw [← List.getElem_cons_drop (h := hk), List.any_cons, hp, h2]; simp⟩
 simpa using this 0 (Nat.zero_le _)
theorem y72 {e : zz1} {m : List (List UInt8 × Bool)} {K : List (List UInt8)} (hm : MK m K) (hw : e.wf) (hs : e.size ≤ 8388608) : Ev (fun n => zag n e (mks m) (mvs m)) (!within K e, mks m, mvs m) := by
 have hl := y3d e hs
 obtain ⟨i, h1, h2⟩ := y6l (L := fun n k => yze n k (zfu e).1 ((zfu e).1.length : Int) (mks m) (mvs m)) (l := (zfu e).1) (p := fun s => !decide (s ∈ K)) (st := (mks m, mvs m))
  (by rw [z18, Ev.zz2 (by simp), Ev.zz0, yz9]) fun k hk v => by
   have hf : Ev (fun n => z9q n (zfu e).1[k] (mks m) (mvs m)) (!decide ((zfu e).1[k] ∈ K), mks m, mvs m) := by
    rw [y2n, Ev.zz0, yz9, hm]
   constructor
   ·intro hp
    rw [z18, Ev.kz1 (by simpa using hk), Ev.kz2 (kz5 hk), yz9, Ev.kz0 hf, Ev.kz1 hp, Ev.zz0, yz9]
   ·intro hp hv
    rw [z18, Ev.kz1 (by simpa using hk), Ev.kz2 (kz5 hk), yz9, Ev.kz0 hf, Ev.zz2 hp, yz9, wrk (by omega)]; exact hv
 have hc : Ev (fun n => yzj n (zfu e).1 (mks m) (mvs m)) (!within K e, mks m, mvs m) := by
  rw [zcy, yz9, Ev.kz0 (by rw [zeg, yz9]; exact h1), Ev.zz0, h2, yz9, within, ← List.not_all_eq_any_not]
 rw [ya0, zz1.yz4, Ev.kz0 (ymh hw hs), yz9, Ev.kz0 hc, Ev.zz0, yz9]
theorem y47 {l : List zz1} {m : List (List UInt8 × Bool)} {K : List (List UInt8)} (hm : MK m K) (hw : ∀ e ∈ l, e.wf) (hs : ∀ e ∈ l, e.size ≤ 8388608) (hl : l.length ≤ 8388608) : Ev (fun n => yzg n l (mks m) (mvs m)) (!l.all (within K), mks m, mvs m) := by
 obtain ⟨i, h1, h2⟩ := y6l (L := fun n k => kzd n k l (l.length : Int) (mks m) (mvs m)) (l := l) (p := fun e => !within K e) (st := (mks m, mvs m))
  (by rw [z10, Ev.zz2 (by simp), Ev.zz0, yz9]) fun k hk v => by
   have hx := List.getElem_mem hk
   have hf : Ev (fun n => z8s n l[k] (mks m) (mvs m)) (!within K l[k], mks m, mvs m) := by
    rw [zyv, yz9, zz1.yz4, Ev.kz0 (y72 hm (hw _ hx) (hs _ hx)), Ev.zz0, yz9]
   constructor
   ·intro hp
    rw [z10, Ev.kz1 (by simpa using hk), Ev.kz2 (kz5 hk), yz9, zz1.yz4, Ev.kz0 hf, Ev.kz1 hp, Ev.zz0, yz9]
   ·intro hp hv
    rw [z10, Ev.kz1 (by simpa using hk), Ev.kz2 (kz5 hk), yz9, zz1.yz4, Ev.kz0 hf, Ev.zz2 hp, yz9, wrk (by omega)]; exact hv
 rw [zcr, yz9, Ev.kz0 (by rw [ze9, yz9]; exact h1), Ev.zz0, h2, yz9, ← List.not_all_eq_any_not]
theorem ylu {l : List (List UInt8)} : (∃ k, ∃ h : k < l.length, atI l l[k] < (k : Int)) ↔ ¬ l.Nodup := by
 constructor
 ·rintro ⟨k, hk, h⟩ hn
  obtain ⟨i, hi, h1, h2, _⟩ := zvq (List.getElem_mem hk)
  have := (List.getElem_inj hn).1 h2
  omega
 ·intro h
  rw [List.nodup_iff_pairwise_ne, List.pairwise_iff_getElem] at h
  simp only [Classical.not_forall] at h
  obtain ⟨i, j, hi, hj, hij, h⟩ := h
  have h := Classical.not_not.1 h
  refine ⟨j, hj, ?_⟩
  obtain ⟨a, ha, h1, h2, h3⟩ := zvq (List.getElem_mem hj)
  rw [h1]
  have : a ≤ i := Nat.le_of_not_lt fun q => h3 i q (by rw [h])
  omega
noncomputable def dup (l : List (List UInt8)) : Bool := @decide (¬ l.Nodup) (Classical.propDecidable _)
theorem ylk {l : List (List UInt8)} : dup l = true ↔ ¬ l.Nodup := @decide_eq_true_iff _ (Classical.propDecidable _)
theorem ys0 {l : List (List UInt8)} : dup l = false ↔ l.Nodup := by rw [← Bool.not_eq_true, ylk, Classical.not_not]
theorem y6m {γ : Type} {L : Nat → Int → Option γ} {l : List (List UInt8)} {t f : γ} (he : Ev (fun n => L n (l.length : Int)) f)
  (hs : ∀ k (h : k < l.length) v, Ev (fun n => L n ((k + 1 : Nat) : Int)) v → Ev (fun n => L n (k : Int)) (if decide (atI l l[k] < (k : Int)) = true then t else v)) : Ev (fun n => L n 0) (if dup l = true then t else f) := by
 have : ∀ k, k ≤ l.length → ∀ b : Bool, (b = true ↔ ∃ j, k ≤ j ∧ ∃ h : j < l.length, atI l l[j] < (j : Int)) → Ev (fun n => L n (k : Int)) (if b = true then t else f) :=
  down (fun b hb => by
   rw [if_neg fun h => by obtain ⟨j, h1, h2, _⟩ := hb.1 h; omega]; exact he) fun k hk ih b hb => by
   by_cases h : atI l l[k] < (k : Int)
   ·rw [if_pos (hb.2 ⟨k, Nat.le_refl _, hk, h⟩)]
    have := hs k hk _ (ih (@decide _ (Classical.propDecidable _)) (@decide_eq_true_iff _ (Classical.propDecidable _)))
    rwa [if_pos (decide_eq_true h)] at this
   ·have hb' : b = true ↔ ∃ j, k + 1 ≤ j ∧ ∃ h : j < l.length, atI l l[j] < (j : Int) := by
     rw [hb]
     constructor
     ·rintro ⟨j, h1, h2, h3⟩
      refine ⟨j, ?_, h2, h3⟩
      rcases Nat.lt_or_ge k j with q | q
      ·exact q
      ·have e : j = k := by omega
       subst e; exact (h h3).elim
     ·rintro ⟨j, h1, h2⟩
      exact ⟨j, by omega, h2⟩
    have := hs k hk _ (ih b hb')
    rwa [if_neg (by simpa using h)] at this
 have := this 0 (Nat.zero_le _) (dup l) (by rw [ylk, ← ylu]; exact ⟨fun ⟨k, h⟩ => ⟨k, Nat.zero_le _, h⟩, fun ⟨k, _, h⟩ => ⟨k, h⟩⟩)
 simpa using this
theorem y0e {l : List (List UInt8)} (hb : l.length ≤ 8388608) : Ev (fun n => z8z n l) (dup l) := by
 rw [y36, ← ifB (dup l)]
 refine y6m (L := fun n k => z52 n k l) (by rw [zmv, Ev.zz2 (by simp), Ev.zz0]) fun k hk v hv => ?_
 rw [zmv, Ev.kz1 (by simpa using hk), Ev.kz2 (kz5 hk), Ev.kz0 (zo3 hb), wrk (by omega), Ev.pif, Ev.zz0]
 split
 ·rfl
 ·exact hv
theorem zo0 {l : List (List UInt8)} {s : List UInt8} (hb : l.length ≤ 8388608) : Ev (fun n => z2g n s l) (atI l s, l) := by
 have h := y77 (L := fun n k => (kzt n k s l).map Prod.fst) (l := l) (s := s) (p := fun x => x == s) (fun x => by simp) hb fun n k => by
  show (kzt (n + 1) k s l).map Prod.fst = _
  rw [kzt.eq_2]
  cases decide (k < (l.length : Int))
  ·rfl
  ·cases hx : ix l k with
   | none => rfl
   | some x => show (pIf (x == s) _ _).map Prod.fst = pIf (x == s) _ _; cases (x == s) <;> rfl
 have h2 : ∀ n k r, kzt n k s l = some r → r.2 = l := fun n => by
  induction n with
  | zero => intro k r hr; cases hr
  | succ n ih =>
    intro k r hr
    rw [kzt.eq_2] at hr
    cases hc : decide (k < (l.length : Int)) <;> rw [hc] at hr
    · injection hr with hr; rw [← hr]
    · cases hx : ix l k with
      | none => rw [hx] at hr; cases hr
      | some x =>
        rw [hx] at hr
        change pIf (x == s) _ _ = _ at hr
        cases hq : (x == s) <;> rw [hq] at hr
        · exact ih _ _ hr
        · injection hr with hr; rw [← hr]
 rw [y3v]
 obtain ⟨n, hn⟩ := h
 refine ⟨n, fun m hm => ?_⟩
 have := hn m hm
 change (kzt m 0 s l).map Prod.fst = _ at this
 show kzt m 0 s l = _
 cases hr : kzt m 0 s l with
 | none => rw [hr] at this; cases this
 | some r =>
   rw [hr] at this
   injection this with this
   have e := h2 _ _ _ hr
   obtain ⟨r1, r2⟩ := r
   simp only at this e; rw [this, e]
theorem yg4 {l : List (List UInt8)} (hb : l.length ≤ 8388608) : Ev (fun n => z7e n l) (dup l, l) := by
 have e : (dup l, l) = if dup l = true then (true, l) else (false, l) := by cases dup l <;> rfl
 rw [zvs, e]
 refine y6m (L := fun n k => z1h n k l) (by rw [zj4, Ev.zz2 (by simp), Ev.zz0]) fun k hk v hv => ?_
 rw [zj4, Ev.kz1 (by simpa using hk), Ev.kz2 (kz5 hk), Ev.kz0 (zo0 hb), wrk (by omega), Ev.pif, Ev.zz0]
 split
 ·rfl
 ·exact hv
noncomputable def ynn (p : yz0) : Bool := dup (kzq p) || (dup (yz8 p) || p.rules.any fun r => dup (r.params ++ kzq p))
theorem ycr {p : yz0} (hs : p.size ≤ 4000000) : Ev (fun n => z8v n p) (ynn p) := by
 have := @zqk p
 have := @zi5 p
 have ha : (kzq p).length = p.attrs.length := by simp [kzq]
 have hr : (yz8 p).length = p.rules.length := by simp [yz8]
 have l1 : Ev (fun n => z0w n 0 p) (if (p.rules.any fun r => dup (r.params ++ kzq p)) = true then true else false) := by
  refine zmq (L := fun n k => z0w n k p) (by rw [zjq, Ev.zz2 (by simp), Ev.zz0]) fun k hk v hv => ?_
  have := zis (List.getElem_mem hk)
  have := @zr6 p.rules[k]
  rw [zjq, Ev.kz1 (by simpa using hk), Ev.kz2 (kz5 hk), Ev.kz2 (z7b (by simp only [List.length_append, List.length_cons, List.length_nil]; omega)), List.nil_append, Ev.kz0 (zsa (by omega)), Ev.kz2 (z7b (by omega)), Ev.kz0 (yg4 (by rw [List.length_append]; omega)), wrk (by omega), Ev.pif, Ev.zz0]
  split
  ·rfl
  ·exact hv
 have l0 : ∀ b, Ev (fun n => z1v n b p) (b || p.rules.any fun r => dup (r.params ++ kzq p)) := fun b => by
  cases b
  ·rw [zjo, Ev.zz2 (by rfl), ifB] at *; exact l1
  ·rw [zjo, Ev.kz1 (by rfl), Ev.zz0]; rfl
 rw [zxz, Ev.kz0 (zsa (by omega)), Ev.kz0 (y0e (by omega)), ynn]
 cases dup (kzq p)
 ·rw [Ev.zz2 (by rfl), Ev.kz0 (zj3 (by omega)), Ev.kz0 (y0e (by omega))]; exact l0 _
 ·rw [Ev.kz1 (by rfl)]; exact l0 true
end Go.Proofs.YtflgdagdibabiaaGreat


namespace Go.Proofs.YtflgdagdibabiaaGreat
open Go Go.Ab
set_option linter.unusedVariables false
set_option linter.unusedSimpArgs false
noncomputable def kA : List (List UInt8) → List kz9 → Bool
 | _, [] => true
 | pre, t :: l => within pre t.value && kA (pre ++ [t.name]) l
def scope (p : yz0) (r : kz4) : List (List UInt8) := ([[115, 120], [115, 121], [115, 122]] ++ kzq p) ++ r.params
noncomputable def kR (p : yz0) (r : kz4) : Bool := (zrt r).all (within (scope p r)) && (zz6 r).all fun c => decide (c.1 ∈ yz8 p)
noncomputable def zxk (p : yz0) : Bool := kA [] p.attrs && p.rules.all (kR p)
def yp8 (p : yz0) (s : List UInt8) : Int := match p.rules[(atI (yz8 p) s).toNat]? with
 | some r => r.params.length
 | none => -1
def zjc (p : yz0) (r : kz4) : Bool := (zz6 r).any fun c => decide (c.1 ∈ yz8 p) && (c.2 != yp8 p c.1)
def y5c (p : yz0) : Bool := p.rules.any (zjc p)
noncomputable def z6w (p : yz0) : Int := if y06 p = true then 4 else if zfp p = true then (if ynn p = true then 14 else if zxk p = true then (if y5c p = true then 2 else 0) else 6) else 8
theorem zit {p : yz0} {k : Nat} (h : k < p.attrs.length) : (kzq p).take (k + 1) = (kzq p).take k ++ [p.attrs[k].name] := by
 rw [List.take_add_one]
 simp only [kzq, List.getElem?_map, List.getElem?_eq_getElem h, Option.map_some, Option.toList_some]
theorem zr0 {p : yz0} {k : Nat} (h : k < p.rules.length) : (yz8 p).take (k + 1) = (yz8 p).take k ++ [p.rules[k].name] := by
 rw [List.take_add_one]
 simp only [yz8, List.getElem?_map, List.getElem?_eq_getElem h, Option.map_some, Option.toList_some]
theorem ysc {α : Type} {l : List α} {k : Nat} (h : k ≤ l.length) : sub l 0 (k : Int) = some (l.take k) := by
 unfold sub
 rw [if_pos (by omega)]; simp
theorem yqj (p : yz0) (r : kz4) : (scope p r).length = 3 + p.attrs.length + r.params.length := by simp [scope, kzq]; omega
theorem zpx {p : yz0} {s : List UInt8} (h : s ∈ yz8 p) : ∃ i : Nat, ∃ hi : i < p.rules.length, atI (yz8 p) s = (i : Int) ∧ p.rules[i].name = s ∧ yp8 p s = (p.rules[i].params.length : Int) := by
 obtain ⟨i, hi, h1, h2, _⟩ := zvq h
 have hi' : i < p.rules.length := by simpa [yz8] using hi
 refine ⟨i, hi', h1, by simpa [yz8] using h2, ?_⟩
 unfold yp8
 rw [h1, Int.toNat_natCast, List.getElem?_eq_getElem hi']
theorem ykk {p : yz0} (hs : p.size ≤ 4000000) (hf : zfp p = true) : Ev (fun n => zb9 n p) (zxk p) := by
 have := @zqk p
 have := @zi5 p
 have ha : (kzq p).length = p.attrs.length := by simp [kzq]
 have hr : (yz8 p).length = p.rules.length := by simp [yz8]
 have l1 : Ev (fun n => z29 n 0 (kzq p) p) (if p.rules.all (kR p) = true then true else false) := by
  refine zak (L := fun n k => z29 n k (kzq p) p) (by rw [zm3, Ev.zz2 (by simp), Ev.zz0]) fun k hk v hv => ?_
  have hm := List.getElem_mem hk
  have := zis hm
  have := @zr6 p.rules[k]
  have := @zr4 p.rules[k]
  have hsc := yqj p p.rules[k]
  have hcl := zai p.rules[k]
  have l4 : Ev (fun n => z27 n 0 ((zz6 p.rules[k]).map toG) (kzq p) (k : Int) p) (if ((zz6 p.rules[k]).all fun c => decide (c.1 ∈ yz8 p)) = true then v else false) := by
   refine zak (L := fun n j => z27 n j ((zz6 p.rules[k]).map toG) (kzq p) (k : Int) p) (by rw [zmy, Ev.zz2 (by simp), wrk (by omega)]; exact hv) fun j hj w hw => ?_
   have hj' : j < ((zz6 p.rules[k]).map toG).length := by simpa using hj
   rw [zmy, Ev.kz1 (by simpa using hj), Ev.kz0 (zj3 (by omega)), Ev.kz2 (kz5 hj'), List.getElem_map, Ev.kz0 (zo3 (by omega))]
   show Ev (fun n => pIf (decide (atI (yz8 p) (zz6 p.rules[k])[j].1 < 0)) _ _) _
   by_cases h : (zz6 p.rules[k])[j].1 ∈ yz8 p
   ·rw [Ev.zz2 (decide_eq_false fun q => zam.1 q h), decide_eq_true h, wrk (by omega)]; exact hw
   ·rw [Ev.kz1 (decide_eq_true (zam.2 h)), decide_eq_false h, Ev.zz0]; rfl
  have l2 : Ev (fun n => z2a n (scope p p.rules[k]) 0 (kzq p) (k : Int) p.rules[k] p) (if (p.rules[k].cases.all fun c => (zed c).all (within (scope p p.rules[k]))) = true then (if ((zz6 p.rules[k]).all fun c => decide (c.1 ∈ yz8 p)) = true then v else false) else false) := by
   refine zak (L := fun n j => z2a n (scope p p.rules[k]) j (kzq p) (k : Int) p.rules[k] p) (by rw [zlv, Ev.zz2 (by simp), Ev.kz0 (zq1 (by omega) fun c hc a ha => zw6 (zwy hf _ hm c hc a ha))]; exact l4) fun j hj w hw => ?_
   have := zqh (List.getElem_mem hj)
   have hel := zuw p.rules[k].cases[j]
   rw [zlv, Ev.kz1 (by simpa using hj), Ev.kz2 (kz5 hj), zz5.yz4, Ev.kz0 (yjb (by omega))]
   refine zak (L := fun n i => z3y n i (scope p p.rules[k]) (zed p.rules[k].cases[j]) (kzq p) (k : Int) (j : Int) p.rules[k] p) (by rw [znd, Ev.zz2 (by simp), wrk (by omega)]; exact hw) fun i hi u hu => ?_
   have := (zv1 (List.getElem_mem hi)).1
   rw [znd, Ev.kz1 (by simpa using hi), Ev.kz2 (kz5 hi), zz1.yz4, Ev.kz0 (zwn (by omega) (by omega))]
   cases within (scope p p.rules[k]) (zed p.rules[k].cases[j])[i]
   ·rw [Ev.kz1 (by rfl), Ev.zz0]; rfl
   ·rw [Ev.zz2 (by rfl), wrk (by omega)]; exact hu
  rw [zm3, Ev.kz1 (by simpa using hk), Ev.kz2 (kz5 hk), Ev.kz2 (z7b (by simp only [List.length_cons, List.length_nil]; omega)), Ev.kz2 (z7b (by simp only [List.length_append, List.length_cons, List.length_nil]; omega)), kR, ifA, zrt, List.all_flatMap]
  exact l2
 have l0 : ∀ k, k ≤ p.attrs.length → Ev (fun n => z4m n (k : Int) (kzq p) p) (if kA ((kzq p).take k) (p.attrs.drop k) = true then p.rules.all (kR p) else false) :=
  down (by
   rw [zmf, Ev.zz2 (by simp), List.drop_length, kA, if_pos rfl, ← ifB (p.rules.all (kR p))]; exact l1) fun k hk ih => by
   have hm := List.getElem_mem hk
   have := y6e hm
   have := @y31 p.attrs[k]
   rw [zmf, Ev.kz1 (by simpa using hk), Ev.kz2 (kz5 hk), Ev.kz2 (ysc (by omega)), zz1.yz4, Ev.kz0 (zwn (by omega) (by simp; omega)), ← List.getElem_cons_drop (h := hk), kA, ifA]
   cases within ((kzq p).take k) p.attrs[k].value
   ·rw [Ev.kz1 (by rfl), Ev.zz0]; rfl
   ·rw [Ev.zz2 (by rfl), wrk (by omega), if_pos rfl, ← zit hk]; exact ih
 have := l0 0 (Nat.zero_le _)
 rw [y46, Ev.kz0 (zsa (by omega)), zxk]
 refine Ev.to this ?_
 rw [List.drop_zero, List.take_zero]
 cases kA [] p.attrs <;> rfl
theorem zj8 {p : yz0} (hw : p.wf) (hs : p.size ≤ 4000000) : Ev (fun n => z2k n p) (z6w p) := by
 have := @zi5 p
 have hr : (yz8 p).length = p.rules.length := by simp [yz8]
 rw [y3r, Ev.kz0 (ynz (by omega)), z6w]
 cases y06 p
 case true => rw [Ev.kz1 (by rfl), Ev.zz0]; rfl
 rw [Ev.zz2 (by rfl), Ev.kz0 (yht hw (by omega)), if_neg (by simp)]
 cases hf : zfp p
 case false => rw [Ev.kz1 (by rfl), Ev.zz0]; rfl
 rw [Ev.zz2 (by rfl), Ev.kz0 (ycr hs), if_pos rfl]
 cases ynn p
 case true => rw [Ev.kz1 (by rfl), Ev.zz0]; rfl
 rw [Ev.zz2 (by rfl), Ev.kz0 (ykk hs hf), if_neg (by simp)]
 cases hk : zxk p
 case false => rw [Ev.kz1 (by rfl), Ev.zz0]; rfl
 rw [Ev.zz2 (by rfl), if_pos rfl]
 have hkr := List.all_eq_true.1 (Bool.and_eq_true_iff.1 hk).2
 refine zmq (L := fun n k => z4u n k p) (by rw [zmc, Ev.zz2 (by simp), Ev.zz0]) fun k hk v hv => ?_
 have hm := List.getElem_mem hk
 have := zis hm
 have hcl := zai p.rules[k]
 have hkc := List.all_eq_true.1 (Bool.and_eq_true_iff.1 (hkr _ hm)).2
 rw [zmc, Ev.kz1 (by simpa using hk), Ev.kz2 (kz5 hk), Ev.kz0 (zq1 (by omega) fun c hc a ha => zw6 (zwy hf _ hm c hc a ha))]
 refine zmq (L := fun n j => z45 n j ((zz6 p.rules[k]).map toG) (k : Int) p) (by rw [zmx, Ev.zz2 (by simp), wrk (by omega)]; exact hv) fun j hj w hw => ?_
 have hj' : j < ((zz6 p.rules[k]).map toG).length := by simpa using hj
 have hc := hkc _ (List.getElem_mem hj)
 obtain ⟨i, hi, h1, h2, h3⟩ := zpx (of_decide_eq_true hc)
 rw [zmx, Ev.kz1 (by simpa using hj), Ev.kz2 (kz5 hj'), Ev.kz0 (zj3 (by omega)), Ev.kz2 (kz5 hj'), List.getElem_map, Ev.kz0 (zo3 (by omega))]
 show Ev (fun n => (ix p.rules (atI (yz8 p) (zz6 p.rules[k])[j].1)).bind _) _
 rw [h1, Ev.kz2 (kz5 hi), hc, h3, Bool.true_and, wrk (by omega)]
 show Ev (fun n => pIf ((zz6 p.rules[k])[j].2 != (p.rules[i].params.length : Int)) _ _) _
 cases (zz6 p.rules[k])[j].2 != (p.rules[i].params.length : Int)
 ·rw [Ev.zz2 rfl]; exact hw
 ·rw [Ev.kz1 rfl, Ev.zz0]; rfl
end Go.Proofs.YtflgdagdibabiaaGreat

