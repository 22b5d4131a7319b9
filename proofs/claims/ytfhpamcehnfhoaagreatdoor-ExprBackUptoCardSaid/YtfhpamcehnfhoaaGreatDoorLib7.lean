/-
  A MACHINE THAT RUNS CLOSED CALLS BY RECKONING: code and calls.
-/
import Derived.Test.YtfhpamcehnfhoaaGreatDoorLib6
import Derived.Lib.Bytealg
import Derived.Lib.Builder
import Derived.Laws.Externs
namespace Go.Ab
open Go
set_option linter.unusedVariables false
set_option linter.unusedSimpArgs false
mutual
def V.data : V → Bool
 | .ptr _ _ _ => false
 | .ap _ _ _ _ _ => false
 | .hs _ _ _ _ _ _ => false
 | .map _ _ => false
 | .ref cs _ => V.zf6 cs
 | .sl _ xs _ => V.zf6 xs
 | .fn _ a b => V.zf6 a && V.zf6 b
 | .iface _ v => V.data v
 | .agg cs => V.zf6 cs
 | .tup vs => V.zf6 vs
 | _ => true
def V.zf6 : List V → Bool
 | [] => true
 | v :: vs => V.data v && V.zf6 vs
end
mutual
theorem y84 {D : Nat → Nat → Prop} : ∀ {v : V}, v.data = true → V.kin D v
 | .any, _ => by simp [V.kin]
 | .bool _, _ => by simp [V.kin]
 | .int _ _, _ => by simp [V.kin]
 | .str _, _ => by simp [V.kin]
 | .nilp, _ => by simp [V.kin]
 | .ptr _ _ _, h => by simp [V.data] at h
 | .ref cs _, h => by simp only [V.data] at h; simp only [V.kin]; exact zf0 h
 | .ap _ _ _ _ _, h => by simp [V.data] at h
 | .nils, _ => by simp [V.kin]
 | .sl _ xs _, h => by simp only [V.data] at h; simp only [V.kin]; exact zf0 h
 | .hs _ _ _ _ _ _, h => by simp [V.data] at h
 | .mapn, _ => by simp [V.kin]
 | .map _ _, h => by simp [V.data] at h
 | .fn _ a b, h => by simp only [V.data, Bool.and_eq_true] at h; simp only [V.kin]; exact ⟨zf0 h.1, zf0 h.2⟩
 | .nilf, _ => by simp [V.kin]
 | .iface _ v, h => by simp only [V.data] at h; simp only [V.kin]; exact y84 h
 | .nili, _ => by simp [V.kin]
 | .agg cs, h => by simp only [V.data] at h; simp only [V.kin]; exact zf0 h
 | .tup vs, h => by simp only [V.data] at h; simp only [V.kin]; exact zf0 h
theorem zf0 {D : Nat → Nat → Prop} : ∀ {vs : List V}, V.zf6 vs = true → V.zc7 D vs
 | [], _ => by simp [V.zc7]
 | v :: vs, h => by simp only [V.zf6, Bool.and_eq_true] at h; simp only [V.zc7]; exact ⟨y84 h.1, zf0 h.2⟩
end
def zln (f : V → Option V) : List V → Option (List V)
 | [] => some []
 | v :: vs => match f v, zln f vs with
   | some u, some us => some (u :: us)
   | _, _ => none
def frz (lv : Nat) (g : Nat → Nat → Option yz4) : Nat → V → Option V
 | 0, _ => none
 | k + 1, v => match v with
   | .hs l i ver off n full => match g l i with
     | some (.arr ver' ty sz xs cp) => match Nat.beq l lv && Nat.beq ver' ver with
       | true => match zln (frz lv g k) ((xs.drop off).take n) with
         | some ys => match Nat.beq ys.length n with
           | true => some (.sl sz ys false)
           | false => none
         | none => none
       | false => none
     | _ => none
   | .agg vs => (zln (frz lv g k) vs).map .agg
   | .tup vs => (zln (frz lv g k) vs).map .tup
   | .sl sz xs b => match V.zf6 xs with
     | true => some (.sl sz xs b)
     | false => (zln (frz lv g k) xs).map fun ys => .sl sz ys false
   | v => match V.data v with
     | true => some v
     | false => none
theorem zos {f : V → Option V} : ∀ {vs us : List V}, zln f vs = some us → us.length = vs.length ∧ ∀ (j : Nat) (v u : V), vs[j]? = some v → us[j]? = some u → f v = some u
 | [], us, h => by simp only [zln, Option.some.injEq] at h; subst h; exact ⟨rfl, by simp⟩
 | v :: vs, us, h => by
   simp only [zln] at h
   split at h
   · rename_i u us' h1 h2
     injection h with h; subst h
     obtain ⟨k1, k2⟩ := zos h2
     refine ⟨by simp [k1], fun j a b ha hb => ?_⟩
     cases j with
     | zero => simp at ha hb; subst ha; subst hb; exact h1
     | succ j => exact k2 j a b (by simpa using ha) (by simpa using hb)
   · cases h
theorem zim {lv m : Nat} {g : Nat → Nat → Option yz4} {H : Heap} (hg : ∀ l i o, g l i = some o → H.get l i = some o) (hlv : H.lv = lv) : ∀ (k : Nat) {v u : V}, frz lv g k v = some u →
  VS H (outer m) v u ∧ v.cells.length = u.cells.length ∧ ∀ (t : Nat) (a b : V), v.cells[t]? = some a → u.cells[t]? = some b → VS H (outer m) a b
 | 0, v, u, h => by cases h
 | k + 1, v, u, h => by
   have one : ∀ {v u : V}, v.cells = [v] → u.cells = [u] → VS H (outer m) v u → VS H (outer m) v u ∧ v.cells.length = u.cells.length ∧ ∀ (t : Nat) (a b : V), v.cells[t]? = some a → u.cells[t]? = some b → VS H (outer m) a b := fun {v u} h1 h2 h3 => by
     refine ⟨h3, by rw [h1, h2]; rfl, fun t a b ha hb => ?_⟩
     rw [h1] at ha; rw [h2] at hb
     cases t with
     | zero => simp at ha hb; subst ha; subst hb; exact h3
     | succ t => simp at ha
   have leaf : ∀ {v : V}, v.cells = [v] → (match V.data v with | true => some v | false => none) = some u → VS H (outer m) v u ∧ v.cells.length = u.cells.length ∧ ∀ (t : Nat) (a b : V), v.cells[t]? = some a → u.cells[t]? = some b → VS H (outer m) a b := fun {v} hc hh => by
     split at hh
     · rename_i hd
       injection hh with hh; subst hh
       exact one hc hc (.keep _ (y84 hd))
     · cases hh
   cases v with
   | hs l i ver off n full =>
     simp only [frz] at h
     split at h
     · rename_i ver' ty sz xs cp ho
       split at h
       · rename_i hb
         simp only [Bool.and_eq_true] at hb
         have e1 : l = lv := Nat.eq_of_beq_eq_true hb.1
         have e2 : ver' = ver := Nat.eq_of_beq_eq_true hb.2
         subst e2
         split at h
         · rename_i ys hys
           split at h
           · rename_i hn
             have hn : ys.length = n := Nat.eq_of_beq_eq_true hn
             injection h with h; subst h
             obtain ⟨k1, k2⟩ := zos hys
             have get : ∀ (j : Nat) (x y : V), xs[off + j]? = some x → ys[j]? = some y → frz lv g k x = some y := fun j x y hx hy => by
               have hj := (List.getElem?_eq_some_iff.1 hy).1
               refine k2 j x y ?_ hy
               rw [List.getElem?_take, if_pos (by omega), List.getElem?_drop]; exact hx
             refine one rfl rfl (.hs l i ver' ty sz off n full xs ys cp (by rw [e1, hlv]) (hg _ _ _ ho) hn (fun j x y hx hy => (zim (m := m) hg hlv k (get j x y hx hy)).2.1) (fun j x y t a b hx hy ha hb => (zim (m := m) hg hlv k (get j x y hx hy)).2.2 t a b ha hb))
           · cases h
         · cases h
       · cases h
     · cases h
   | agg vs =>
     simp only [frz, Option.map_eq_some_iff] at h
     obtain ⟨us, h1, rfl⟩ := h
     obtain ⟨k1, k2⟩ := zos h1
     have get : ∀ (j : Nat) (a b : V), vs[j]? = some a → us[j]? = some b → VS H (outer m) a b := fun j a b ha hb => (zim (m := m) hg hlv k (k2 j a b ha hb)).1
     exact ⟨.agg _ _ k1.symm get, k1.symm, get⟩
   | tup vs =>
     simp only [frz, Option.map_eq_some_iff] at h
     obtain ⟨us, h1, rfl⟩ := h
     obtain ⟨k1, k2⟩ := zos h1
     exact one rfl rfl (.tup _ _ k1.symm fun j a b ha hb => (zim (m := m) hg hlv k (k2 j a b ha hb)).1)
   | sl sz xs b =>
     simp only [frz] at h
     split at h
     · rename_i hd
       injection h with h; subst h
       exact one rfl rfl (.keep _ (by simp only [V.kin]; exact zf0 hd))
     · simp only [Option.map_eq_some_iff] at h
       obtain ⟨ys, h1, rfl⟩ := h
       obtain ⟨k1, k2⟩ := zos h1
       exact one rfl rfl (.sl _ _ _ _ k1.symm (fun j x y hx hy => (zim (m := m) hg hlv k (k2 j x y hx hy)).2.1) (fun j x y t a b hx hy ha hb => (zim (m := m) hg hlv k (k2 j x y hx hy)).2.2 t a b ha hb))
   | any => exact leaf rfl h
   | bool _ => exact leaf rfl h
   | int _ _ => exact leaf rfl h
   | str _ => exact leaf rfl h
   | nilp => exact leaf rfl h
   | ptr _ _ _ => exact leaf rfl h
   | ref _ _ => exact leaf rfl h
   | ap _ _ _ _ _ => exact leaf rfl h
   | nils => exact leaf rfl h
   | mapn => exact leaf rfl h
   | map _ _ => exact leaf rfl h
   | fn _ _ _ => exact leaf rfl h
   | nilf => exact leaf rfl h
   | iface _ _ => exact leaf rfl h
   | nili => exact leaf rfl h
def kno : IntKind → Nat
 | .i8 => 0 | .i16 => 1 | .i32 => 2 | .i64 => 3 | .u8 => 4 | .u16 => 5 | .u32 => 6 | .u64 => 7
theorem yu6 {a b : IntKind} (h : kno a = kno b) : a = b := by
 cases a <;> cases b <;> first | rfl | cases h
def yjz : Int → Int → Bool
 | .ofNat a, .ofNat b => Nat.beq a b
 | .negSucc a, .negSucc b => Nat.beq a b
 | _, _ => false
theorem yr7 {a b : Int} (h : yjz a b = true) : a = b := by
 cases a <;> cases b <;> simp only [yjz] at h <;> first | cases h | skip
 ·rw [Nat.eq_of_beq_eq_true h]
 ·rw [Nat.eq_of_beq_eq_true h]
def y5h : List UInt8 → List UInt8 → Bool
 | [], [] => true
 | a :: s, b :: t => match Nat.beq a.toNat b.toNat with
   | true => y5h s t
   | false => false
 | _, _ => false
theorem yjo : ∀ {a b : List UInt8}, y5h a b = true → a = b
 | [], [], _ => rfl
 | [], _ :: _, h => by cases h
 | _ :: _, [], h => by cases h
 | a :: s, b :: t, h => by
   simp only [y5h] at h
   split at h
   · rename_i e
     have : a = b := UInt8.toNat_inj.1 (Nat.eq_of_beq_eq_true e)
     rw [this, yjo h]
   · cases h
def y1r : Bool → Bool → Bool
 | true, true => true
 | false, false => true
 | _, _ => false
theorem y6c {a b : Bool} (h : y1r a b = true) : a = b := by cases a <;> cases b <;> first | rfl | cases h
def z8c : Bool → Bool → Bool
 | true, b => b
 | false, _ => false
theorem z4o {a b : Bool} (h : z8c a b = true) : a = true ∧ b = true := by cases a <;> simp [z8c] at h ⊢; exact h
mutual
def V.same : V → V → Bool
 | .any, .any => true
 | .bool a, .bool b => y1r a b
 | .int k a, .int l b => z8c (Nat.beq (kno k) (kno l)) (yjz a b)
 | .str a, .str b => y5h a b
 | .ptr l i o, .ptr m j p => z8c (Nat.beq l m) (z8c (Nat.beq i j) (Nat.beq o p))
 | .ap l i v x o, .ap m j w y p => z8c (Nat.beq l m) (z8c (Nat.beq i j) (z8c (Nat.beq v w) (z8c (Nat.beq x y) (Nat.beq o p))))
 | .hs l i v o n f, .hs m j w p k g => z8c (Nat.beq l m) (z8c (Nat.beq i j) (z8c (Nat.beq v w) (z8c (Nat.beq o p) (z8c (Nat.beq n k) (y1r f g)))))
 | .map l i, .map m j => z8c (Nat.beq l m) (Nat.beq i j)
 | .nilp, .nilp => true
 | .nils, .nils => true
 | .mapn, .mapn => true
 | .nilf, .nilf => true
 | .nili, .nili => true
 | .ref a i, .ref b j => z8c (Nat.beq i j) (V.zdu a b)
 | .sl n a x, .sl m b y => z8c (Nat.beq n m) (z8c (y1r x y) (V.zdu a b))
 | .fn f a b, .fn g c d => z8c (Nat.beq f g) (z8c (V.zdu a c) (V.zdu b d))
 | .iface t a, .iface u b => z8c (Nat.beq t u) (V.same a b)
 | .agg a, .agg b => V.zdu a b
 | .tup a, .tup b => V.zdu a b
 | _, _ => false
def V.zdu : List V → List V → Bool
 | [], [] => true
 | a :: s, b :: t => z8c (V.same a b) (V.zdu s t)
 | _, _ => false
end
mutual
theorem ygl : ∀ {a b : V}, V.same a b = true → a = b
 | .any, b, h => by cases b <;> first | rfl | (simp [V.same] at h; done)
 | .nilp, b, h => by cases b <;> first | rfl | (simp [V.same] at h; done)
 | .nils, b, h => by cases b <;> first | rfl | (simp [V.same] at h; done)
 | .mapn, b, h => by cases b <;> first | rfl | (simp [V.same] at h; done)
 | .nilf, b, h => by cases b <;> first | rfl | (simp [V.same] at h; done)
 | .nili, b, h => by cases b <;> first | rfl | (simp [V.same] at h; done)
 | .bool a, b, h => by
   cases b <;> simp only [V.same] at h <;> first | cases h | rw [y6c h]
 | .int k a, b, h => by
   cases b <;> simp only [V.same] at h <;> first | cases h | skip
   obtain ⟨h1, h2⟩ := z4o h
   rw [yu6 (Nat.eq_of_beq_eq_true h1), yr7 h2]
 | .str a, b, h => by
   cases b <;> simp only [V.same] at h <;> first | cases h | rw [yjo h]
 | .ptr _ _ _, b, h => by
   cases b <;> simp only [V.same] at h <;> first | cases h | skip
   obtain ⟨h1, h2⟩ := z4o h
   obtain ⟨h2, h3⟩ := z4o h2
   rw [Nat.eq_of_beq_eq_true h1, Nat.eq_of_beq_eq_true h2, Nat.eq_of_beq_eq_true h3]
 | .ap _ _ _ _ _, b, h => by
   cases b <;> simp only [V.same] at h <;> first | cases h | skip
   obtain ⟨h1, h2⟩ := z4o h
   obtain ⟨h2, h3⟩ := z4o h2
   obtain ⟨h3, h4⟩ := z4o h3
   obtain ⟨h4, h5⟩ := z4o h4
   rw [Nat.eq_of_beq_eq_true h1, Nat.eq_of_beq_eq_true h2, Nat.eq_of_beq_eq_true h3, Nat.eq_of_beq_eq_true h4, Nat.eq_of_beq_eq_true h5]
 | .hs _ _ _ _ _ _, b, h => by
   cases b <;> simp only [V.same] at h <;> first | cases h | skip
   obtain ⟨h1, h2⟩ := z4o h
   obtain ⟨h2, h3⟩ := z4o h2
   obtain ⟨h3, h4⟩ := z4o h3
   obtain ⟨h4, h5⟩ := z4o h4
   obtain ⟨h5, h6⟩ := z4o h5
   rw [Nat.eq_of_beq_eq_true h1, Nat.eq_of_beq_eq_true h2, Nat.eq_of_beq_eq_true h3, Nat.eq_of_beq_eq_true h4, Nat.eq_of_beq_eq_true h5, y6c h6]
 | .map _ _, b, h => by
   cases b <;> simp only [V.same] at h <;> first | cases h | skip
   obtain ⟨h1, h2⟩ := z4o h
   rw [Nat.eq_of_beq_eq_true h1, Nat.eq_of_beq_eq_true h2]
 | .ref a i, b, h => by
   cases b <;> simp only [V.same] at h <;> first | cases h | skip
   obtain ⟨h1, h2⟩ := z4o h
   rw [Nat.eq_of_beq_eq_true h1, zee h2]
 | .sl n a x, b, h => by
   cases b <;> simp only [V.same] at h <;> first | cases h | skip
   obtain ⟨h1, h2⟩ := z4o h
   obtain ⟨h2, h3⟩ := z4o h2
   rw [Nat.eq_of_beq_eq_true h1, y6c h2, zee h3]
 | .fn f a c, b, h => by
   cases b <;> simp only [V.same] at h <;> first | cases h | skip
   obtain ⟨h1, h2⟩ := z4o h
   obtain ⟨h2, h3⟩ := z4o h2
   rw [Nat.eq_of_beq_eq_true h1, zee h2, zee h3]
 | .iface t a, b, h => by
   cases b <;> simp only [V.same] at h <;> first | cases h | skip
   obtain ⟨h1, h2⟩ := z4o h
   rw [Nat.eq_of_beq_eq_true h1, ygl h2]
 | .agg a, b, h => by
   cases b <;> simp only [V.same] at h <;> first | cases h | rw [zee h]
 | .tup a, b, h => by
   cases b <;> simp only [V.same] at h <;> first | cases h | rw [zee h]
theorem zee : ∀ {a b : List V}, V.zdu a b = true → a = b
 | [], [], _ => rfl
 | [], _ :: _, h => by simp [V.zdu] at h
 | _ :: _, [], h => by simp [V.zdu] at h
 | a :: s, b :: t, h => by
   simp only [V.zdu] at h
   obtain ⟨h1, h2⟩ := z4o h
   rw [ygl h1, zee h2]
end
def yr0 : Option yz4 → Option yz4 → Bool
 | some (.cells a), some (.cells b) => V.zdu a b
 | some (.arr v t s xs none), some (.arr w u z ys none) => z8c (Nat.beq v w) (z8c (Nat.beq t u) (z8c (Nat.beq s z) (V.zdu xs ys)))
 | _, _ => false
theorem yqj {a b : Option yz4} (h : yr0 a b = true) : a = b := by
 unfold yr0 at h
 split at h
 ·rw [zee h]
 ·obtain ⟨h1, h2⟩ := z4o h
  obtain ⟨h2, h3⟩ := z4o h2
  obtain ⟨h3, h4⟩ := z4o h3
  rw [Nat.eq_of_beq_eq_true h1, Nat.eq_of_beq_eq_true h2, Nat.eq_of_beq_eq_true h3, zee h4]
 ·cases h
noncomputable def yun (h h2 : XH) (x : Nat) : Bool := z8c (Nat.blt x h.n) (z8c (Nat.blt x h2.n) (yr0 (BT.get none (path x) h.t) (BT.get none (path x) h2.t)))
abbrev zil := Bool → Nat → List V → Nat → XH → Option (Out × XH)
abbrev zar := Nat → Nat → List V → Option V
inductive XO where
 | val (v : V) (h : XH)
 | pan (v : V) (h : XH)
 | dfr (f : Nat) (args : List V)
 | bad
section
variable (P : Program) (hk : zar) (call : zil) (lv : Nat)
noncomputable def y1s (e : Option Eff) (h : XH) (k : XO) : XO :=
 match e with
 | some e => (match e.onX lv h with
   | some (v, h') => .val v h'
   | none => .bad)
 | none => k
noncomputable def yqz (o : Op) (T : BT V) (h : XH) : XO :=
 y1s lv (y74 P lv (xg lv h) (evT T) o) h (y1s lv (eox P (xg lv h) (evT T) o) h .bad)
def XO.of (r : Option V) (h : XH) : XO := match r with
 | some v => .val v h
 | none => .bad
noncomputable def xop1 (o : Op) (T : BT V) (h : XH) : XO :=
 match o with
 | .move x => .val (evT T x) h
 | .assign x => .val (evT T x) h
 | .load t a => .of (z8f P (z52 (xg lv h) (evT T a)) t (evT T a)) h
 | .binOp op t x y _ => (match zuz P op t (evT T x) (evT T y) with
   | some v => .val v h
   | none => .of (yf1 P (z52 (xg lv h) (evT T x)) op t x y (evT T x) (evT T y)) h)
 | .fieldAddr s x f => .of (z8t P s f (evT T x)) h
 | .call c => match target (evT T) c with
   | some (f, args) => (match hk lv f args with
     | some r => .val r h
     | none => (match call false f args lv h with
       | some (.ret r, h') => .val r h'
       | some (.pan v, h') => .pan v h'
       | none => .bad))
   | none => yqz P lv (.call c) T h
 | .defer c => match target (evT T) c with
   | some (f, args) => .dfr f args
   | none => .bad
 | .panic x => match evT T x with
   | .iface t v => .pan (.iface t v) h
   | _ => .bad
 | o => yqz P lv o T h
abbrev zqd := Option (kz8 × BT V × XH × DL)
noncomputable def yrf (n : Nat) (ops : Array Oper) (o : Oper) (k : BT V → XH → DL → zqd) (T : BT V) (h : XH) (D : DL) : zqd :=
 match zmt ops T o with
 | none => none
 | some false => (match zrg n T o.dst (.tup []) with
   | some T' => k T' h D
   | none => none)
 | some true => (match xop1 P hk call lv o.op T h with
   | .val v h' => (match zrg n T o.dst v with
     | some T' => k T' h' D
     | none => none)
   | .pan v h' => some (.panic v, T, h', D)
   | .dfr f args => (match zrg n T o.dst .any with
     | some T' => k T' h ((f, args) :: D)
     | none => none)
   | .bad => none)
noncomputable def yqr (n : Nat) (ops : Array Oper) (l : List Oper) : BT V → XH → DL → zqd :=
 @List.rec Oper (fun _ => BT V → XH → DL → zqd) (fun T h D => some (.normal, T, h, D)) (fun o _ ih => yrf P hk call lv n ops o ih) l
noncomputable def xq1 (o : Op) (T : BT V) (h : XH) : Option V :=
 match o with
 | .move x => some (evT T x)
 | .assign x => some (evT T x)
 | .binOp op t x y _ => zuz P op t (evT T x) (evT T y)
 | .call c => match target (evT T) c with
   | some (f, args) => (match hk lv f args with
     | some r => some r
     | none => (match call true f args lv h with
       | some (.ret r, _) => some r
       | _ => none))
   | none => xpv P (xg lv h) (evT T) (.call c)
 | o => xpv P (xg lv h) (evT T) o
noncomputable def yl7 (n : Nat) (ops : Array Oper) (o : Oper) (k : BT V → XH → Option (BT V)) (T : BT V) (h : XH) : Option (BT V) :=
 match zmt ops T o with
 | none => none
 | some false => (match zrg n T o.dst (.tup []) with
   | some T' => k T' h
   | none => none)
 | some true => (match xq1 P hk call lv o.op T h with
   | some v => (match zrg n T o.dst v with
     | some T' => k T' h
     | none => none)
   | none => none)
noncomputable def xq (n : Nat) (ops : Array Oper) (l : List Oper) : BT V → XH → Option (BT V) :=
 @List.rec Oper (fun _ => BT V → XH → Option (BT V)) (fun T _ => some T) (fun o _ ih => yl7 P hk call lv n ops o ih) l
def zy8 (ops : Array Oper) : Nat → Option Nat → Option Nat
 | 0, b => b
 | k + 1, b => match Region.lexTailB .any ops k with
   | true => zy8 ops k (some k)
   | false => b
def yux (ops : Array Oper) : Option Nat := match Region.lexB .any ops with
 | true => some ops.size
 | false => zy8 ops ops.size none
def zlf (i : Nat) (R : List Nat) : Bool := R.any (Nat.beq i)
noncomputable def xgR (h : XH) (R : List Nat) (l i : Nat) : Option yz4 := match zlf i R with
 | true => xg lv h l i
 | false => none
def y6j (v : V) : List Nat := match keyOf v with
 | some (l, i) => (match Nat.beq l lv with
   | true => [i]
   | false => [])
 | none => []
noncomputable def zri (T : BT V) (op : Op) : List Nat := match op with
 | .load _ a => y6j lv (evT T a)
 | .indexAddr _ x _ => y6j lv (evT T x)
 | .slice _ x _ _ _ => y6j lv (evT T x)
 | .lookup _ x _ _ => y6j lv (evT T x)
 | .convert _ _ x => y6j lv (evT T x)
 | .binOp _ _ x _ _ => y6j lv (evT T x)
 | .call c => (match c.callee with
   | .builtin _ => c.args.toList.flatMap fun x => y6j lv (evT T x)
   | _ => [])
 | _ => []
def Eff.wr (h : XH) : Eff → List Nat
 | .keep _ => []
 | .push _ _ => [h.n]
 | .set _ i _ _ => [i]
 | .zfh i _ => [i]
inductive CK where
 | quiet (ks : List Nat)
 | eff (ks : List Nat)
 | call (kept : List Nat)
abbrev CL := List (Nat × CK)
def CK.reads : CK → List Nat
 | .quiet ks => ks
 | _ => []
def y6y : CK → CK → Bool
 | .quiet _, .quiet _ => false
 | .quiet a, .eff b => a.any fun k => zlf k b
 | .eff a, .quiet b => a.any fun k => zlf k b
 | .eff _, .eff _ => true
 | .call a, .quiet b => b.any fun k => !zlf k a
 | .quiet b, .call a => b.any fun k => !zlf k a
 | .call _, _ => true
 | _, .call _ => true
noncomputable def y20 (h h2 : XH) (prev : CL) : List Nat := (prev.flatMap fun p => p.2.reads).filter (yun h h2)
def okP (all : List Oper) (i : Nat) (c : CK) (prev : CL) : Bool := prev.all fun p => match y6y c p.2 with
 | false => true
 | true => y6d all p.1 i
def ym0 (all : List Oper) (i n : Nat) : Bool := (List.range' (i + 1) (n - (i + 1))).all fun j => y6d all i j
noncomputable def zx0 (o : Op) (T : BT V) (h : XH) (R : List Nat) : Option V := match o with
 | .makeSlice t n c => zok P t (evT T n) (evT T c)
 | o => match y74 P lv (xgR lv h R) (evT T) o with
   | some (.keep v) => some v
   | _ => xpv P (xgR lv h R) (evT T) o
inductive XC where
 | val (v : V)
 | pan (v : V)
 | flat (f : Nat) (args : List V)
 | bad
def XC.of : Option V → XC
 | some v => .val v
 | none => .bad
noncomputable def yew (o : Op) (T : BT V) (h : XH) (R : List Nat) : XC :=
 match o with
 | .call c => (match target (evT T) c with
   | some (f, args) => (match hk lv f args with
     | some r => .val r
     | none => (match call true f args lv h with
       | some (.ret r, _) => .val r
       | some (.pan v, _) => .pan v
       | none => .flat f args))
   | none => .of (zx0 P lv (.call c) T h R))
 | o => .of (zx0 P lv o T h R)
noncomputable def yus (o : Op) (T : BT V) (h : XH) : Option Eff := match y74 P lv (xg lv h) (evT T) o with
 | some e => some e
 | none => eox P (xg lv h) (evT T) o
abbrev yob := Option (kz8 × BT V × XH)
noncomputable def ylx (n : Nat) (ops : Array Oper) (i : Nat) (o : Oper) (prev : CL) (k : CL → BT V → XH → yob) (T : BT V) (h : XH) : yob :=
 match zmt ops T o with
 | none => none
 | some false => (match zrg n T o.dst (.tup []) with
   | some T' => k ((i, .quiet []) :: prev) T' h
   | none => none)
 | some true => (match yh7 o.op with
   | true => (match yus P lv o.op T h with
     | some e => (match okP ops.toList i (.eff (e.wr h)) prev with
       | true => (match e.onX lv h with
         | some (v, h') => (match zrg n T o.dst v with
           | some T' => k ((i, .eff (e.wr h)) :: prev) T' h'
           | none => none)
         | none => none)
       | false => none)
     | none => none)
   | false => (match yew P hk call lv o.op T h (zri lv T o.op) with
     | .val v => (match okP ops.toList i (.quiet (zri lv T o.op)) prev with
       | true => (match zrg n T o.dst v with
         | some T' => k ((i, .quiet (zri lv T o.op)) :: prev) T' h
         | none => none)
       | false => none)
     | .pan v => (match okP ops.toList i (.call (y20 h h prev)) prev with
       | true => (match ym0 ops.toList i ops.size with
         | true => some (.panic v, .leaf, h)
         | false => none)
       | false => none)
     | .flat f args => (match ym0 ops.toList i ops.size with
       | true => (match call false f args lv h with
         | some (.ret r, h') => (match okP ops.toList i (.call (y20 h h' prev)) prev with
           | true => (match zrg n T o.dst r with
             | some T' => k ((i, .call (y20 h h' prev)) :: prev) T' h'
             | none => none)
           | false => none)
         | some (.pan v, h') => (match okP ops.toList i (.call (y20 h h' prev)) prev with
           | true => some (.panic v, .leaf, h')
           | false => none)
         | none => none)
       | false => none)
     | .bad => none))
noncomputable def ynq (n : Nat) (ops : Array Oper) (l : List Oper) : Nat → CL → BT V → XH → yob :=
 @List.rec Oper (fun _ => Nat → CL → BT V → XH → yob) (fun _ _ T h => some (.normal, T, h)) (fun o _ ih i prev T h => ylx P hk call lv n ops i o prev (ih (Nat.succ i)) T h) l
def ybk (f : BT V → XH → DL → zqd) : zqd → zqd
 | some (.normal, T, h, D) => f T h D
 | r => r
noncomputable def yjw (f : BT V → XH → DL → zqd) (m : Nat) : BT V → XH → DL → zqd :=
 @Nat.rec (fun _ => BT V → XH → DL → zqd) (fun _ _ _ => none) (fun _ ih T h D => ybk ih (f T h D)) m
noncomputable def yoc (n : Nat) (ops : Array Oper) (T : BT V) (h : XH) (D : DL) : zqd := match zws .any ops (List.range' 0 ops.size) (Array.replicate ops.size false) with
 | true => (match ynq P hk call lv n ops ops.toList 0 [] T h with
   | some (e, T', h') => some (e, T', h', D)
   | none => none)
 | false => none
noncomputable def ycg (n : Nat) (ops : Array Oper) (draw : Bool) (T : BT V) (h : XH) (D : DL) : zqd :=
 match draw with
 | false => yqr P hk call lv n ops ops.toList T h D
 | true => match yux ops with
   | some k => (match xq P hk call lv n ops (ops.toList.take k) T h with
     | some T' => yqr P hk call lv n ops (ops.toList.drop k) T' h D
     | none => yoc P hk call lv n ops T h D)
   | none => yoc P hk call lv n ops T h D
noncomputable def yr6 (o : Operand) (fa fb : BT V → XH → DL → zqd) (T : BT V) (h : XH) (D : DL) : zqd :=
 match evT T o with
 | .bool true => fa T h D
 | .bool false => fb T h D
 | _ => none
def ylv (id : Nat) : zqd → zqd
 | some (.exit i, T', h', D') => (match Nat.beq i id with
   | true => some (.normal, T', h', D')
   | false => some (.exit i, T', h', D'))
 | r => r
noncomputable def zqq (n lf : Nat) (c : Code) : BT V → XH → DL → zqd :=
 @Code.rec (fun _ => BT V → XH → DL → zqd) (fun T h D => some (.normal, T, h, D)) (fun _ ops draw => ycg P hk call lv n ops draw) (fun _ _ fa fb T h D => ybk fb (fa T h D)) (fun o _ _ fa fb => yr6 o fa fb)
  (fun id _ f T h D => ylv id (f T h D)) (fun _ f => yjw f lf) (fun _ _ _ _ _ _ _ _ _ => none) (fun id T h D => some (.exit id, T, h, D)) (fun _ _ _ _ _ => none) (fun _ _ _ _ => none) (fun _ _ _ _ => none) (fun T h D => some (.ret, T, h, D)) (fun _ _ _ _ => none) c
noncomputable def resX (g : Nat → Nat → Option yz4) (T : BT V) : ResultVar → Option V
 | .tmp t => some (evT T (.tmp t))
 | .cell a t => z8f P (z52 g (evT T (.tmp a))) t (evT T (.tmp a))
noncomputable def y25 (g : Nat → Nat → Option yz4) (T : BT V) : List ResultVar → Option (List V)
 | [] => some []
 | r :: rs => match resX P g T r, y25 g T rs with
   | some v, some vs => some (v :: vs)
   | _, _ => none
end
section
variable (P : Program) (hk : zar) (call : zil) (lv : Nat)
noncomputable def xS (n lf : Nat) (m : z1k) : Code → BT V → XH → Option (kz8 × BT V × XH)
 | .seq a b, T, h => match xS n lf m a T h with
   | some (.normal, T', h') => (match zqq P hk call lv n lf b T' h' [] with
     | some (e, T2, h2, []) => some (e, T2, h2)
     | _ => none)
   | _ => none
 | .region _ ops draw, T, h => match draw, ops.toList with
   | false, o :: rest => (match isRec o with
     | true => (match zrg n T o.dst m.value with
       | some T' => (match yqr P hk call lv n ops rest T' h [] with
         | some (e, T2, h2, []) => some (e, T2, h2)
         | _ => none)
       | none => none)
     | false => none)
   | _, _ => none
 | _, _, _ => none
noncomputable def yhn (fn : Func) (T : BT V) (h : XH) (m : z1k) : Option (XH × z1k) := match y25 P (xg lv h) T fn.results.toList with
 | some _ => some (h, m)
 | none => none
noncomputable def yuy (lf : Nat) (fn : Func) (b : Code) (vs : List V) (m : z1k) (h : XH) : Option (XH × z1k) := match zqq P hk call lv fn.ntmps lf b (zfl 0 vs .leaf) h [] with
 | some (.ret, T, h', []) => yhn P lv fn T h' m
 | some (.normal, T, h', []) => yhn P lv fn T h' m
 | _ => none
noncomputable def xdef (lf f : Nat) (vs : List V) (m : z1k) (h : XH) : Option (XH × z1k) := match P.funcs[f]? with
 | none => none
 | some fn => match fn.body with
   | none => none
   | some b => match (fn.name == "runtime.NumGoroutine") || !(Nat.ble vs.length fn.ntmps) with
     | true => none
     | false => match xS P hk call lv fn.ntmps lf m b (zfl 0 vs .leaf) h with
       | some (.ret, T, h') => yhn P lv fn T h' m.zdx
       | some (.normal, T, h') => yhn P lv fn T h' m.zdx
       | some _ => none
       | none => yuy P hk call lv lf fn b vs m h
noncomputable def zne (lf : Nat) (fn : Func) (T : BT V) : DL → z1k → XH → Option (Out × XH)
 | [], .ret, h => (match T with
   | .leaf => (match fn.results.toList with
     | [] => some (.ret (za2 []), h)
     | _ :: _ => none)
   | .node _ _ _ => (match y25 P (xg lv h) T fn.results.toList with
     | some vs => some (.ret (za2 vs), h)
     | none => none))
 | [], .pan v false, h => some (.pan v, h)
 | [], .pan _ true, _ => none
 | (f, vs) :: ds, m, h => match xdef P hk call lv lf f vs m h with
   | some (h', m') => zne lf fn T ds m'.settle h'
   | none => none
end
noncomputable def yc9 (P : Program) (hk : zar) (call : zil) (lf : Nat) (fn : Func) (b : Code) (args : List V) (lv : Nat) (h : XH) : Option (Out × XH) :=
 match zqq P hk call lv fn.ntmps lf b (zfl 0 args .leaf) h [] with
 | some (.ret, T, h', D) => zne P hk call lv lf fn T D .ret h'
 | some (.normal, T, h', D) => zne P hk call lv lf fn T D .ret h'
 | some (.panic v, T, h', D) => zne P hk call lv lf fn T D (.pan v false) h'
 | _ => none
noncomputable def yo0 (P : Program) (hk : zar) (call : zil) (lf K : Nat) (fn : Func) (b : Code) (args : List V) (lv : Nat) : Option Out :=
 match yc9 P hk call lf fn b args (Nat.succ lv) ⟨0, .leaf⟩ with
 | some (.ret v, h') => (frz (Nat.succ lv) (xg (Nat.succ lv) h') K v).map .ret
 | some (.pan v, h') => (frz (Nat.succ lv) (xg (Nat.succ lv) h') K v).map .pan
 | none => none
noncomputable def yl2 (P : Program) (hk : zar) (lf K : Nat) (fl : List Nat) (ih : zil) : zil := fun pure f args lv h => match P.funcs[f]? with
 | none => none
 | some fn => match fn.body with
   | none => none
   | some b => match (fn.name == "runtime.NumGoroutine") || !(Nat.ble args.length fn.ntmps) with
     | true => none
     | false => match z8c (V.zf6 args) (!zlf f fl) with
       | true => (match yo0 P hk ih lf K fn b args lv with
         | some o => some (o, h)
         | none => (match pure with
           | true => none
           | false => yc9 P hk ih lf fn b args lv h))
       | false => (match pure with
         | true => none
         | false => yc9 P hk ih lf fn b args lv h)
noncomputable def ynv (P : Program) (hk : zar) (lf K : Nat) (fl : List Nat) (m : Nat) : zil := @Nat.rec (fun _ => zil) (fun _ _ _ _ _ => none) (fun _ ih => yl2 P hk lf K fl ih) m
end Go.Ab


namespace Go.Ab
open Go
set_option linter.unusedVariables false
set_option linter.unusedSimpArgs false
def zan (P : Program) (hk : zar) : Prop := ∀ lv f args r, hk lv f args = some r → ∀ H : Heap, H.lv = lv → ziw P f args H r H
def zlv (P : Program) (call : zil) : Prop := ∀ (pure : Bool) (f : Nat) (args : List V) (lv : Nat) (E : Nat → Nat → Option yz4) (h : XH) (o : Out) (h' : XH) (H : Heap),
 call pure f args lv h = some (o, h') → XHR lv E h H → zny P f args H (fun o' H' => o' = o ∧ XHR lv E h' H') ∧ (pure = true → ∀ H2 : Heap, H2.lv = lv → zny P f args H2 (fun o' H' => o' = o ∧ H' = H2))
theorem znp {P : Program} {f : Nat} {args : List V} {H : Heap} {r : V} (h : zny P f args H (fun o' H' => o' = .ret r ∧ H' = H)) : ziw P f args H r H := fun W g cargs hG hA => by
 obtain ⟨h1, h2⟩ := h W g cargs hG hA
 refine .inl ⟨h1, h2.mono fun e W' ⟨o, H', g', ⟨k1, k2⟩, k3, k4, k5⟩ => ?_⟩
 subst k1; subst k2
 obtain ⟨c, e1, e2⟩ := k5
 exact ⟨c, g', e1, k3, k4, e2⟩
theorem y1x {P : Program} {ρ : Operand → V} {c : Call} {f : Nat} {args : List V} (h : target ρ c = some (f, args)) (H : Heap) : ox P H ρ (.call c) = none ∧ pv P H ρ (.call c) = none := by
 unfold target at h
 split at h
 ·rename_i fo hc
  exact ⟨by simp [ox, z9u, hc], by simp [pv, z9u, hc]⟩
 ·cases h
theorem drop_one {ops : Array Oper} {k : Nat} {o : Oper} (ho : ops[k]? = some o) : (ops.toList.drop k).take 1 = [o] := by
 have hk : k < ops.size := by
  rcases Nat.lt_or_ge k ops.size with q | q
  ·exact q
  ·rw [Array.getElem?_eq_none q] at ho; cases ho
 have ho' : ops[k] = o := by rw [Array.getElem?_eq_getElem hk] at ho; exact Option.some.inj ho
 rw [List.drop_eq_getElem_cons (by simpa using hk)]
 simp [ho']
theorem y9n {W : World} {g : Gh} {H : Heap} {P : Program} {ρ : Operand → V} {r : Operand → Value} (hρ : ∀ x, Rel W g H (ρ x) (r x)) {c : Call} {ty : TypeId} {f : Nat} {args : List V} (h : target ρ c = some (f, args)) :
  ∃ caps as, zjp W g H args (as ++ caps) ∧ ∀ w : World, (resolve r c ty).run P w = .ok ⟨.fn (.func f) caps, as⟩ w := by
 unfold target at h
 split at h
 ·rename_i fo hc
  split at h
  ·rename_i f' first caps hf
   injection h with h; injection h with h1 h2; subst h1; subst h2
   have hr := hρ fo
   rw [hf] at hr
   generalize hrc : r fo = rc at hr
   cases hr with
   | fn _ _ _ fs cs n1 n2 r1 r2 =>
     refine ⟨cs, fs ++ c.args.map r, zf3 (zf3 ⟨n1, r1⟩ (zp0 hρ c.args)) ⟨n2, r2⟩, fun w => ?_⟩
     simp [resolve, hc, hrc, Deferred.ofValue]
  ·cases h
 ·cases h
section
variable {P : Program} {ops : Array Oper} {k : Nat} {σ : St} {Q : kz8 → St → Prop} {o : Oper}
theorem ynj {c : Call} {f : Nat} {args : List V} (ho : ops[k]? = some o) (hw : zzv ops σ o = some true) (hop : o.op = .defer c) (ht : target σ.ev c = some (f, args))
  (h : za3 P ops (k + 1) ({ σ with d := (f, args) :: σ.d }.put o.dst .any) Q) : za3 P ops k σ Q := fun W0 g0 H0 W a g hB hS hG => by
 have hk : k < ops.size := by
  rcases Nat.lt_or_ge k ops.size with q | q
  ·exact q
  ·rw [Array.getElem?_eq_none q] at ho; cases ho
 rw [show ops.size - k = (ops.size - (k + 1)) + 1 by omega, List.range'_succ]
 simp only [wpOps, ho]
 rw [z14 hG hw, if_pos rfl]
 left
 unfold Oper.wp
 obtain ⟨caps, as, k1, k2⟩ := y9n (P := P) (ty := o.type) hG.ev ht
 have hex : (execOp a.eval o).run P W = .ok (.defer ⟨.fn (.func f) caps, as⟩) W := by
  unfold execOp; rw [hop]; simp [k2 W]
 rw [hex]
 have hG2 : kzh W { a with defers := ⟨.fn (.func f) caps, as⟩ :: a.defers } g { σ with d := (f, args) :: σ.d } := by
  refine ⟨hG.good, hG.size, hG.tmps, by simp [hG.dlen], fun j f' vs hj => ?_⟩
  cases j with
  | zero => simp at hj; obtain ⟨rfl, rfl⟩ := hj; exact ⟨caps, as, rfl, k1⟩
  | succ j => exact hG.defs j f' vs (by simpa using hj)
 have hG3 := hG2.next (.refl _ _ _) hG.good (.any undef) o.dst
 have hH : ({ σ with d := (f, args) :: σ.d }.put o.dst .any).H = σ.H := by cases o.dst <;> rfl
 have he : ({ σ with d := (f, args) :: σ.d }.put o.dst .any).e0 = σ.e0 := by cases o.dst <;> rfl
 exact h W0 g0 H0 W _ g hB (by rw [hH, he]; exact hS) hG3
theorem yrz (ho : ops[k]? = some o) (hw : zzv ops σ o = some false) (h : za3 P ops (k + 1) (σ.put o.dst (.tup [])) Q) : za3 P ops k σ Q :=
 zo7 1 [] _ [] (by rw [drop_one ho]; simp [zud, hw]) zlm h
theorem yn3 {c : Call} {f : Nat} {args : List V} {r : V} {H' : Heap} (ho : ops[k]? = some o) (hw : zzv ops σ o = some true) (hop : o.op = .call c) (ht : target σ.ev c = some (f, args)) (hc : ziw P f args σ.H r H')
  (h : za3 P ops (k + 1) ({ σ with H := H' }.put o.dst r) Q) : za3 P ops k σ Q :=
 zo7 1 [(r, some H')] _ [⟨f, args, σ.H, r, H'⟩] (by rw [drop_one ho]; simp [zud, hw, hop, (y1x (P := P) ht σ.H).1, ht]) (zmm hc zlm) h
end
theorem yh1 {lv : Nat} {e : Option Eff} {h h1 : XH} {k : XO} {v : V} (hx : y1s lv e h k = .val v h1) : (∃ ef, e = some ef ∧ ef.onX lv h = some (v, h1)) ∨ (e = none ∧ k = .val v h1) := by
 unfold y1s at hx
 split at hx
 ·rename_i ef
  split at hx
  ·rename_i v' h' ho
   injection hx with a b; subst a; subst b
   exact .inl ⟨ef, rfl, ho⟩
  ·cases hx
 ·exact .inr ⟨rfl, hx⟩
theorem ybl {lv : Nat} {e : Option Eff} {h h1 : XH} {k : XO} {v : V} (hk : k ≠ .pan v h1) : y1s lv e h k ≠ .pan v h1 := fun hx => by
 unfold y1s at hx
 split at hx
 ·split at hx <;> cases hx
 ·exact hk hx
theorem ycb {lv : Nat} {e : Option Eff} {h : XH} {k : XO} {f : Nat} {args : List V} (hk : k ≠ .dfr f args) : y1s lv e h k ≠ .dfr f args := fun hx => by
 unfold y1s at hx
 split at hx
 ·split at hx <;> cases hx
 ·exact hk hx
theorem ypp {P : Program} {ops : Array Oper} {k : Nat} {σ : St} {Q : kz8 → St → Prop} {o : Oper} {v : V} {H' : Heap} (ho : ops[k]? = some o) (hw : zzv ops σ o = some true)
  (ht : ∀ W a g, kzh W a g σ → z8w P W g σ.H (execOp a.eval o) v H') (h : za3 P ops (k + 1) ({ σ with H := H' }.put o.dst v) Q) : za3 P ops k σ Q := fun W0 g0 H0 W a g hB hS hG => by
 have hk : k < ops.size := by
  rcases Nat.lt_or_ge k ops.size with q | q
  ·exact q
  ·rw [Array.getElem?_eq_none q] at ho; cases ho
 rw [show ops.size - k = (ops.size - (k + 1)) + 1 by omega, List.range'_succ]
 simp only [wpOps, ho]
 rw [z14 hG hw, if_pos rfl]
 left
 unfold Oper.wp
 obtain ⟨c, W', g', h1, h2, h3, h4⟩ := ht W a g hG
 have hn := hG.next h2 h3 h4 o.dst
 have hH : ({ σ with H := H' }.put o.dst v).H = H' := by cases o.dst <;> rfl
 have he : ({ σ with H := H' }.put o.dst v).e0 = σ.e0 := by cases o.dst <;> rfl
 have fin := h W0 g0 H0 W' (a.put o.dst c) g' hB (by rw [hH, he]; exact ⟨hS.1, hS.2.trans h2⟩) hn
 rcases h1 with h1 | ⟨h1, rfl⟩
 ·rw [h1]; exact fin
 ·rw [h1]; exact fin
def Does (P : Program) (σ : St) (op : Op) (v : V) (H' : Heap) : Prop := ox P σ.H σ.ev op = some (v, H') ∨ zf4 P σ.H σ.ev op = some (v, H')
theorem ztu {P : Program} {ops : Array Oper} {k : Nat} {σ : St} {Q : kz8 → St → Prop} {o : Oper} {v : V} {H' : Heap} (ho : ops[k]? = some o) (hw : zzv ops σ o = some true) (hx : Does P σ o.op v H') (h : za3 P ops (k + 1) ({ σ with H := H' }.put o.dst v) Q) : za3 P ops k σ Q :=
 ypp ho hw (fun W a g hG => hx.elim (fun q => zxe hG.good hG.ev q) (fun q => zlj hG.good hG.ev q)) h
section
variable {P : Program} {hk : zar} {call : zil} {lv n : Nat} {E : Nat → Nat → Option yz4}
theorem zib (hhk : zan P hk) (hcall : zlv P call) {ops : Array Oper} : ∀ (l : List Oper) (k : Nat) (T : BT V) (h : XH) (D : DL) (σ : St) (e : kz8) (T' : BT V) (h' : XH) (D' : DL), l = ops.toList.drop k → XR n lv E T h D σ →
  yqr P hk call lv n ops l T h D = some (e, T', h', D') → za3 P ops k σ (fun e' σ' => e' = e ∧ XR n lv E T' h' D' σ')
 | [], k, T, h, D, σ, e, T', h', D', hl, hx, hr => by
   have hr : some (kz8.normal, T, h, D) = some (e, T', h', D') := hr
   simp only [Option.some.injEq, Prod.mk.injEq] at hr
   obtain ⟨rfl, rfl, rfl, rfl⟩ := hr
   have hk : ops.size ≤ k := by
     have := congrArg List.length hl
     simp at this; omega
   exact yil hk ⟨rfl, hx⟩
 | o :: rest, k, T, h, D, σ, e, T', h', D', hl, hx, hr => by
   have ho : ops[k]? = some o := by
     have := congrArg (fun x => x[0]?) hl
     simpa using this.symm
   have hrest : rest = ops.toList.drop (k + 1) := by
     rw [← List.tail_drop, ← hl]; rfl
   have hr : yrf P hk call lv n ops o (yqr P hk call lv n ops rest) T h D = some (e, T', h', D') := hr
   unfold yrf at hr
   have hw := hx.wanted ops o
   split at hr
   · cases hr
   · rename_i e1
     split at hr
     · rename_i T1 ht
       exact yrz ho (hw.trans e1) (zib hhk hcall rest (k + 1) T1 h D _ e T' h' D' hrest (hx.yrb ht) hr)
     · cases hr
   · rename_i e1
     have eff : ∀ (op : Op) (v : V) (h1 : XH), o.op = op → yqz P lv op T h = XO.val v h1 → ∃ H1, Does P σ o.op v H1 ∧ XHR lv E h1 H1 := fun op v h1 hop hh => by
       have hgx : ∀ l i o, xg lv h l i = some o → σ.H.get l i = some o := fun l i o ho => hx.heap.xg ho
       rcases yh1 hh with ⟨ef, hef, hon⟩ | ⟨_, hh⟩
       · rw [← hx.heap.lv] at hef
         have hm := zwv (fun l i o ho => hgx l i o (by rw [← hx.heap.lv]; exact ho)) hef
         obtain ⟨q1, q2⟩ := Eff.yn8 hx.heap hon
         exact ⟨(ef.on σ.H).2, .inr (by rw [hx.ev, hop, hm, ← q1]), q2⟩
       · rcases yh1 hh with ⟨ef, hef, hon⟩ | ⟨_, hh⟩
         · have hox := yl1 hgx hef
           obtain ⟨q1, q2⟩ := Eff.yn8 hx.heap hon
           exact ⟨(ef.on σ.H).2, .inl (by rw [hx.ev, hop, hox, ← q1]), q2⟩
         · cases hh
     split at hr
     · rename_i v h1 hxo
       split at hr
       · rename_i T1 ht
         have go : ∀ (H1 : Heap), XHR lv E h1 H1 → za3 P ops (k + 1) ({ σ with H := H1 }.put o.dst v) (fun e' σ' => e' = e ∧ XR n lv E T' h' D' σ') := fun H1 q =>
           zib hhk hcall rest (k + 1) T1 h1 D _ e T' h' D' hrest (hx.put q ht) hr
         have same : ∀ {r : Option V}, XO.of r h = XO.val v h1 → r = some v ∧ h1 = h := fun {r} hh => by
           cases r with
           | none => cases hh
           | some u => injection hh with a b; exact ⟨by rw [a], b.symm⟩
         have quick : ∀ (op : Op) (r : Option V), o.op = op → eox P (xg lv h) (evT T) op = r.map .keep → XO.of r h = XO.val v h1 → za3 P ops k σ (fun e' σ' => e' = e ∧ XR n lv E T' h' D' σ') := fun op r hop hr' hh => by
           obtain ⟨rfl, rfl⟩ := same hh
           have hox := yl1 (fun l i o ho => hx.heap.xg ho) hr'
           exact ztu ho (hw.trans e1) (.inl (by rw [hx.ev, hop, hox]; rfl)) (go σ.H hx.heap)
         unfold xop1 at hxo
         split at hxo
         · rename_i x hop; exact quick _ (some (evT T x)) hop rfl hxo
         · rename_i x hop; exact quick _ (some (evT T x)) hop rfl hxo
         · rename_i t a hop; exact quick _ _ hop rfl hxo
         · rename_i op t x y ty hop
           split at hxo
           · rename_i u hp
             exact quick _ _ hop rfl ((by rw [hp]; exact hxo : XO.of (zuz P op t (evT T x) (evT T y)) h = XO.val v h1))
           · obtain ⟨q1, rfl⟩ := same hxo
             have hm := yic (fun l i o ho => hx.heap.xg ho) q1
             exact ztu ho (hw.trans e1) (.inr (by rw [hop]; simp only [zf4]; rw [hx.ev, hm]; rfl)) (go σ.H hx.heap)
         · rename_i s x f hop; exact quick _ _ hop rfl hxo
         · rename_i c hop
           split at hxo
           · rename_i f args htg
             have htg' : target σ.ev c = some (f, args) := by rw [hx.ev]; exact htg
             split at hxo
             · rename_i r hh
               injection hxo with a b; subst a; subst b
               exact yn3 ho (hw.trans e1) hop htg' (hhk _ _ _ _ hh σ.H hx.heap.lv) (go σ.H hx.heap)
             · split at hxo
               · rename_i r h2 hcl
                 injection hxo with a b; subst a; subst b
                 refine y0n ho (hw.trans e1) hop htg' (hcall _ _ _ _ _ _ _ _ _ hcl hx.heap).1 (fun r' H' ⟨q1, q2⟩ => ?_) (fun v' H' ⟨q1, q2⟩ => by cases q1)
                 injection q1 with q1; subst q1
                 exact go H' q2
               · cases hxo
               · cases hxo
           · rename_i htg
             obtain ⟨H1, q1, q2⟩ := eff _ _ _ hop hxo
             exact ztu ho (hw.trans e1) q1 (go H1 q2)
         · split at hxo <;> cases hxo
         · split at hxo <;> cases hxo
         · obtain ⟨H1, q1, q2⟩ := eff _ _ _ rfl hxo
           exact ztu ho (hw.trans e1) q1 (go H1 q2)
       · cases hr
     · rename_i v h1 hxo
       simp only [Option.some.injEq, Prod.mk.injEq] at hr
       obtain ⟨rfl, rfl, rfl, rfl⟩ := hr
       have noeff : ∀ (op : Op), yqz P lv op T h = XO.pan v h1 → False := fun op hh => ybl (ybl (fun q => by cases q)) hh
       have nopan : ∀ (r : Option V), XO.of r h = XO.pan v h1 → False := fun r hh => by cases r <;> cases hh
       unfold xop1 at hxo
       split at hxo
       · cases hxo
       · cases hxo
       · exact (nopan _ hxo).elim
       · split at hxo
         · cases hxo
         · exact (nopan _ hxo).elim
       · exact (nopan _ hxo).elim
       · rename_i c hop
         split at hxo
         · rename_i f args htg
           have htg' : target σ.ev c = some (f, args) := by rw [hx.ev]; exact htg
           split at hxo
           · cases hxo
           · split at hxo
             · cases hxo
             · rename_i r h2 hcl
               injection hxo with a b; subst a; subst b
               refine y0n ho (hw.trans e1) hop htg' (hcall _ _ _ _ _ _ _ _ _ hcl hx.heap).1 (fun r' H' ⟨q1, q2⟩ => by cases q1) (fun v' H' ⟨q1, q2⟩ => ?_)
               injection q1 with q1; subst q1
               exact ⟨rfl, q2, hx.defers, hx.e0, hx.len, hx.get⟩
             · cases hxo
         · exact (noeff _ hxo).elim
       · split at hxo <;> cases hxo
       · rename_i x hop
         split at hxo
         · rename_i t u hv
           injection hxo with a b; subst a; subst b
           exact y5v ho (hw.trans e1) hop (by rw [hx.ev]; exact hv) ⟨rfl, hx⟩
         · cases hxo
       · exact (noeff _ hxo).elim
     · rename_i f args hxo
       split at hr
       · rename_i T1 ht
         have noeff : ∀ (op : Op), yqz P lv op T h = XO.dfr f args → False := fun op hh => ycb (ycb (fun q => by cases q)) hh
         have noq : ∀ (r : Option V), XO.of r h = XO.dfr f args → False := fun r hh => by cases r <;> cases hh
         unfold xop1 at hxo
         split at hxo
         · cases hxo
         · cases hxo
         · exact (noq _ hxo).elim
         · split at hxo
           · cases hxo
           · exact (noq _ hxo).elim
         · exact (noq _ hxo).elim
         · split at hxo
           · split at hxo
             · cases hxo
             · split at hxo <;> cases hxo
           · exact (noeff _ hxo).elim
         · rename_i c hop
           split at hxo
           · rename_i f' args' htg
             injection hxo with a b; subst a; subst b
             refine ynj ho (hw.trans e1) hop (by rw [hx.ev]; exact htg) (zib hhk hcall rest (k + 1) T1 h ((f', args') :: D) _ e T' h' D' hrest ?_ hr)
             have hx2 : XR n lv E T h ((f', args') :: D) { σ with d := (f', args') :: σ.d } := ⟨hx.heap, by rw [hx.defers], hx.e0, hx.len, hx.get⟩
             exact hx2.yrb ht
           · cases hxo
         · split at hxo <;> cases hxo
         · exact (noeff _ hxo).elim
       · cases hr
     · cases hr
theorem y7u (hhk : zan P hk) (hcall : zlv P call) {ops : Array Oper} : ∀ (l : List Oper) (T : BT V) (h : XH) (D : DL) (σ : St) (T' : BT V), XR n lv E T h D σ → xq P hk call lv n ops l T h = some T' →
  ∃ ans σ' cl, zgq P ops l ans σ = some (σ', [], cl) ∧ (∀ c ∈ cl, c.ok P) ∧ XR n lv E T' h D σ'
 | [], T, h, D, σ, T', hx, hr => by
   have hr : some T = some T' := hr
   injection hr with hr; subst hr
   exact ⟨[], σ, [], rfl, by simp, hx⟩
 | o :: rest, T, h, D, σ, T', hx, hr => by
   have hr : yl7 P hk call lv n ops o (xq P hk call lv n ops rest) T h = some T' := hr
   unfold yl7 at hr
   have hw := hx.wanted ops o
   split at hr
   · cases hr
   · rename_i e1
     split at hr
     · rename_i T1 ht
       obtain ⟨ans, σ', cl, k1, k2, k3⟩ := y7u hhk hcall rest T1 h D _ T' (hx.yrb ht) hr
       exact ⟨ans, σ', cl, by simp only [zgq, hw, e1]; exact k1, k2, k3⟩
     · cases hr
   · rename_i e1
     split at hr
     · rename_i v hv
       split at hr
       · rename_i T1 ht
         obtain ⟨ans, σ', cl, k1, k2, k3⟩ := y7u hhk hcall rest T1 h D _ T' (hx.yrb ht) hr
         have quiet : xpv P (xg lv h) (evT T) o.op = some v → ∃ ans σ' cl, zgq P ops (o :: rest) ans σ = some (σ', [], cl) ∧ (∀ c ∈ cl, c.ok P) ∧ XR n lv E T' h D σ' := fun hq => by
           have hp := ymm (fun l i o ho => hx.heap.xg ho) hq
           rw [← hx.ev] at hp
           exact ⟨ans, σ', cl, by simp only [zgq, hw, e1, hp]; exact k1, k2, k3⟩
         have claim : ∀ (c : Call) (f : Nat) (args : List V), o.op = .call c → target (evT T) c = some (f, args) → ziw P f args σ.H v σ.H → ∃ ans σ' cl, zgq P ops (o :: rest) ans σ = some (σ', [], cl) ∧ (∀ c ∈ cl, c.ok P) ∧ XR n lv E T' h D σ' := fun c f args hop htg hc => by
           rw [← hx.ev] at htg
           refine ⟨v :: ans, σ', ⟨f, args, σ.H, v, σ.H⟩ :: cl, ?_, zmm hc k2, k3⟩
           simp only [zgq, hw, e1, hop, (y1x (P := P) htg σ.H).2, htg, if_true, k1]
         unfold xq1 at hv
         split at hv
         · rename_i x hop; exact quiet (by rw [hop]; exact hv)
         · rename_i x hop; exact quiet (by rw [hop]; exact hv)
         · rename_i op t x y _ hop; exact quiet (by rw [hop]; exact hv)
         · rename_i c hop
           split at hv
           · rename_i f args htg
             split at hv
             · rename_i r hh
               injection hv with hv; subst hv
               exact claim c f args hop htg (hhk _ _ _ _ hh σ.H hx.heap.lv)
             · split at hv
               · rename_i r h2 hcl
                 injection hv with hv; subst hv
                 exact claim c f args hop htg (znp ((hcall _ _ _ _ _ _ _ _ _ hcl hx.heap).2 rfl _ hx.heap.lv))
               · cases hv
           · exact quiet (by rw [hop]; exact hv)
         · exact quiet hv
       · cases hr
     · cases hr
def XW (n lv : Nat) (E : Nat → Nat → Option yz4) (T : BT V) (h : XH) (D : DL) (σ : St) : Prop := XR n lv E T h D σ ∨ (T = .leaf ∧ ∃ T2, XR n lv E T2 h D σ)
def XQ (n lv : Nat) (E : Nat → Nat → Option yz4) (e : kz8) (T : BT V) (h : XH) (D : DL) (σ : St) : Prop := match e with
 | .panic _ => XW n lv E T h D σ
 | _ => XR n lv E T h D σ
theorem XR.q {T : BT V} {h : XH} {D : DL} {σ : St} (k : XR n lv E T h D σ) (e : kz8) : XQ n lv E e T h D σ := by
 cases e <;> first | exact k | exact .inl k
theorem ysm {h : XH} {D : DL} {σ : St} (hh : XHR lv E h σ.H) (hd : σ.d = D) (he : σ.e0 = E) (hl : σ.t.length = n) : ∃ T, XR n lv E T h D σ :=
 ⟨zfl 0 σ.t .leaf, hh, hd, he, hl, fun j => by
  rw [zwt, BT.zrx]
  simp only [Nat.zero_le, true_and, Nat.zero_add, Nat.sub_zero]
  split
  ·rfl
  ·rw [List.getD_eq_getElem?_getD, List.getElem?_eq_none (by omega)]; rfl⟩
theorem yv9 {h : XH} {R : List Nat} {l i : Nat} {o : yz4} (k : xgR lv h R l i = some o) : zlf i R = true ∧ xg lv h l i = some o := by
 unfold xgR at k
 split at k
 ·rename_i hm; exact ⟨hm, k⟩
 ·cases k
theorem xg_lv {h : XH} {l i : Nat} {o : yz4} (k : xg lv h l i = some o) : l = lv := by
 unfold xg at k
 split at k
 ·rename_i hl; exact Nat.eq_of_beq_eq_true hl
 ·cases k
def zo6 : CK → Info
 | .quiet ks => ⟨false, fun x => zlf x ks = true, fun _ => False, false⟩
 | .eff ks => ⟨true, fun _ => False, fun x => zlf x ks = true, false⟩
 | .call ks => ⟨true, fun _ => False, fun x => zlf x ks = false, true⟩
theorem y53 {x : Nat} {ks : List Nat} (h : zlf x ks = true) : x ∈ ks := by
 unfold zlf at h
 obtain ⟨y, hy, hxy⟩ := List.any_eq_true.1 h
 have : x = y := Nat.eq_of_beq_eq_true hxy
 subst this
 exact hy
theorem ysb {a b : CK} (h : y6y a b = false) : ¬ ((zo6 b).eff = true ∧ (zo6 a).eff = true) ∧ ((zo6 b).eff = false → (zo6 a).eff = true → ∀ x, (zo6 b).K x → ¬ (zo6 a).W x) ∧ ((zo6 a).eff = false → (zo6 b).eff = true → ∀ x, (zo6 a).K x → ¬ (zo6 b).W x) := by
 have mem : ∀ {x : Nat} {ks ks2 : List Nat}, zlf x ks = true → zlf x ks2 = true → (ks.any fun k => zlf k ks2) = true := fun {x ks ks2} h1 h2 => List.any_eq_true.2 ⟨x, y53 h1, h2⟩
 have out : ∀ {x : Nat} {ks ks2 : List Nat}, zlf x ks = true → zlf x ks2 = false → (ks.any fun k => !zlf k ks2) = true := fun {x ks ks2} h1 h2 => List.any_eq_true.2 ⟨x, y53 h1, by rw [h2]; rfl⟩
 cases a with
 | quiet ks => cases b with
   | quiet ks2 => exact ⟨fun a => (by cases a.1), fun _ a => (by cases a), fun _ a => (by cases a)⟩
   | eff ks2 =>
     simp only [y6y] at h
     refine ⟨fun a => (by cases a.2), fun a => (by cases a), fun _ _ x h3 h4 => ?_⟩
     rw [mem h3 h4] at h; cases h
   | call ks2 =>
     simp only [y6y] at h
     refine ⟨fun a => (by cases a.2), fun a => (by cases a), fun _ _ x h3 h4 => ?_⟩
     rw [out h3 h4] at h; cases h
 | eff ks => cases b with
   | quiet ks2 =>
     simp only [y6y] at h
     refine ⟨fun a => (by cases a.1), fun _ _ x h3 h4 => ?_, fun a => (by cases a)⟩
     rw [mem h4 h3] at h; cases h
   | eff ks2 => cases h
   | call ks2 => cases h
 | call ks => cases b with
   | quiet ks2 =>
     simp only [y6y] at h
     refine ⟨fun a => (by cases a.1), fun _ _ x h3 h4 => ?_, fun a => (by cases a)⟩
     rw [out h3 h4] at h; cases h
   | eff ks2 => cases h
   | call ks2 => cases h
theorem ylj {h h2 : XH} {prev : CL} {H H2 : Heap} (k : XHR lv E h H) (k2 : XHR lv E h2 H2) {i : Nat} (hi : ¬ zlf i (y20 h h2 prev) = false) : H2.L[i]? = H.L[i]? := by
 have hm : zlf i (y20 h h2 prev) = true := by cases hh : zlf i (y20 h h2 prev) with | true => rfl | false => exact (hi hh).elim
 have := (List.mem_filter.1 (y53 hm)).2
 unfold yun at this
 obtain ⟨h1, h3⟩ := z4o this
 obtain ⟨h3, h4⟩ := z4o h3
 have l1 : i < H.L.length := by rw [k.len]; exact zwy h1
 have l2 : i < H2.L.length := by rw [k2.len]; exact zwy h3
 have e := yqj h4
 rw [← k.get, ← k2.get, List.getElem?_eq_getElem l1, List.getElem?_eq_getElem l2] at e
 rw [List.getElem?_eq_getElem l1, List.getElem?_eq_getElem l2]
 exact congrArg some e.symm
theorem yen {ops : Array Oper} {i : Nat} {c : CK} {prev : CL} (h : okP ops.toList i c prev = true) : GP .any ops (prev.map fun p => (p.1, zo6 p.2)) i (zo6 c) := fun p hp hf => by
 obtain ⟨q, hq, rfl⟩ := List.mem_map.1 hp
 have h1 := List.all_eq_true.1 h q hq
 exact ysb (by
  cases hc : y6y c q.2 with
  | false => rfl
  | true => rw [hc] at h1; exact (zf1 h1 hf).elim)
theorem y06 {ops : Array Oper} {i : Nat} (h : ym0 ops.toList i ops.size = true) : ∀ j ∈ List.range' (i + 1) (ops.size - (i + 1)), ¬ ys6 .any ops i j := fun j hj => zf1 (List.all_eq_true.1 h j hj)
theorem Eff.yvc {h h' : XH} {H : Heap} {v : V} (k : XHR lv E h H) {e : Eff} (he : e.onX lv h = some (v, h')) {i : Nat} (hi : ¬ zlf i (e.wr h) = true) : (e.on H).2.L[i]? = H.L[i]? := by
 have ne : ∀ {j}, e.wr h = [j] → i ≠ j := fun {j} hw hij => hi (by rw [hw, hij]; simp [zlf])
 cases e with
 | keep u => rfl
 | push mk o =>
   have := ne rfl
   rw [← k.len] at this
   simp only [Eff.on, Heap.push]
   rw [List.getElem?_append]
   split
   · rfl
   · rename_i hge
     rw [List.getElem?_eq_none (by simp; omega), List.getElem?_eq_none (by omega)]
 | set l j o u =>
   have := ne rfl
   simp only [Eff.onX] at he
   split at he
   · rename_i hl
     have hl : l = lv := Nat.eq_of_beq_eq_true hl
     simp only [Eff.on, Heap.set]
     rw [if_pos (by rw [hl, k.lv])]
     exact List.getElem?_set_ne (Ne.symm this)
   · cases he
 | zfh j u =>
   have := ne rfl
   simp only [Eff.on, Heap.zfh]
   exact List.getElem?_set_ne (Ne.symm this)
theorem yfb {op : Op} {T : BT V} {h : XH} {R : List Nat} {v : V} {H : Heap} (hlv : H.lv = lv) (hg : ∀ l i o, xgR lv h R l i = some o → H.get l i = some o) (hq : zx0 P lv op T h R = some v) : pv P H (evT T) op = some v ∨ zf4 P H (evT T) op = some (v, H) ∨ ∃ t n c, op = .makeSlice t n c ∧ zok P t (evT T n) (evT T c) = some v := by
 unfold zx0 at hq
 split at hq
 ·exact .inr (.inr ⟨_, _, _, rfl, hq⟩)
 ·split at hq
  ·rename_i u he
   injection hq with hq; subst hq
   rw [← hlv] at he hg
   exact .inr (.inl (zwv hg he))
  ·exact .inl (ymm hg hq)
theorem zrm (hhk : zan P hk) (hcall : zlv P call) {ops : Array Oper} {D : DL} {e : kz8} {T' : BT V} {h' : XH} : ∀ (l : List Oper) (k : Nat) (prev : CL) (T : BT V) (h : XH) (σ : St), l = ops.toList.drop k → XR n lv E T h D σ →
  ynq P hk call lv n ops l k prev T h = some (e, T', h') → zjq P ops .any (fun H => H.lv = lv) (fun v σ => ∀ t', t'.length = σ.t.length → kz8.panic v = e ∧ XQ n lv E e T' h' D { σ with t := t' }) (fun σ' => kz8.normal = e ∧ XQ n lv E e T' h' D σ') (List.range' k (ops.size - k)) (prev.map fun p => (p.1, zo6 p.2)) σ
 | [], k, prev, T, h, σ, hl, hx, hr => by
   have hr : some (kz8.normal, T, h) = some (e, T', h') := hr
   simp only [Option.some.injEq, Prod.mk.injEq] at hr
   obtain ⟨rfl, rfl, rfl⟩ := hr
   have hkl : ops.size ≤ k := by
     have := congrArg List.length hl
     simp at this; omega
   rw [show ops.size - k = 0 by omega]
   exact ⟨rfl, hx⟩
 | o :: rest, k, prev, T, h, σ, hl, hx, hr => by
   have ho : ops[k]? = some o := by
     have := congrArg (fun x => x[0]?) hl
     simpa using this.symm
   have hkl : k < ops.size := by
     rcases Nat.lt_or_ge k ops.size with q | q
     · exact q
     · rw [Array.getElem?_eq_none q] at ho; cases ho
   have hrest : rest = ops.toList.drop (k + 1) := by
     rw [← List.tail_drop, ← hl]; rfl
   have hr : ylx P hk call lv n ops k o prev (ynq P hk call lv n ops rest (k + 1)) T h = some (e, T', h') := hr
   rw [show ops.size - k = (ops.size - (k + 1)) + 1 by omega, List.range'_succ]
   have hw := hx.wanted ops o
   have one : ∀ {c : CK} {v : V} {H1 : Heap} {T1 : BT V} {h1 : XH}, okP ops.toList k c prev = true → (zo6 c).call = false → MV P ops (fun H => H.lv = lv) (zo6 c) σ o v H1 → XHR lv E h1 H1 → zrg n T o.dst v = some T1 →
       ynq P hk call lv n ops rest (k + 1) ((k, c) :: prev) T1 h1 = some (e, T', h') → zjq P ops .any (fun H => H.lv = lv) (fun v σ => ∀ t', t'.length = σ.t.length → kz8.panic v = e ∧ XQ n lv E e T' h' D { σ with t := t' }) (fun σ' => kz8.normal = e ∧ XQ n lv E e T' h' D σ') (k :: List.range' (k + 1) (ops.size - (k + 1))) (prev.map fun p => (p.1, zo6 p.2)) σ := fun {c v H1 T1 h1} hok hcc hmv hh ht hr =>
     ⟨o, zo6 c, ho, yen hok, .inl ⟨v, H1, hcc, hmv, zrm hhk hcall rest (k + 1) ((k, c) :: prev) T1 h1 _ hrest (hx.put hh ht) hr⟩⟩
   have emp : okP ops.toList k (.quiet []) prev = true := by
     refine List.all_eq_true.2 fun p _ => ?_
     obtain ⟨j, c⟩ := p
     cases c <;> rfl
   unfold ylx at hr
   split at hr
   · cases hr
   · rename_i e1
     split at hr
     · rename_i T1 ht
       exact one (v := .tup []) (H1 := σ.H) emp rfl (.inl ⟨hw.trans e1, rfl, rfl⟩) hx.heap ht hr
     · cases hr
   · rename_i e1
     split at hr
     · rename_i heff
       split at hr
       · rename_i ef hef
         split at hr
         · rename_i hok
           split at hr
           · rename_i v h1 hon
             split at hr
             · rename_i T1 ht
               obtain ⟨q1, q2⟩ := Eff.yn8 hx.heap hon
               have hd : Eff2 P σ.H σ.ev o.op v (ef.on σ.H).2 := by
                 unfold yus at hef
                 rw [hx.ev]
                 split at hef
                 · rename_i ef' he
                   injection hef with hef; subst hef
                   rw [← hx.heap.lv] at he
                   exact .inr (by rw [zwv (fun l i o ho => hx.heap.xg (by rw [← hx.heap.lv]; exact ho)) he, ← q1])
                 · exact .inl (by rw [yl1 (fun l i o ho => hx.heap.xg ho) hef, ← q1])
               exact one (c := .eff (ef.wr h)) hok rfl (.inr ⟨hw.trans e1, hx.heap.lv, .inr ⟨rfl, heff, hd, q2.lv, fun i hi => Eff.yvc hx.heap hon hi⟩⟩) q2 ht hr
             · cases hr
           · cases hr
         · cases hr
       · cases hr
     · split at hr
       · rename_i v hv
         split at hr
         · rename_i hok
           split at hr
           · rename_i T1 ht
             refine one (c := .quiet (zri lv T o.op)) hok rfl (.inr ⟨hw.trans e1, hx.heap.lv, .inl ⟨rfl, rfl, fun H'' k1 k2 => ?_⟩⟩) hx.heap ht hr
             have hg : ∀ l i o', xgR lv h (zri lv T o.op) l i = some o' → H''.get l i = some o' := fun l i o' hh => by
               obtain ⟨z1, z2⟩ := yv9 hh
               have hl := xg_lv z2
               have z3 := hx.heap.xg z2
               unfold Heap.get at z3 ⊢
               rw [if_pos (by rw [hl, hx.heap.lv])] at z3
               rw [if_pos (by rw [hl]; exact k1.symm), k2 i z1]; exact z3
             have more : ∀ op, o.op = op → XC.of (zx0 P lv op T h (zri lv T o.op)) = .val v → QP P H'' σ.ev o v := fun op hop hq => by
               have hq : zx0 P lv op T h (zri lv T o.op) = some v := by
                 cases hm : zx0 P lv op T h (zri lv T o.op) with
                 | none => rw [hm] at hq; cases hq
                 | some u => rw [hm] at hq; injection hq with hq; rw [hq]
               unfold QP
               rw [hx.ev, hop]
               rcases yfb k1 hg hq with q | q | ⟨t, n, c, q1, q2⟩
               · exact .inl q
               · exact .inr (.inr (.inl q))
               · exact .inr (.inr (.inr (.inl ⟨t, n, c, q1, q2⟩)))
             unfold yew at hv
             split at hv
             · rename_i c hop
               split at hv
               · rename_i f args htg
                 refine .inr (.inl ⟨c, f, args, hop, by rw [hx.ev]; exact htg, ?_⟩)
                 split at hv
                 · rename_i r hh
                   injection hv with hv; subst hv
                   exact hhk _ _ _ _ hh H'' k1
                 · split at hv
                   · rename_i r h2 hcl
                     injection hv with hv; subst hv
                     exact znp ((hcall _ _ _ _ _ _ _ _ _ hcl hx.heap).2 rfl _ k1)
                   · cases hv
                   · cases hv
               · exact more _ hop hv
             · exact more _ rfl hv
           · cases hr
         · cases hr
       · rename_i v hv
         split at hr
         · rename_i hok
           split at hr
           · rename_i hlat
             simp only [Option.some.injEq, Prod.mk.injEq] at hr
             obtain ⟨rfl, rfl, rfl⟩ := hr
             unfold yew at hv
             have nof : ∀ (r : Option V), XC.of r = .pan v → False := fun r hh => by cases r <;> cases hh
             split at hv
             · rename_i c hop
               split at hv
               · rename_i f args htg
                 split at hv
                 · cases hv
                 · split at hv
                   · cases hv
                   · rename_i u h2 hcl
                     injection hv with hv; subst hv
                     exact ⟨o, zo6 (.call _), ho, yen hok, .inr ⟨y06 hlat, rfl, rfl, hw.trans e1, c, f, args, _, hop, by rw [hx.ev]; exact htg, (hcall _ _ _ _ _ _ _ _ _ hcl hx.heap).2 rfl _ hx.heap.lv, fun v' H' hp => (by cases hp.1), fun v' H' hp t' ht' => by
                       obtain ⟨p1, rfl⟩ := hp
                       injection p1 with p1; subst p1
                       exact ⟨rfl, .inr ⟨rfl, ysm hx.heap hx.defers hx.e0 (ht'.trans hx.len)⟩⟩⟩⟩
                   · cases hv
               · exact (nof _ hv).elim
             · exact (nof _ hv).elim
           · cases hr
         · cases hr
       · rename_i f args hv
         split at hr
         · rename_i hlat
           unfold yew at hv
           have nof : ∀ (r : Option V), XC.of r = .flat f args → False := fun r hh => by cases r <;> cases hh
           split at hv
           · rename_i c hop
             split at hv
             · rename_i f' args' htg
               have hfa : f' = f ∧ args' = args := by
                 split at hv
                 · cases hv
                 · split at hv
                   · cases hv
                   · cases hv
                   · injection hv with a b; exact ⟨a, b⟩
               obtain ⟨rfl, rfl⟩ := hfa
               split at hr
               · rename_i r h2 hcl
                 split at hr
                 · rename_i hok
                   split at hr
                   · rename_i T1 ht
                     refine ⟨o, zo6 (.call _), ho, yen hok, .inr ⟨y06 hlat, rfl, rfl, hw.trans e1, c, f', args', _, hop, by rw [hx.ev]; exact htg, (hcall _ _ _ _ _ _ _ _ _ hcl hx.heap).1, fun v' H' hp => ?_, fun v' H' hp => (by cases hp.1)⟩⟩
                     obtain ⟨p1, p2⟩ := hp
                     injection p1 with p1; subst p1
                     exact ⟨p2.lv, fun i hi => ylj hx.heap p2 hi, zrm hhk hcall rest (k + 1) ((k, .call (y20 h h2 prev)) :: prev) T1 h2 _ hrest (hx.put p2 ht) hr⟩
                   · cases hr
                 · cases hr
               · rename_i u h2 hcl
                 split at hr
                 · rename_i hok
                   simp only [Option.some.injEq, Prod.mk.injEq] at hr
                   obtain ⟨rfl, rfl, rfl⟩ := hr
                   exact ⟨o, zo6 (.call _), ho, yen hok, .inr ⟨y06 hlat, rfl, rfl, hw.trans e1, c, f', args', _, hop, by rw [hx.ev]; exact htg, (hcall _ _ _ _ _ _ _ _ _ hcl hx.heap).1, fun v' H' hp => (by cases hp.1), fun v' H' hp t' ht' => by
                     obtain ⟨p1, p2⟩ := hp
                     injection p1 with p1; subst p1
                     exact ⟨rfl, .inr ⟨rfl, ysm p2 hx.defers hx.e0 (ht'.trans hx.len)⟩⟩⟩⟩
                 · cases hr
               · cases hr
             · exact (nof _ hv).elim
           · exact (nof _ hv).elim
         · cases hr
       · cases hr
theorem yhp {c : Code} {f : BT V → XH → DL → zqd} {e : kz8} {T' : BT V} {h' : XH} {D' : DL}
  (hf : ∀ T h D σ e T' h' D', XR n lv E T h D σ → f T h D = some (e, T', h', D') → Sat P c σ (fun e' σ' => e' = e ∧ XQ n lv E e T' h' D' σ')) (m : Nat) (T : BT V) (h : XH) (D : DL) (σ : St) (hx : XR n lv E T h D σ) (hr : yjw f m T h D = some (e, T', h', D')) :
  Sat P (.loop c) σ (fun e' σ' => e' = e ∧ XQ n lv E e T' h' D' σ') := by
 refine ysr (fun m σ => ∃ T h D, XR n lv E T h D σ ∧ yjw f m T h D = some (e, T', h', D')) m σ (znh.refl σ) ⟨T, h, D, hx, hr⟩ fun m σ ⟨T, h, D, hx, hr⟩ => ?_
 cases m with
 | zero => cases hr
 | succ m =>
   have hr : ybk (yjw f m) (f T h D) = some (e, T', h', D') := hr
   unfold ybk at hr
   split at hr
   · rename_i T1 h1 D1 hfe
     refine (hf _ _ _ _ _ _ _ _ hx hfe).mono fun e' σ' ⟨q1, q2⟩ => ?_
     subst q1
     exact ⟨m, σ', znh.refl _, ⟨T1, h1, D1, q2, hr⟩, Nat.lt_succ_self _⟩
   · rename_i hne
     refine (hf _ _ _ _ _ _ _ _ hx hr).mono fun e' σ' ⟨q1, q2⟩ => ?_
     subst q1
     cases e' with
     | normal => exact (hne _ _ _ hr).elim
     | exit id => exact ⟨rfl, q2⟩
     | ret => exact ⟨rfl, q2⟩
     | panic v => exact ⟨rfl, q2⟩
theorem y2d (ops : Array Oper) : ∀ (k : Nat) (b : Option Nat) (r : Nat), (∀ j, b = some j → Region.lexTailB .any ops j = true) → zy8 ops k b = some r → Region.lexTailB .any ops r = true
 | 0, b, r, hb, h => hb r h
 | k + 1, b, r, hb, h => by
   simp only [zy8] at h
   split at h
   · rename_i hk
     exact y2d ops k _ r (fun j hj => by injection hj with hj; subst hj; exact hk) h
   · exact hb r h
theorem y2l (hm : P.follows .mixedOrders = true) (hhk : zan P hk) (hcall : zlv P call) {id : Nat} {ops : Array Oper} {T : BT V} {h : XH} {D : DL} {σ : St} {e : kz8} {T' : BT V} {h' : XH} {D' : DL} (hx : XR n lv E T h D σ)
  (hr : yoc P hk call lv n ops T h D = some (e, T', h', D')) : Sat P (.region id ops true) σ (fun e' σ' => e' = e ∧ XQ n lv E e T' h' D' σ') := by
 unfold yoc at hr
 split at hr
 ·rename_i hB
  split at hr
  ·rename_i e1 T1 h1 hc
   simp only [Option.some.injEq, Prod.mk.injEq] at hr
   obtain ⟨rfl, rfl, rfl, rfl⟩ := hr
   exact yhr (S := fun H => H.lv = lv) (Q := fun e' σ' => e' = e1 ∧ XQ n lv E e1 T1 h1 D σ') hm (List.range' 0 ops.size) hB (by simp) (fun j hj => by simp [hj]) (zrm hhk hcall ops.toList 0 [] T h σ rfl hx hc)
  ·cases hr
 ·cases hr
theorem z7j (hm : P.follows .mixedOrders = true) (hhk : zan P hk) (hcall : zlv P call) {lf : Nat} : ∀ (c : Code) (T : BT V) (h : XH) (D : DL) (σ : St) (e : kz8) (T' : BT V) (h' : XH) (D' : DL), XR n lv E T h D σ →
  zqq P hk call lv n lf c T h D = some (e, T', h', D') → Sat P c σ (fun e' σ' => e' = e ∧ XQ n lv E e T' h' D' σ')
 | .skip, T, h, D, σ, e, T', h', D', hx, hr => by
   have hr : some (kz8.normal, T, h, D) = some (e, T', h', D') := hr
   simp only [Option.some.injEq, Prod.mk.injEq] at hr
   obtain ⟨rfl, rfl, rfl, rfl⟩ := hr
   exact yh2 ⟨rfl, hx⟩
 | .region id ops draw, T, h, D, σ, e, T', h', D', hx, hr => by
   have hr : ycg P hk call lv n ops draw T h D = some (e, T', h', D') := hr
   unfold ycg at hr
   split at hr
   · exact (yhf (zib hhk hcall _ 0 T h D σ e T' h' D' rfl hx hr)).mono fun e' σ' ⟨q1, q2⟩ => ⟨q1, q2.q _⟩
   · split at hr
     · rename_i k hd
       split at hr
       · rename_i T1 hq
         obtain ⟨ans, σ1, cl, k1, k2, k3⟩ := y7u hhk hcall _ T h D σ T1 hx hq
         unfold yux at hd
         split at hd
         · rename_i hB
           injection hd with hd; subst hd
           rw [show ops.toList.take ops.size = ops.toList from List.take_of_length_le (by simp)] at k1
           rw [show ops.toList.drop ops.size = [] from List.drop_eq_nil_of_le (by simp)] at hr
           have hr : some (kz8.normal, T1, h, D) = some (e, T', h', D') := hr
           simp only [Option.some.injEq, Prod.mk.injEq] at hr
           obtain ⟨rfl, rfl, rfl, rfl⟩ := hr
           exact yiu hm hB ans σ1 cl k1 k2 ⟨rfl, k3⟩
         · have hB := y2d ops ops.size none k (fun j hj => by cases hj) hd
           exact (yh8 k hm hB ans σ1 cl k1 k2 (zib hhk hcall _ k T1 h D σ1 e T' h' D' rfl k3 hr)).mono fun e' σ' ⟨q1, q2⟩ => ⟨q1, q2.q _⟩
       · exact y2l hm hhk hcall hx hr
     · exact y2l hm hhk hcall hx hr
 | .seq a b, T, h, D, σ, e, T', h', D', hx, hr => by
   have hr : ybk (zqq P hk call lv n lf b) (zqq P hk call lv n lf a T h D) = some (e, T', h', D') := hr
   unfold ybk at hr
   split at hr
   · rename_i T1 h1 D1 h2
     refine yfo ((z7j hm hhk hcall a T h D σ _ T1 h1 D1 hx h2).mono fun e' σ' ⟨q1, q2⟩ => ?_)
     subst q1
     exact z7j hm hhk hcall b T1 h1 D1 σ' e T' h' D' q2 hr
   · rename_i hne
     refine yfo ((z7j hm hhk hcall a T h D σ e T' h' D' hx hr).mono fun e' σ' ⟨q1, q2⟩ => ?_)
     subst q1
     cases e' with
     | normal => exact (hne _ _ _ hr).elim
     | exit id => exact ⟨rfl, q2⟩
     | ret => exact ⟨rfl, q2⟩
     | panic v => exact ⟨rfl, q2⟩
 | .cond o a b, T, h, D, σ, e, T', h', D', hx, hr => by
   have hr : yr6 o (zqq P hk call lv n lf a) (zqq P hk call lv n lf b) T h D = some (e, T', h', D') := hr
   unfold yr6 at hr
   split at hr
   · rename_i ho
     exact zxt (b := true) (by rw [hx.ev]; exact ho) (fun _ => z7j hm hhk hcall a T h D σ e T' h' D' hx hr) (fun hh => by cases hh)
   · rename_i ho
     exact zxt (b := false) (by rw [hx.ev]; exact ho) (fun hh => by cases hh) (fun _ => z7j hm hhk hcall b T h D σ e T' h' D' hx hr)
   · cases hr
 | .block id b, T, h, D, σ, e, T', h', D', hx, hr => by
   have hr : ylv id (zqq P hk call lv n lf b T h D) = some (e, T', h', D') := hr
   unfold ylv at hr
   split at hr
   · rename_i i T1 h1 D1 h2
     refine zyw ((z7j hm hhk hcall b T h D σ _ T1 h1 D1 hx h2).mono fun e' σ' ⟨q1, q2⟩ => ?_)
     subst q1
     simp only [kz8.inBlock]
     split at hr
     · rename_i hb
       simp only [Option.some.injEq, Prod.mk.injEq] at hr
       obtain ⟨rfl, rfl, rfl, rfl⟩ := hr
       rw [hb]; exact ⟨rfl, q2⟩
     · rename_i hb
       simp only [Option.some.injEq, Prod.mk.injEq] at hr
       obtain ⟨rfl, rfl, rfl, rfl⟩ := hr
       rw [hb]; exact ⟨rfl, q2⟩
   · rename_i hne
     refine zyw ((z7j hm hhk hcall b T h D σ e T' h' D' hx hr).mono fun e' σ' ⟨q1, q2⟩ => ?_)
     subst q1
     cases e' with
     | normal => exact ⟨rfl, q2⟩
     | exit id => exact (hne _ _ _ _ hr).elim
     | ret => exact ⟨rfl, q2⟩
     | panic v => exact ⟨rfl, q2⟩
 | .loop b, T, h, D, σ, e, T', h', D', hx, hr => by
   have hr : yjw (zqq P hk call lv n lf b) lf T h D = some (e, T', h', D') := hr
   exact yhp (fun T h D σ e T' h' D' => z7j hm hhk hcall b T h D σ e T' h' D') lf T h D σ hx hr
 | .exit id, T, h, D, σ, e, T', h', D', hx, hr => by
   have hr : some (kz8.exit id, T, h, D) = some (e, T', h', D') := hr
   simp only [Option.some.injEq, Prod.mk.injEq] at hr
   obtain ⟨rfl, rfl, rfl, rfl⟩ := hr
   exact yj4 ⟨rfl, hx⟩
 | .ret, T, h, D, σ, e, T', h', D', hx, hr => by
   have hr : some (kz8.ret, T, h, D) = some (e, T', h', D') := hr
   simp only [Option.some.injEq, Prod.mk.injEq] at hr
   obtain ⟨rfl, rfl, rfl, rfl⟩ := hr
   exact yog ⟨rfl, hx⟩
 | .rangeFunc _ _ _ _, _, _, _, _, _, _, _, _, _, hr => by cases hr
 | .scope _, _, _, _, _, _, _, _, _, _, hr => by cases hr
 | .label _, _, _, _, _, _, _, _, _, _, hr => by cases hr
 | .goto _, _, _, _, _, _, _, _, _, _, hr => by cases hr
 | .refuse _, _, _, _, _, _, _, _, _, _, hr => by cases hr
theorem yns {T : BT V} {h : XH} {D : DL} {σ : St} (hx : XR n lv E T h D σ) : ∀ {rs : List ResultVar} {vs : List V}, y25 P (xg lv h) T rs = some vs → zqb P σ rs = some vs
 | [], vs, hr => hr
 | r :: rs, vs, hr => by
   simp only [y25] at hr
   split at hr
   · rename_i v us h1 h2
     injection hr with hr; subst hr
     have e1 : y2w P σ r = some v := by
       cases r with
       | tmp t =>
         simp only [resX, Option.some.injEq] at h1; subst h1
         simp only [y2w, evT, hx.get]
       | cell a t =>
         simp only [resX] at h1
         simp only [y2w, hx.get]
         exact yc7 (fun l i o ho => hx.heap.xg ho) h1
     simp only [zqb, e1, yns hx h2]
   · cases hr
theorem y5j {T : BT V} {h : XH} {D : DL} {σ : St} (hx : XR n lv E T h D σ) {fn : Func} {vs : List V} (hr : y25 P (xg lv h) T fn.results.toList = some vs) : z2j P fn σ = some (za2 vs) := by
 unfold z2j; rw [yns hx hr]; rfl
end
end Go.Ab


namespace Go.Ab
open Go
set_option linter.unusedVariables false
set_option linter.unusedSimpArgs false
theorem yty {P : Program} {c : Code} {n lv : Nat} {E : Nat → Nat → Option yz4} {T : BT V} {h : XH} {D : DL} {σ : St} {Q : kz8 → St → Prop} {m : z1k} (hx : XR n lv E T h D σ) (hs : Sat P c σ Q) {W0 : World} {g0 : Gh} {H0 : Heap} {W : World} {a : Act} {g : Gh} {c₀ : Frame} {cs : List Frame} {u : FrameMode}
  (hS : σ.e0 = H0.E ∧ Step W0 g0 H0 W g σ.H) (hG : kzh W a g σ) (hm : ze5 W g σ.H m u) : c.wpS P (zjw W0 g0 H0 c₀ cs Q m) a ({ c₀ with mode := u } :: cs) W := by
 refine wpS_of_wp (wp_mono (hs W g σ.H W a g ⟨hG.good⟩ ⟨by rw [hx.e0, hx.heap.out], .refl _ _ _⟩ hG) fun e a' W' ⟨g', σ', e', q1, q2, q3, q4⟩ => ?_)
 exact ⟨g', σ', e', u, q1, ⟨by rw [q2.1, hx.heap.out, ← hx.e0]; exact hS.1, hS.2.trans q2.2⟩, q3, rfl, hm.mono q2.2, q4⟩
section
variable {P : Program} {hk : zar} {call : zil} {lv n : Nat} {E : Nat → Nat → Option yz4}
theorem ykh (hm : P.follows .mixedOrders = true) (hhk : zan P hk) (hcall : zlv P call) {lf : Nat} {m : z1k} : ∀ (c : Code) (T : BT V) (h : XH) (σ : St) (e : kz8) (T' : BT V) (h' : XH), XR n lv E T h [] σ →
  xS P hk call lv n lf m c T h = some (e, T', h') → ∀ (W0 : World) (g0 : Gh) (H0 : Heap) (W : World) (a : Act) (g : Gh) (c₀ : Frame) (cs : List Frame), (σ.e0 = H0.E ∧ Step W0 g0 H0 W g σ.H) → kzh W a g σ → ze5 W g σ.H m c₀.mode →
  c.wpS P (zjw W0 g0 H0 c₀ cs (fun e' σ' => e' = e ∧ XQ n lv E e T' h' [] σ') m.zdx) a (c₀ :: cs) W
 | .seq x y, T, h, σ, e, T', h', hx, hr, W0, g0, H0, W, a, g, c₀, cs, hS, hG, hM => by
   simp only [xS] at hr
   split at hr
   · rename_i T1 h1 hx1
     split at hr
     · rename_i e2 T2 h2 hy
       simp only [Option.some.injEq, Prod.mk.injEq] at hr
       obtain ⟨rfl, rfl, rfl⟩ := hr
       refine wpS_seq (zxg (ykh hm hhk hcall x T h σ _ T1 h1 hx hx1 W0 g0 H0 W a g c₀ cs hS hG hM) fun ex a' cs' W' ⟨g', σ', e', u', q1, q2, q3, q4, q5, q6, q7⟩ => ?_)
       subst q6
       cases q1
       subst q4
       exact yty q7 (z7j hm hhk hcall y T1 h1 [] σ' _ _ _ _ q7 hy) q2 q3 q5
     · cases hr
   · cases hr
 | .region id ops draw, T, h, σ, e, T', h', hx, hr, W0, g0, H0, W, a, g, c₀, cs, hS, hG, hM => by
   simp only [xS] at hr
   split at hr
   · rename_i o rest hl
     split at hr
     · rename_i hrec
       split at hr
       · rename_i T1 ht
         split at hr
         · rename_i e2 T2 h2 hops
           simp only [Option.some.injEq, Prod.mk.injEq] at hr
           obtain ⟨rfl, rfl, rfl⟩ := hr
           have ho : ops[0]? = some o := by
             have := congrArg (fun x => x[0]?) hl
             simpa using this
           have hrest : rest = ops.toList.drop 1 := by rw [hl]; rfl
           have hsz : ops.size = rest.length + 1 := by
             have := congrArg List.length hl
             simpa using this
           refine wpS_region ?_
           rw [List.range_eq_range', show ops.size = rest.length + 1 from hsz, List.range'_succ]
           simp only [wpOpsS, ho]
           unfold isRec at hrec
           split at hrec
           · rename_i c hop
             split at hrec
             · rename_i hcal
               simp only [Bool.and_eq_true, Option.isNone_iff_eq_none, Array.isEmpty_iff] at hrec
               have hwant : Region.wanted o (yielded ops a.tmps) = true := by unfold Region.wanted; rw [hrec.1]
               have hex : (execOp a.eval o).run P W = .ok .recover W := by
                 unfold execOp
                 rw [hop]
                 obtain ⟨callee, args, argTypes⟩ := c
                 simp only at hcal hrec
                 obtain ⟨_, rfl⟩ := hrec
                 subst hcal
                 simp [resolve, invoke, builtin]
               rw [if_pos hwant, hex]
               simp only
               have rest' : ∀ (cv : Value) (u' : FrameMode), Rel W g σ.H m.value cv → ze5 W g σ.H m.zdx u' → wpOpsS P ops (zjw W0 g0 H0 c₀ cs (fun e' σ' => e' = e2 ∧ XQ n lv E e2 T2 h2 [] σ') m.zdx) (List.range' (0 + 1) rest.length) (a.put o.dst cv) ({ c₀ with mode := u' } :: cs) W := fun cv u' hv hM' => by
                 have hx1 : XR n lv E T1 h [] (σ.put o.dst m.value) := hx.yrb ht
                 have hG1 : kzh W (a.put o.dst cv) g (σ.put o.dst m.value) := hG.next (.refl _ _ _) hG.good hv o.dst
                 have hs := zib hhk hcall rest 1 T1 h [] (σ.put o.dst m.value) e2 T2 h2 [] hrest hx1 hops
                 have hH : (σ.put o.dst m.value).H = σ.H := by cases o.dst <;> rfl
                 have he : (σ.put o.dst m.value).e0 = σ.e0 := by cases o.dst <;> rfl
                 have hs2 := hs W g σ.H W (a.put o.dst cv) g ⟨hG.good⟩ ⟨by rw [he, hx.e0, hx.heap.out], by rw [hH]; exact .refl _ _ _⟩ hG1
                 rw [show ops.size - 1 = rest.length by omega] at hs2
                 refine zdf (fun a w => zjw.out) _ _ _ (zb7 (fun e a' W' ⟨g', σ', e', q1, q2, q3, q4⟩ => ?_) _ _ _ hs2)
                 exact ⟨g', σ', e', u', q1, ⟨by rw [q2.1, hx.heap.out, ← hx.e0]; exact hS.1, hS.2.trans q2.2⟩, q3, rfl, hM'.mono q2.2, q4.1, q4.2.q _⟩
               cases m with
               | ret =>
                 have hmode : c₀.mode = .returning := hM
                 have hrd : recoverD (c₀ :: cs) = none := by simp [recoverD, hmode]
                 rw [hrd]
                 have := rest' .nilIface c₀.mode .nili hM
                 exact this
               | pan v r =>
                 obtain ⟨cv, h1, h2⟩ := hM
                 cases r with
                 | true =>
                   have hrd : recoverD (c₀ :: cs) = none := by simp [recoverD, h1]
                   rw [hrd]
                   have := rest' .nilIface c₀.mode .nili ⟨cv, h1, h2⟩
                   exact this
                 | false =>
                   have hrd : recoverD (c₀ :: cs) = some (cv, { c₀ with mode := .panicking [{ v := cv, recovered := true }] } :: cs) := by simp [recoverD, h1]
                   rw [hrd]
                   exact rest' cv _ h2 ⟨cv, rfl, h2⟩
             · cases hrec
           · cases hrec
         · cases hr
       · cases hr
     · cases hr
   · cases hr
 | .skip, _, _, _, _, _, _, _, hr, _, _, _, _, _, _, _, _, _, _, _ => by simp [xS] at hr
 | .cond _ _ _, _, _, _, _, _, _, _, hr, _, _, _, _, _, _, _, _, _, _, _ => by simp [xS] at hr
 | .block _ _, _, _, _, _, _, _, _, hr, _, _, _, _, _, _, _, _, _, _, _ => by simp [xS] at hr
 | .loop _, _, _, _, _, _, _, _, hr, _, _, _, _, _, _, _, _, _, _, _ => by simp [xS] at hr
 | .rangeFunc _ _ _ _, _, _, _, _, _, _, _, hr, _, _, _, _, _, _, _, _, _, _, _ => by simp [xS] at hr
 | .exit _, _, _, _, _, _, _, _, hr, _, _, _, _, _, _, _, _, _, _, _ => by simp [xS] at hr
 | .scope _, _, _, _, _, _, _, _, hr, _, _, _, _, _, _, _, _, _, _, _ => by simp [xS] at hr
 | .label _, _, _, _, _, _, _, _, hr, _, _, _, _, _, _, _, _, _, _, _ => by simp [xS] at hr
 | .goto _, _, _, _, _, _, _, _, hr, _, _, _, _, _, _, _, _, _, _, _ => by simp [xS] at hr
 | .ret, _, _, _, _, _, _, _, hr, _, _, _, _, _, _, _, _, _, _, _ => by simp [xS] at hr
 | .refuse _, _, _, _, _, _, _, _, hr, _, _, _, _, _, _, _, _, _, _, _ => by simp [xS] at hr
theorem ybt {fn : Func} {T : BT V} {h h' : XH} {m m' : z1k} (k : yhn P lv fn T h m = some (h', m')) : ∃ vs, y25 P (xg lv h) T fn.results.toList = some vs ∧ h' = h ∧ m' = m := by
 unfold yhn at k
 split at k
 ·rename_i vs hvs
  simp only [Option.some.injEq, Prod.mk.injEq] at k
  exact ⟨vs, hvs, k.1.symm, k.2.symm⟩
 ·cases k
theorem yky (hm : P.follows .mixedOrders = true) (hhk : zan P hk) (hcall : zlv P call) {lf f : Nat} {vs : List V} {m m' : z1k} {h h' : XH} (hr : xdef P hk call lv lf f vs m h = some (h', m'))
  {W : World} {g : Gh} {H : Heap} {cargs : Array Value} {u : FrameMode} (hh : XHR lv E h H) (hG : Good W g H) (hA : zjp W g H vs cargs) (hM : ze5 W g H m u) :
  (∀ w, (callFunc f cargs).run P w = .ok (.enter f cargs) w) ∧ CallsD P f cargs u W (fun e u' W' => ∃ v H' g', e = .returned v ∧ XHR lv E h' H' ∧ Step W g H W' g' H' ∧ Good W' g' H' ∧ ze5 W' g' H' m' u') := by
 unfold xdef at hr
 split at hr
 ·cases hr
 ·rename_i fn hf
  split at hr
  ·cases hr
  ·rename_i b hb
   split at hr
   ·cases hr
   ·rename_i hcond
    simp only [Bool.or_eq_false_iff, Bool.not_eq_false'] at hcond
    refine ⟨zso hf (by rw [hb]; rfl) hcond.1 cargs, ?_⟩
    have hx : XR fn.ntmps lv E (zfl 0 vs .leaf) h [] ⟨vs ++ List.replicate (fn.ntmps - vs.length) .any, H, [], H.E⟩ := by
     have := yj2 hcond.2 hh
     rw [hh.out]; exact this
    have fin : ∀ (e : kz8) (T1 : BT V) (h1 : XH), xS P hk call lv fn.ntmps lf m b (zfl 0 vs .leaf) h = some (e, T1, h1) → (e = .ret ∨ e = .normal) → yhn P lv fn T1 h1 m.zdx = some (h', m') →
      CallsD P f cargs u W (fun e u' W' => ∃ v H' g', e = .returned v ∧ XHR lv E h' H' ∧ Step W g H W' g' H' ∧ Good W' g' H' ∧ ze5 W' g' H' m' u') := fun e T1 h1 hS he hres => by
     obtain ⟨vs', hvs, rfl, rfl⟩ := ybt hres
     refine callsD_of_wpS hf hb fun c₀ cs hu => ?_
     refine zxg (ykh hm hhk hcall b _ h _ e T1 h' hx hS W g H W _ g c₀ cs ⟨rfl, .refl _ _ _⟩ (zes hG hA) (by rw [hu]; exact hM)) fun ex a' cs' W' ⟨g', σ', e', u', q1, q2, q3, q4, q5, q6, q7⟩ => ?_
     subst q6
     have q7 : XR fn.ntmps lv E T1 h' [] σ' := by rcases he with rfl | rfl <;> exact q7
     have hd : a'.defers = [] := List.eq_nil_of_length_eq_zero (by rw [q3.dlen, q7.defers]; rfl)
     obtain ⟨c, k1, k2⟩ := z5h q3 (y5j q7 hvs)
     rcases he with rfl | rfl
     ·cases q1
      exact ⟨hd, u', q4, c, k1, c, σ'.H, g', rfl, q7.heap, q2.2, q3.good, q5⟩
     ·cases q1
      exact ⟨hd, u', q4, c, k1, c, σ'.H, g', rfl, q7.heap, q2.2, q3.good, q5⟩
    have finP : ∀ (e : kz8) (T1 : BT V) (h1 : XH), zqq P hk call lv fn.ntmps lf b (zfl 0 vs .leaf) h [] = some (e, T1, h1, []) → (e = .ret ∨ e = .normal) → yhn P lv fn T1 h1 m = some (h', m') →
      CallsD P f cargs u W (fun e u' W' => ∃ v H' g', e = .returned v ∧ XHR lv E h' H' ∧ Step W g H W' g' H' ∧ Good W' g' H' ∧ ze5 W' g' H' m' u') := fun e T1 h1 hS he hres => by
     obtain ⟨vs', hvs, rfl, rfl⟩ := ybt hres
     refine (callsD_of_wp (R := fun e W' => ∃ v H' g', e = .returned v ∧ XHR lv E h' H' ∧ Step W g H W' g' H' ∧ Good W' g' H') hf hb ?_).mono fun e u' W' ⟨q1, v, H', g', q2, q3, q4, q5⟩ => ⟨v, H', g', q2, q3, q4, q5, by rw [q1]; exact hM.mono q4⟩
     refine wp_mono (z7j hm hhk hcall b _ h [] _ e T1 h' [] hx hS W g H W _ g ⟨hG⟩ ⟨rfl, .refl _ _ _⟩ (zes hG hA)) fun ex a' W' ⟨g', σ', e', q1, q2, q3, q6, q7⟩ => ?_
     subst q6
     have q7 : XR fn.ntmps lv E T1 h' [] σ' := by rcases he with rfl | rfl <;> exact q7
     have hd : a'.defers = [] := List.eq_nil_of_length_eq_zero (by rw [q3.dlen, q7.defers]; rfl)
     obtain ⟨c, k1, k2⟩ := z5h q3 (y5j q7 hvs)
     rcases he with rfl | rfl
     ·cases q1
      exact ⟨hd, c, k1, c, σ'.H, g', rfl, q7.heap, q2.2, q3.good⟩
     ·cases q1
      exact ⟨hd, c, k1, c, σ'.H, g', rfl, q7.heap, q2.2, q3.good⟩
    split at hr
    ·rename_i T1 h1 hS; exact fin _ T1 h1 hS (.inl rfl) hr
    ·rename_i T1 h1 hS; exact fin _ T1 h1 hS (.inr rfl) hr
    ·cases hr
    ·unfold yuy at hr
     split at hr
     ·rename_i T1 h1 hS; exact finP _ T1 h1 hS (.inl rfl) hr
     ·rename_i T1 h1 hS; exact finP _ T1 h1 hS (.inr rfl) hr
     ·cases hr
theorem XW.defers {T : BT V} {h : XH} {D : DL} {σ : St} (k : XW n lv E T h D σ) : σ.d = D := by
 rcases k with k | ⟨_, _, k⟩ <;> exact k.defers
theorem XW.heap {T : BT V} {h : XH} {D : DL} {σ : St} (k : XW n lv E T h D σ) : XHR lv E h σ.H := by
 rcases k with k | ⟨_, _, k⟩ <;> exact k.heap
theorem XW.some {T : BT V} {h : XH} {D : DL} {σ : St} (k : XW n lv E T h D σ) : ∃ T2, XR n lv E T2 h D σ := by
 rcases k with k | ⟨_, T2, k⟩
 ·exact ⟨T, k⟩
 ·exact ⟨T2, k⟩
theorem zkc (hm : P.follows .mixedOrders = true) (hhk : zan P hk) (hcall : zlv P call) {lf : Nat} {fn : Func} {T : BT V} {o : Out} {h' : XH} {W0 : World} {g0 : Gh} {H0 : Heap} : ∀ (D : DL) (m : z1k) (h : XH) (W : World) (g : Gh) (σ : St) (a : Act) (u : FrameMode),
  XW n lv E T h D σ → kzh W a g σ → Step W0 g0 H0 W g σ.H → ze5 W g σ.H m u → zne P hk call lv lf fn T D m h = some (o, h') →
  Leaves P fn a.tmps (fun e W' => ∃ o' H' g', (o' = o ∧ XHR lv E h' H') ∧ Step W0 g0 H0 W' g' H' ∧ Good W' g' H' ∧ y5a W' g' H' o' e) a.defers u W
 | [], m, h, W, g, σ, a, u, hx, hG, hS, hM, hr => by
   have hd : a.defers = [] := List.eq_nil_of_length_eq_zero (by rw [hG.dlen, hx.defers]; rfl)
   rw [hd]
   cases m with
   | ret =>
     have hu : u = .returning := hM
     subst hu
     have fin : ∀ (T3 : BT V) (vs : List V), XR n lv E T3 h [] σ → y25 P (xg lv h) T3 fn.results.toList = some vs → some (Out.ret (za2 vs), h) = some (o, h') → Leaves P fn a.tmps (fun e W' => ∃ o' H' g', (o' = o ∧ XHR lv E h' H') ∧ Step W0 g0 H0 W' g' H' ∧ Good W' g' H' ∧ y5a W' g' H' o' e) [] .returning W := fun T3 vs hx3 hvs hr => by
       simp only [Option.some.injEq, Prod.mk.injEq] at hr
       obtain ⟨rfl, rfl⟩ := hr
       obtain ⟨c, k1, k2⟩ := z5h hG (y5j hx3 hvs)
       exact ⟨c, k1, .ret (za2 vs), σ.H, g, ⟨rfl, hx3.heap⟩, hS, hG.good, c, rfl, k2⟩
     simp only [zne] at hr
     split at hr
     · split at hr
       · rename_i hres
         obtain ⟨T3, hx3⟩ := hx.some
         exact fin T3 [] hx3 (by rw [hres]; rfl) hr
       · cases hr
     · split at hr
       · rename_i vs hvs
         rcases hx with hx | ⟨hT, _⟩
         · exact fin _ vs hx hvs hr
         · cases hT
       · cases hr
   | pan v r =>
     obtain ⟨c, h1, h2⟩ := hM
     subst h1
     cases r with
     | true => simp [zne] at hr
     | false =>
       simp only [zne, Option.some.injEq, Prod.mk.injEq] at hr
       obtain ⟨rfl, rfl⟩ := hr
       exact ⟨.pan v, σ.H, g, ⟨rfl, hx.heap⟩, hS, hG.good, c, rfl, h2⟩
 | (f, vs) :: ds, m, h, W, g, σ, a, u, hx, hG, hS, hM, hr => by
   simp only [zne] at hr
   split at hr
   · rename_i h1 m1 hd
     obtain ⟨caps, as, k1, k2⟩ := hG.defs 0 f vs (by rw [hx.defers]; rfl)
     obtain ⟨d0, ds0, hds⟩ : ∃ d0 ds0, a.defers = d0 :: ds0 := by
       cases hq : a.defers with
       | nil => rw [hq] at k1; cases k1
       | cons d0 ds0 => exact ⟨d0, ds0, rfl⟩
     rw [hds] at k1
     simp only [List.getElem?_cons_zero, Option.some.injEq] at k1
     subst k1
     obtain ⟨e1, e2⟩ := yky hm hhk hcall hd hx.heap hG.good k2 hM
     rw [hds]
     refine leaves_cons hM.run (by show (callFunc f (as ++ caps)).run P W = _; exact e1 W) (e2.mono fun e u' W' ⟨v, H', g', q1, q2, q3, q4, q5⟩ => ?_)
     subst q1
     have hG2 : kzh W' { a with defers := ds0 } g' { σ with H := H', d := ds } := by
       have hl := hG.dlen
       rw [hds, hx.defers] at hl
       refine ⟨q4, hG.size, fun j v hj => (hG.tmps j v hj).mono q3, by simpa using hl, fun j f' vs' hj => ?_⟩
       obtain ⟨caps', as', z1, z2⟩ := hG.defs (j + 1) f' vs' (by rw [hx.defers]; simpa using hj)
       exact ⟨caps', as', by rw [hds] at z1; simpa using z1, z2.mono q3⟩
     exact zkc hm hhk hcall ds _ h1 W' g' { σ with H := H', d := ds } { a with defers := ds0 } (settle u') (hx.imp (fun hx => ⟨q2, rfl, hx.e0, hx.len, hx.get⟩) (fun ⟨z, T2, hx⟩ => ⟨z, T2, q2, rfl, hx.e0, hx.len, hx.get⟩)) hG2 (hS.trans q3) q5.settle hr
   · cases hr
theorem zrv (hm : P.follows .mixedOrders = true) (hhk : zan P hk) (hcall : zlv P call) {lf f : Nat} {fn : Func} {b : Code} (hf : P.funcs[f]? = some fn) (hb : fn.body = some b) (hent : ∀ args w, (callFunc f args).run P w = .ok (.enter f args) w)
  {args : List V} {h h' : XH} {H : Heap} {o : Out} (hl : Nat.ble args.length fn.ntmps = true) (hh : XHR lv E h H) (hr : yc9 P hk call lf fn b args lv h = some (o, h')) : zny P f args H (fun o' H' => o' = o ∧ XHR lv E h' H') := by
 intro W g cargs hG hA
 refine ⟨hent cargs W, calls_of_wp_defers hf hb ?_⟩
 have hx : XR fn.ntmps lv E (zfl 0 args .leaf) h [] ⟨args ++ List.replicate (fn.ntmps - args.length) .any, H, [], H.E⟩ := by
  have := yj2 hl hh
  rw [hh.out]; exact this
 unfold yc9 at hr
 have fin : ∀ (e : kz8) (m : z1k) (T1 : BT V) (h1 : XH) (D1 : DL), zqq P hk call lv fn.ntmps lf b (zfl 0 args .leaf) h [] = some (e, T1, h1, D1) → ((e = .ret ∨ e = .normal) ∧ m = .ret ∨ ∃ v, e = .panic v ∧ m = .pan v false) → zne P hk call lv lf fn T1 D1 m h1 = some (o, h') →
   b.wp P (bodyPostD P fn fun e W' => ∃ o' H' g', (o' = o ∧ XHR lv E h' H') ∧ Step W g H W' g' H' ∧ Good W' g' H' ∧ y5a W' g' H' o' e) { tmps := cargs ++ Array.replicate (fn.ntmps - cargs.size) undef, defers := [] } W := fun e m T1 h1 D1 hc he hlv => by
  refine wp_mono (z7j hm hhk hcall b _ h [] _ e T1 h1 D1 hx hc W g H W _ g ⟨hG⟩ ⟨rfl, .refl _ _ _⟩ (zes hG hA)) fun ex a' W' ⟨g', σ', e', q1, q2, q3, q4, q5⟩ => ?_
  subst q4
  rcases he with ⟨rfl | rfl, rfl⟩ | ⟨v, rfl, rfl⟩
  ·cases q1; exact zkc hm hhk hcall D1 .ret h1 W' g' σ' a' .returning (.inl q5) q3 q2.2 rfl hlv
  ·cases q1; exact zkc hm hhk hcall D1 .ret h1 W' g' σ' a' .returning (.inl q5) q3 q2.2 rfl hlv
  ·cases q1 with
   | panic _ c hrel => exact zkc hm hhk hcall D1 (.pan v false) h1 W' g' σ' a' _ q5 q3 q2.2 ⟨c, rfl, hrel⟩ hlv
 split at hr
 ·rename_i T1 h1 D1 hc; exact fin _ .ret T1 h1 D1 hc (.inl ⟨.inl rfl, rfl⟩) hr
 ·rename_i T1 h1 D1 hc; exact fin _ .ret T1 h1 D1 hc (.inl ⟨.inr rfl, rfl⟩) hr
 ·rename_i v T1 h1 D1 hc; exact fin _ (.pan v false) T1 h1 D1 hc (.inr ⟨v, rfl, rfl⟩) hr
 ·cases hr
end
theorem yow {P : Program} {f : Nat} {args : List V} {H : Heap} {o : Out} (h : zny P f args ⟨H.lv + 1, [], H.get⟩ (fun o' H' => H'.E = H.get ∧ H'.lv = H.lv + 1 ∧ match o' with | .ret v => ∃ r, VS H' (outer H.lv) v r ∧ o = .ret r | .pan v => ∃ r, VS H' (outer H.lv) v r ∧ o = .pan r)) :
  zny P f args H (fun o' H' => o' = o ∧ H' = H) := fun W g cargs hG hA => by
 obtain ⟨hGe, hge, hre⟩ := zht hG
 obtain ⟨h1, h2⟩ := h W g cargs hGe ⟨hA.1, fun j v hj => hre (hA.2 j v hj)⟩
 refine ⟨h1, h2.mono fun e W' ⟨o', H1, g1, ⟨q1, q2, q3⟩, q4, q5, q6⟩ => ?_⟩
 have back : ∀ (v r : V) (c : Value), VS H1 (outer H.lv) v r → Rel W' g1 H1 v c → ∃ g2, Step W g H W' g2 H ∧ Good W' g2 H ∧ Rel W' g2 H r c := fun v r c hv hr =>
  zqa (σ := ⟨[], H1, [], H1.E⟩) hG q2 q4 q5 (zkp q1 hv) hr
 cases o' with
 | ret v =>
   obtain ⟨r, k1, k2⟩ := q3
   obtain ⟨c, e1, e2⟩ := q6
   obtain ⟨g2, z1, z2, z3⟩ := back v r c k1 e2
   exact ⟨o, H, g2, ⟨rfl, rfl⟩, z1, z2, by rw [k2]; exact ⟨c, e1, z3⟩⟩
 | pan v =>
   obtain ⟨r, k1, k2⟩ := q3
   obtain ⟨c, e1, e2⟩ := q6
   obtain ⟨g2, z1, z2, z3⟩ := back v r c k1 e2
   exact ⟨o, H, g2, ⟨rfl, rfl⟩, z1, z2, by rw [k2]; exact ⟨c, e1, z3⟩⟩
section
variable {P : Program} {hk : zar} {lf K : Nat} {fl : List Nat}
theorem y2e (hm : P.follows .mixedOrders = true) (hhk : zan P hk) {call : zil} (hcall : zlv P call) {f : Nat} {fn : Func} {b : Code} (hf : P.funcs[f]? = some fn) (hb : fn.body = some b) (hent : ∀ args w, (callFunc f args).run P w = .ok (.enter f args) w)
  {args : List V} {H : Heap} {o : Out} (hl : Nat.ble args.length fn.ntmps = true) (h : yo0 P hk call lf K fn b args H.lv = some o) : zny P f args H (fun o' H' => o' = o ∧ H' = H) := by
 refine yow ?_
 have hh : XHR (Nat.succ H.lv) H.get ⟨0, .leaf⟩ ⟨H.lv + 1, [], H.get⟩ := ⟨rfl, rfl, rfl, fun i => by rw [BT.zrx]; simp⟩
 unfold yo0 at h
 split at h
 ·rename_i v h' hfl
  simp only [Option.map_eq_some_iff] at h
  obtain ⟨r, h1, rfl⟩ := h
  refine (zrv hm hhk hcall hf hb hent hl hh hfl).mono fun o' H' ⟨q1, q2⟩ => ?_
  subst q1
  exact ⟨q2.out, q2.lv, r, (zim (fun l i o ho => q2.xg ho) q2.lv K h1).1, rfl⟩
 ·rename_i v h' hfl
  simp only [Option.map_eq_some_iff] at h
  obtain ⟨r, h1, rfl⟩ := h
  refine (zrv hm hhk hcall hf hb hent hl hh hfl).mono fun o' H' ⟨q1, q2⟩ => ?_
  subst q1
  exact ⟨q2.out, q2.lv, r, (zim (fun l i o ho => q2.xg ho) q2.lv K h1).1, rfl⟩
 ·cases h
theorem yh5 (hm : P.follows .mixedOrders = true) (hhk : zan P hk) : ∀ m, zlv P (ynv P hk lf K fl m)
 | 0 => fun pure f args lv E h o h' H hc => by cases hc
 | m + 1 => fun pure f args lv E h o h' H hc hh => by
   have ih := yh5 hm hhk m
   have hc : yl2 P hk lf K fl (ynv P hk lf K fl m) pure f args lv h = some (o, h') := hc
   unfold yl2 at hc
   split at hc
   · cases hc
   · rename_i fn hf
     split at hc
     · cases hc
     · rename_i b hb
       split at hc
       · cases hc
       · rename_i hcond
         simp only [Bool.or_eq_false_iff, Bool.not_eq_false'] at hcond
         have hent := fun args w => zso (P := P) hf (by rw [hb]; rfl) hcond.1 args w
         have flat : pure = false → yc9 P hk (ynv P hk lf K fl m) lf fn b args lv h = some (o, h') → zny P f args H (fun o' H' => o' = o ∧ XHR lv E h' H') ∧ (pure = true → ∀ H2 : Heap, H2.lv = lv → zny P f args H2 (fun o' H' => o' = o ∧ H' = H2)) := fun hp q =>
           ⟨zrv hm hhk ih hf hb hent hcond.2 hh q, fun hp' => by rw [hp] at hp'; cases hp'⟩
         split at hc
         · split at hc
           · rename_i o' hp
             simp only [Option.some.injEq, Prod.mk.injEq] at hc
             obtain ⟨rfl, rfl⟩ := hc
             have := fun (H2 : Heap) (h2 : H2.lv = lv) => y2e hm hhk ih hf hb hent (H := H2) hcond.2 (by rw [h2]; exact hp)
             exact ⟨(this H hh.lv).mono fun o' H' ⟨q1, q2⟩ => ⟨q1, by rw [q2]; exact hh⟩, fun _ => this⟩
           · cases pure with
             | true => cases hc
             | false => exact flat rfl hc
         · cases pure with
           | true => cases hc
           | false => exact flat rfl hc
end
end Go.Ab


namespace Go.Ab
open Go
set_option linter.unusedVariables false
set_option linter.unusedSimpArgs false
structure za4 where
 f : Nat
 lv : Nat
 args : List V
 r : V
def za4.ok (P : Program) (e : za4) : Prop := ∀ H : Heap, H.lv = e.lv → ziw P e.f e.args H e.r H
def yqy (P : Program) : List za4 → Prop
 | [] => True
 | e :: l => e.ok P ∧ yqy P l
def z9o : List za4 → zar
 | [], _, _, _ => none
 | e :: l, lv, f, args => match Nat.beq e.f f with
   | true => (match Nat.beq e.lv lv with
     | true => (match V.zdu e.args args with
       | true => some e.r
       | false => z9o l lv f args)
     | false => z9o l lv f args)
   | false => z9o l lv f args
theorem z6l {P : Program} : ∀ {l : List za4}, yqy P l → zan P (z9o l)
 | [], _ => fun lv f args r h => by cases h
 | e :: l, hl => fun lv f args r h => by
   simp only [z9o] at h
   have rest := z6l hl.2 lv f args r
   split at h
   · rename_i h1
     split at h
     · rename_i h2
       split at h
       · rename_i h3
         injection h with h; subst h
         rw [← Nat.eq_of_beq_eq_true h1, ← Nat.eq_of_beq_eq_true h2, ← zee h3]
         exact hl.1
       · exact rest h
     · exact rest h
   · exact rest h
def ze1 (a b : zar) : zar := fun lv f args => match a lv f args with
 | some r => some r
 | none => b lv f args
theorem z7p {P : Program} {a b : zar} (ha : zan P a) (hb : zan P b) : zan P (ze1 a b) := fun lv f args r h => by
 unfold ze1 at h
 split at h
 ·rename_i r' hr
  injection h with h; subst h
  exact ha lv f args _ hr
 ·exact hb lv f args r h
noncomputable def yr1 (P : Program) (hk : zar) (lf K : Nat) (fl : List Nat) (m : Nat) (f : Nat) (args : List V) (lv : Nat) : Option Out := match P.funcs[f]? with
 | none => none
 | some fn => match fn.body with
   | none => none
   | some b => match (fn.name == "runtime.NumGoroutine") || !(Nat.ble args.length fn.ntmps) with
     | true => none
     | false => yo0 P hk (ynv P hk lf K fl m) lf K fn b args lv
noncomputable def za4.check (P : Program) (hk : zar) (lf K : Nat) (fl : List Nat) (m : Nat) (e : za4) : Bool := match yr1 P hk lf K fl m e.f e.args e.lv with
 | some (.ret v) => V.same v e.r
 | _ => false
theorem zzc {P : Program} {hk : zar} (hm : P.follows .mixedOrders = true) (hhk : zan P hk) {lf K : Nat} {fl : List Nat} {m : Nat} {e : za4} (h : e.check P hk lf K fl m = true) : e.ok P := fun H hH => by
 unfold za4.check at h
 split at h
 ·rename_i v hv
  obtain rfl := ygl h
  unfold yr1 at hv
  split at hv
  ·cases hv
  ·rename_i fn hf
   split at hv
   ·cases hv
   ·rename_i b hb
    split at hv
    ·cases hv
    ·rename_i hcond
     simp only [Bool.or_eq_false_iff, Bool.not_eq_false'] at hcond
     have hent := fun args w => zso (P := P) hf (by rw [hb]; rfl) hcond.1 args w
     exact znp (y2e hm hhk (yh5 hm hhk m) hf hb hent hcond.2 (by rw [hH]; exact hv))
 ·cases h
end Go.Ab


namespace Go.Ab
open Go
set_option linter.unusedVariables false
set_option linter.unusedSimpArgs false
def ype (c : UInt8) : List UInt8 → Nat → Option Nat
 | [], _ => none
 | b :: s, n => match Nat.beq b.toNat c.toNat with
   | true => some n
   | false => ype c s (Nat.succ n)
def idxI : Option Nat → Int
 | none => -1
 | some n => Int.ofNat n
theorem yor (c : UInt8) : ∀ (s : List UInt8) (n : Nat), (ype c s n = none ∧ Lib.indexByte s c = -1) ∨ ∃ i : Nat, ype c s n = some (n + i) ∧ Lib.indexByte s c = i
 | [], n => .inl ⟨rfl, rfl⟩
 | b :: s, n => by
   simp only [ype, Lib.indexByte]
   split
   · rename_i e
     have : b = c := UInt8.toNat_inj.1 (Nat.eq_of_beq_eq_true e)
     subst this
     exact .inr ⟨0, by simp, by simp⟩
   · rename_i e
     have hb : (b == c) = false := by
       cases hh : b == c
       · rfl
       · rw [beq_iff_eq] at hh; subst hh; rw [Nat.beq_refl] at e; cases e
     rw [hb]
     rcases yor c s (Nat.succ n) with ⟨h1, h2⟩ | ⟨i, h1, h2⟩
     · exact .inl ⟨h1, by rw [h2]; rfl⟩
     · refine .inr ⟨i + 1, by rw [h1]; congr 1; simp only [Nat.succ_eq_add_one]; omega, ?_⟩
       rw [h2]
       have : (((i : Nat) : Int) == -1) = false := by rw [beq_eq_false_iff_ne]; omega
       simp only [Bool.false_eq_true, if_false, this]
       omega
theorem idx_eq (c : UInt8) (s : List UInt8) : idxI (ype c s 0) = Lib.indexByte s c := by
 rcases yor c s 0 with ⟨h1, h2⟩ | ⟨i, h1, h2⟩
 ·rw [h1, h2]; rfl
 ·rw [h1, h2]; simp [idxI]
def cmpS : List UInt8 → List UInt8 → Int
 | [], [] => 0
 | [], _ :: _ => -1
 | _ :: _, [] => 1
 | a :: s, b :: t => match Nat.blt a.toNat b.toNat with
   | true => -1
   | false => match Nat.blt b.toNat a.toNat with
     | true => 1
     | false => cmpS s t
theorem yo9 : ∀ s t : List UInt8, cmpS s t = Lib.compareBytes s t
 | [], [] => rfl
 | [], _ :: _ => rfl
 | _ :: _, [] => rfl
 | a :: s, b :: t => by
   simp only [cmpS, Lib.compareBytes]
   have key : ∀ x y : UInt8, (Nat.blt x.toNat y.toNat = true) ↔ x < y := fun x y => by rw [Nat.blt_eq]; exact UInt8.lt_iff_toNat_lt.symm
   split
   · rename_i e; rw [if_pos ((key a b).1 e)]
   · rename_i e
     rw [if_neg (fun h => by rw [(key a b).2 h] at e; cases e)]
     split
     · rename_i e2; rw [if_pos ((key b a).1 e2)]
     · rename_i e2
       rw [if_neg (fun h => by rw [(key b a).2 h] at e2; cases e2)]
       exact yo9 s t
section
variable {P : Program}
def yko (k : Nat) : zar := fun _ f args => match Nat.beq f k with
 | true => (match args with
   | [x] => some x
   | _ => none)
 | false => none
def ymo (k : Nat) : zar := fun _ f args => match Nat.beq f k with
 | true => (match args with
   | [.str s, .int .u8 c] => some (.int .i64 (idxI (ype c.toNat.toUInt8 s 0)))
   | _ => none)
 | false => none
def yl3 (k : Nat) : zar := fun _ f args => match Nat.beq f k with
 | true => (match args with
   | [.str s, .str t] => some (.int .i64 (cmpS s t))
   | _ => none)
 | false => none
theorem y5u {W : World} {g : Gh} {H : Heap} {u : V} {cs : Array Value} (h : zjp W g H [u] cs) : ∃ x, cs = #[x] ∧ Rel W g H u x := by
 obtain ⟨h1, h2⟩ := h
 cases cs with | mk l =>
 match l, h1 with
 | [x], _ => exact ⟨x, rfl, by simpa using h2 0 u rfl⟩
theorem ypk {k : Nat} {fn : Func} (hf : P.funcs[k]? = some fn) (hname : (fn.name == "runtime.NumGoroutine") = false) (hb : fn.body.isNone = true) (hn : Extern.findNext fn = none) (he : Extern.find fn = some Extern.AbiNoEscape.same) : zan P (yko k) := fun lv f args r h H hH => by
 unfold yko at h
 split at h
 ·rename_i e
  obtain rfl := Nat.eq_of_beq_eq_true e
  split at h
  ·rename_i x
   injection h with h; subst h
   intro W g cargs hG hA
   obtain ⟨c, rfl, h0⟩ := y5u hA
   exact .inr ⟨c, W, g, by rw [run_callFunc_extern hf hname hb hn he, Lib.run_noEscape]; rfl, .refl _ _ _, hG, h0⟩
  ·cases h
 ·cases h
theorem yp8 {k : Nat} {fn : Func} (hf : P.funcs[k]? = some fn) (hname : (fn.name == "runtime.NumGoroutine") = false) (hb : fn.body.isNone = true) (hn : Extern.findNext fn = none) (he : Extern.find fn = some Extern.BytealgIndexByte.indexByte) : zan P (ymo k) := fun lv f args r h H hH => by
 unfold ymo at h
 split at h
 ·rename_i e
  obtain rfl := Nat.eq_of_beq_eq_true e
  split at h
  ·rename_i s c
   injection h with h; subst h
   intro W g cargs hG hA
   obtain ⟨x, y, rfl, h0, h1⟩ := y1o hA
   cases h0; cases h1
   rw [idx_eq]
   exact .inr ⟨_, W, g, by rw [run_callFunc_extern hf hname hb hn he, Lib.run_indexByteString]; rfl, .refl _ _ _, hG, .int _ _⟩
  ·cases h
 ·cases h
theorem yph {k : Nat} {fn : Func} (hf : P.funcs[k]? = some fn) (hname : (fn.name == "runtime.NumGoroutine") = false) (hb : fn.body.isNone = true) (hn : Extern.findNext fn = none) (he : Extern.find fn = some Extern.BytealgCompare.compare) : zan P (yl3 k) := fun lv f args r h H hH => by
 unfold yl3 at h
 split at h
 ·rename_i e
  obtain rfl := Nat.eq_of_beq_eq_true e
  split at h
  ·rename_i s t
   injection h with h; subst h
   intro W g cargs hG hA
   obtain ⟨x, y, rfl, h0, h1⟩ := y1o hA
   cases h0; cases h1
   rw [yo9]
   exact .inr ⟨_, W, g, by rw [run_callFunc_extern hf hname hb hn he, Lib.run_compareString]; rfl, .refl _ _ _, hG, .int _ _⟩
  ·cases h
 ·cases h
end
end Go.Ab

