/-
  A MACHINE THAT RUNS CLOSED CALLS BY RECKONING: what it computes is what the calls do.
-/
import Derived.Test.YtfhpamcehnfhoaaGreatDoorLib6
import Derived.Lib.Bytealg
import Derived.Lib.Builder
import Derived.Laws.Externs
namespace Go.Ab
open Go
set_option linter.unusedVariables false
set_option linter.unusedSimpArgs false
def z58 (P : Program) (hk : z8x) : Prop := ∀ lv f args r, hk lv f args = some r → ∀ H : kz1, H.lv = lv → zg5 P f args H r H
def zdc (P : Program) (call : zh2) : Prop := ∀ (pure : Bool) (f : Nat) (args : List V) (lv : Nat) (E : Nat → Nat → Option kz3) (h : XH) (o : Out) (h' : XH) (H : kz1),
 call pure f args lv h = some (o, h') → XHR lv E h H → zeq P f args H (fun o' H' => o' = o ∧ XHR lv E h' H') ∧ (pure = true → ∀ H2 : kz1, H2.lv = lv → zeq P f args H2 (fun o' H' => o' = o ∧ H' = H2))
theorem zeu {P : Program} {f : Nat} {args : List V} {H : kz1} {r : V} (h : zeq P f args H (fun o' H' => o' = .ret r ∧ H' = H)) : zg5 P f args H r H := fun W g cargs hG hA => by
 obtain ⟨h1, h2⟩ := h W g cargs hG hA
 refine .inl ⟨h1, h2.mono fun e W' ⟨o, H', g', ⟨k1, k2⟩, k3, k4, k5⟩ => ?_⟩
 subst k1; subst k2
 obtain ⟨c, e1, e2⟩ := k5
 exact ⟨c, g', e1, k3, k4, e2⟩
theorem zpn {P : Program} {ρ : Operand → V} {c : Call} {f : Nat} {args : List V} (h : target ρ c = some (f, args)) (H : kz1) : ox P H ρ (.call c) = none ∧ pv P H ρ (.call c) = none := by
 unfold target at h
 split at h
 ·rename_i fo hc
  exact ⟨by simp [ox, z4d, hc], by simp [pv, z4d, hc]⟩
 ·cases h
theorem drop_one {ops : Array Oper} {k : Nat} {o : Oper} (ho : ops[k]? = some o) : (ops.toList.drop k).take 1 = [o] := by
 have hk : k < ops.size := by
  rcases Nat.lt_or_ge k ops.size with q | q
  ·exact q
  ·rw [Array.getElem?_eq_none q] at ho; cases ho
 have ho' : ops[k] = o := by rw [Array.getElem?_eq_getElem hk] at ho; exact Option.some.inj ho
 rw [List.drop_eq_getElem_cons (by simpa using hk)]
 simp [ho']
theorem y09 {W : World} {g : Gh} {H : kz1} {P : Program} {ρ : Operand → V} {r : Operand → Value} (hρ : ∀ x, Rel W g H (ρ x) (r x)) {c : Call} {ty : TypeId} {f : Nat} {args : List V} (h : target ρ c = some (f, args)) :
  ∃ caps as, zdm W g H args (as ++ caps) ∧ ∀ w : World, (resolve r c ty).run P w = .ok ⟨.fn (.func f) caps, as⟩ w := by
 unfold target at h
 split at h
 ·rename_i fo hc
  split at h
  ·rename_i f' first caps hf
   injection h with h; injection h with h1 h2; subst h1; subst h2
   have hr := hρ fo
   rw [hf] at hr
   generalize hrc : r fo = rc at hr
   cases hr with
   | fn _ _ _ fs cs n1 n2 r1 r2 =>
     refine ⟨cs, fs ++ c.args.map r, z9q (z9q ⟨n1, r1⟩ (zf5 hρ c.args)) ⟨n2, r2⟩, fun w => ?_⟩
     simp [resolve, hc, hrc, Deferred.ofValue]
  ·cases h
 ·cases h
section
variable {P : Program} {ops : Array Oper} {k : Nat} {σ : St} {Q : zz5 → St → Prop} {o : Oper}
theorem ydm {c : Call} {f : Nat} {args : List V} (ho : ops[k]? = some o) (hw : yzd ops σ o = some true) (hop : o.op = .defer c) (ht : target σ.ev c = some (f, args))
  (h : z4u P ops (k + 1) ({ σ with d := (f, args) :: σ.d }.put o.dst .any) Q) : z4u P ops k σ Q := fun W0 g0 H0 W a g hB hS hG => by
 have hk : k < ops.size := by
  rcases Nat.lt_or_ge k ops.size with q | q
  ·exact q
  ·rw [Array.getElem?_eq_none q] at ho; cases ho
 rw [show ops.size - k = (ops.size - (k + 1)) + 1 by omega, List.range'_succ]
 simp only [wpOps, ho]
 rw [kzi hG hw, if_pos rfl]
 left
 unfold Oper.wp
 obtain ⟨caps, as, k1, k2⟩ := y09 (P := P) (ty := o.type) hG.ev ht
 have hex : (execOp a.eval o).run P W = .ok (.defer ⟨.fn (.func f) caps, as⟩) W := by
  unfold execOp; rw [hop]; simp [k2 W]
 rw [hex]
 have hG2 : zzb W { a with defers := ⟨.fn (.func f) caps, as⟩ :: a.defers } g { σ with d := (f, args) :: σ.d } := by
  refine ⟨hG.good, hG.size, hG.tmps, by simp [hG.dlen], fun j f' vs hj => ?_⟩
  cases j with
  | zero => simp at hj; obtain ⟨rfl, rfl⟩ := hj; exact ⟨caps, as, rfl, k1⟩
  | succ j => exact hG.defs j f' vs (by simpa using hj)
 have hG3 := hG2.next (.refl _ _ _) hG.good (.any undef) o.dst
 have hH : ({ σ with d := (f, args) :: σ.d }.put o.dst .any).H = σ.H := by cases o.dst <;> rfl
 have he : ({ σ with d := (f, args) :: σ.d }.put o.dst .any).e0 = σ.e0 := by cases o.dst <;> rfl
 exact h W0 g0 H0 W _ g hB (by rw [hH, he]; exact hS) hG3
theorem yis (ho : ops[k]? = some o) (hw : yzd ops σ o = some false) (h : z4u P ops (k + 1) (σ.put o.dst (.tup [])) Q) : z4u P ops k σ Q :=
 zfh 1 [] _ [] (by rw [drop_one ho]; simp [zk3, hw]) zdh h
theorem yec {c : Call} {f : Nat} {args : List V} {r : V} {H' : kz1} (ho : ops[k]? = some o) (hw : yzd ops σ o = some true) (hop : o.op = .call c) (ht : target σ.ev c = some (f, args)) (hc : zg5 P f args σ.H r H')
  (h : z4u P ops (k + 1) ({ σ with H := H' }.put o.dst r) Q) : z4u P ops k σ Q :=
 zfh 1 [(r, some H')] _ [⟨f, args, σ.H, r, H'⟩] (by rw [drop_one ho]; simp [zk3, hw, hop, (zpn (P := P) ht σ.H).1, ht]) (ze1 hc zdh) h
end
theorem yaz {lv : Nat} {e : Option Eff} {h h1 : XH} {k : XO} {v : V} (hx : zqa lv e h k = .val v h1) : (∃ ef, e = some ef ∧ ef.onX lv h = some (v, h1)) ∨ (e = none ∧ k = .val v h1) := by
 unfold zqa at hx
 split at hx
 ·rename_i ef
  split at hx
  ·rename_i v' h' ho
   injection hx with a b; subst a; subst b
   exact .inl ⟨ef, rfl, ho⟩
  ·cases hx
 ·exact .inr ⟨rfl, hx⟩
theorem y1b {lv : Nat} {e : Option Eff} {h h1 : XH} {k : XO} {v : V} (hk : k ≠ .pan v h1) : zqa lv e h k ≠ .pan v h1 := fun hx => by
 unfold zqa at hx
 split at hx
 ·split at hx <;> cases hx
 ·exact hk hx
theorem y1p {lv : Nat} {e : Option Eff} {h : XH} {k : XO} {f : Nat} {args : List V} (hk : k ≠ .dfr f args) : zqa lv e h k ≠ .dfr f args := fun hx => by
 unfold zqa at hx
 split at hx
 ·split at hx <;> cases hx
 ·exact hk hx
theorem yhi {P : Program} {ops : Array Oper} {k : Nat} {σ : St} {Q : zz5 → St → Prop} {o : Oper} {v : V} {H' : kz1} (ho : ops[k]? = some o) (hw : yzd ops σ o = some true)
  (ht : ∀ W a g, zzb W a g σ → z4b P W g σ.H (execOp a.eval o) v H') (h : z4u P ops (k + 1) ({ σ with H := H' }.put o.dst v) Q) : z4u P ops k σ Q := fun W0 g0 H0 W a g hB hS hG => by
 have hk : k < ops.size := by
  rcases Nat.lt_or_ge k ops.size with q | q
  ·exact q
  ·rw [Array.getElem?_eq_none q] at ho; cases ho
 rw [show ops.size - k = (ops.size - (k + 1)) + 1 by omega, List.range'_succ]
 simp only [wpOps, ho]
 rw [kzi hG hw, if_pos rfl]
 left
 unfold Oper.wp
 obtain ⟨c, W', g', h1, h2, h3, h4⟩ := ht W a g hG
 have hn := hG.next h2 h3 h4 o.dst
 have hH : ({ σ with H := H' }.put o.dst v).H = H' := by cases o.dst <;> rfl
 have he : ({ σ with H := H' }.put o.dst v).e0 = σ.e0 := by cases o.dst <;> rfl
 have fin := h W0 g0 H0 W' (a.put o.dst c) g' hB (by rw [hH, he]; exact ⟨hS.1, hS.2.trans h2⟩) hn
 rcases h1 with h1 | ⟨h1, rfl⟩
 ·rw [h1]; exact fin
 ·rw [h1]; exact fin
def Does (P : Program) (σ : St) (op : Op) (v : V) (H' : kz1) : Prop := ox P σ.H σ.ev op = some (v, H') ∨ zau P σ.H σ.ev op = some (v, H')
theorem zj7 {P : Program} {ops : Array Oper} {k : Nat} {σ : St} {Q : zz5 → St → Prop} {o : Oper} {v : V} {H' : kz1} (ho : ops[k]? = some o) (hw : yzd ops σ o = some true) (hx : Does P σ o.op v H') (h : z4u P ops (k + 1) ({ σ with H := H' }.put o.dst v) Q) : z4u P ops k σ Q :=
 yhi ho hw (fun W a g hG => hx.elim (fun q => zm0 hG.good hG.ev q) (fun q => zgs hG.good hG.ev q)) h
section
variable {P : Program} {hk : z8x} {call : zh2} {lv n : Nat} {E : Nat → Nat → Option kz3}
theorem zb5 (hhk : z58 P hk) (hcall : zdc P call) {ops : Array Oper} : ∀ (l : List Oper) (k : Nat) (T : BT V) (h : XH) (D : DL) (σ : St) (e : zz5) (T' : BT V) (h' : XH) (D' : DL), l = ops.toList.drop k → XR n lv E T h D σ →
  yig P hk call lv n ops l T h D = some (e, T', h', D') → z4u P ops k σ (fun e' σ' => e' = e ∧ XR n lv E T' h' D' σ')
 | [], k, T, h, D, σ, e, T', h', D', hl, hx, hr => by
   have hr : some (zz5.normal, T, h, D) = some (e, T', h', D') := hr
   simp only [Option.some.injEq, Prod.mk.injEq] at hr
   obtain ⟨rfl, rfl, rfl, rfl⟩ := hr
   have hk : ops.size ≤ k := by
     have := congrArg List.length hl
     simp at this; omega
   exact yc0 hk ⟨rfl, hx⟩
 | o :: rest, k, T, h, D, σ, e, T', h', D', hl, hx, hr => by
   have ho : ops[k]? = some o := by
     have := congrArg (fun x => x[0]?) hl
     simpa using this.symm
   have hrest : rest = ops.toList.drop (k + 1) := by
     rw [← List.tail_drop, ← hl]; rfl
   have hr : yim P hk call lv n ops o (yig P hk call lv n ops rest) T h D = some (e, T', h', D') := hr
   unfold yim at hr
   have hw := hx.wanted ops o
   split at hr
   · cases hr
   · rename_i e1
     split at hr
     · rename_i T1 ht
       exact yis ho (hw.trans e1) (zb5 hhk hcall rest (k + 1) T1 h D _ e T' h' D' hrest (hx.yip ht) hr)
     · cases hr
   · rename_i e1
     have eff : ∀ (op : Op) (v : V) (h1 : XH), o.op = op → yl4 P lv op T h = XO.val v h1 → ∃ H1, Does P σ o.op v H1 ∧ XHR lv E h1 H1 := fun op v h1 hop hh => by
       have hgx : ∀ l i o, xg lv h l i = some o → σ.H.get l i = some o := fun l i o ho => hx.heap.xg ho
       rcases yaz hh with ⟨ef, hef, hon⟩ | ⟨_, hh⟩
       · rw [← hx.heap.lv] at hef
         have hm := zl2 (fun l i o ho => hgx l i o (by rw [← hx.heap.lv]; exact ho)) hef
         obtain ⟨q1, q2⟩ := Eff.ycu hx.heap hon
         exact ⟨(ef.on σ.H).2, .inr (by rw [hx.ev, hop, hm, ← q1]), q2⟩
       · rcases yaz hh with ⟨ef, hef, hon⟩ | ⟨_, hh⟩
         · have hox := ydq hgx hef
           obtain ⟨q1, q2⟩ := Eff.ycu hx.heap hon
           exact ⟨(ef.on σ.H).2, .inl (by rw [hx.ev, hop, hox, ← q1]), q2⟩
         · cases hh
     split at hr
     · rename_i v h1 hxo
       split at hr
       · rename_i T1 ht
         have go : ∀ (H1 : kz1), XHR lv E h1 H1 → z4u P ops (k + 1) ({ σ with H := H1 }.put o.dst v) (fun e' σ' => e' = e ∧ XR n lv E T' h' D' σ') := fun H1 q =>
           zb5 hhk hcall rest (k + 1) T1 h1 D _ e T' h' D' hrest (hx.put q ht) hr
         have same : ∀ {r : Option V}, XO.of r h = XO.val v h1 → r = some v ∧ h1 = h := fun {r} hh => by
           cases r with
           | none => cases hh
           | some u => injection hh with a b; exact ⟨by rw [a], b.symm⟩
         have quick : ∀ (op : Op) (r : Option V), o.op = op → eox P (xg lv h) (evT T) op = r.map .keep → XO.of r h = XO.val v h1 → z4u P ops k σ (fun e' σ' => e' = e ∧ XR n lv E T' h' D' σ') := fun op r hop hr' hh => by
           obtain ⟨rfl, rfl⟩ := same hh
           have hox := ydq (fun l i o ho => hx.heap.xg ho) hr'
           exact zj7 ho (hw.trans e1) (.inl (by rw [hx.ev, hop, hox]; rfl)) (go σ.H hx.heap)
         unfold xop1 at hxo
         split at hxo
         · rename_i x hop; exact quick _ (some (evT T x)) hop rfl hxo
         · rename_i x hop; exact quick _ (some (evT T x)) hop rfl hxo
         · rename_i t a hop; exact quick _ _ hop rfl hxo
         · rename_i op t x y ty hop
           split at hxo
           · rename_i u hp
             exact quick _ _ hop rfl ((by rw [hp]; exact hxo : XO.of (zk4 P op t (evT T x) (evT T y)) h = XO.val v h1))
           · obtain ⟨q1, rfl⟩ := same hxo
             have hm := yae (fun l i o ho => hx.heap.xg ho) q1
             exact zj7 ho (hw.trans e1) (.inr (by rw [hop]; simp only [zau]; rw [hx.ev, hm]; rfl)) (go σ.H hx.heap)
         · rename_i s x f hop; exact quick _ _ hop rfl hxo
         · rename_i c hop
           split at hxo
           · rename_i f args htg
             have htg' : target σ.ev c = some (f, args) := by rw [hx.ev]; exact htg
             split at hxo
             · rename_i r hh
               injection hxo with a b; subst a; subst b
               exact yec ho (hw.trans e1) hop htg' (hhk _ _ _ _ hh σ.H hx.heap.lv) (go σ.H hx.heap)
             · split at hxo
               · rename_i r h2 hcl
                 injection hxo with a b; subst a; subst b
                 refine zoj ho (hw.trans e1) hop htg' (hcall _ _ _ _ _ _ _ _ _ hcl hx.heap).1 (fun r' H' ⟨q1, q2⟩ => ?_) (fun v' H' ⟨q1, q2⟩ => by cases q1)
                 injection q1 with q1; subst q1
                 exact go H' q2
               · cases hxo
               · cases hxo
           · rename_i htg
             obtain ⟨H1, q1, q2⟩ := eff _ _ _ hop hxo
             exact zj7 ho (hw.trans e1) q1 (go H1 q2)
         · split at hxo <;> cases hxo
         · split at hxo <;> cases hxo
         · obtain ⟨H1, q1, q2⟩ := eff _ _ _ rfl hxo
           exact zj7 ho (hw.trans e1) q1 (go H1 q2)
       · cases hr
     · rename_i v h1 hxo
       simp only [Option.some.injEq, Prod.mk.injEq] at hr
       obtain ⟨rfl, rfl, rfl, rfl⟩ := hr
       have noeff : ∀ (op : Op), yl4 P lv op T h = XO.pan v h1 → False := fun op hh => y1b (y1b (fun q => by cases q)) hh
       have nopan : ∀ (r : Option V), XO.of r h = XO.pan v h1 → False := fun r hh => by cases r <;> cases hh
       unfold xop1 at hxo
       split at hxo
       · cases hxo
       · cases hxo
       · exact (nopan _ hxo).elim
       · split at hxo
         · cases hxo
         · exact (nopan _ hxo).elim
       · exact (nopan _ hxo).elim
       · rename_i c hop
         split at hxo
         · rename_i f args htg
           have htg' : target σ.ev c = some (f, args) := by rw [hx.ev]; exact htg
           split at hxo
           · cases hxo
           · split at hxo
             · cases hxo
             · rename_i r h2 hcl
               injection hxo with a b; subst a; subst b
               refine zoj ho (hw.trans e1) hop htg' (hcall _ _ _ _ _ _ _ _ _ hcl hx.heap).1 (fun r' H' ⟨q1, q2⟩ => by cases q1) (fun v' H' ⟨q1, q2⟩ => ?_)
               injection q1 with q1; subst q1
               exact ⟨rfl, q2, hx.defers, hx.e0, hx.len, hx.get⟩
             · cases hxo
         · exact (noeff _ hxo).elim
       · split at hxo <;> cases hxo
       · rename_i x hop
         split at hxo
         · rename_i t u hv
           injection hxo with a b; subst a; subst b
           exact zrz ho (hw.trans e1) hop (by rw [hx.ev]; exact hv) ⟨rfl, hx⟩
         · cases hxo
       · exact (noeff _ hxo).elim
     · rename_i f args hxo
       split at hr
       · rename_i T1 ht
         have noeff : ∀ (op : Op), yl4 P lv op T h = XO.dfr f args → False := fun op hh => y1p (y1p (fun q => by cases q)) hh
         have noq : ∀ (r : Option V), XO.of r h = XO.dfr f args → False := fun r hh => by cases r <;> cases hh
         unfold xop1 at hxo
         split at hxo
         · cases hxo
         · cases hxo
         · exact (noq _ hxo).elim
         · split at hxo
           · cases hxo
           · exact (noq _ hxo).elim
         · exact (noq _ hxo).elim
         · split at hxo
           · split at hxo
             · cases hxo
             · split at hxo <;> cases hxo
           · exact (noeff _ hxo).elim
         · rename_i c hop
           split at hxo
           · rename_i f' args' htg
             injection hxo with a b; subst a; subst b
             refine ydm ho (hw.trans e1) hop (by rw [hx.ev]; exact htg) (zb5 hhk hcall rest (k + 1) T1 h ((f', args') :: D) _ e T' h' D' hrest ?_ hr)
             have hx2 : XR n lv E T h ((f', args') :: D) { σ with d := (f', args') :: σ.d } := ⟨hx.heap, by rw [hx.defers], hx.e0, hx.len, hx.get⟩
             exact hx2.yip ht
           · cases hxo
         · split at hxo <;> cases hxo
         · exact (noeff _ hxo).elim
       · cases hr
     · cases hr
theorem zv2 (hhk : z58 P hk) (hcall : zdc P call) {ops : Array Oper} : ∀ (l : List Oper) (T : BT V) (h : XH) (D : DL) (σ : St) (T' : BT V), XR n lv E T h D σ → xq P hk call lv n ops l T h = some T' →
  ∃ ans σ' cl, zam P ops l ans σ = some (σ', [], cl) ∧ (∀ c ∈ cl, c.ok P) ∧ XR n lv E T' h D σ'
 | [], T, h, D, σ, T', hx, hr => by
   have hr : some T = some T' := hr
   injection hr with hr; subst hr
   exact ⟨[], σ, [], rfl, by simp, hx⟩
 | o :: rest, T, h, D, σ, T', hx, hr => by
   have hr : ydj P hk call lv n ops o (xq P hk call lv n ops rest) T h = some T' := hr
   unfold ydj at hr
   have hw := hx.wanted ops o
   split at hr
   · cases hr
   · rename_i e1
     split at hr
     · rename_i T1 ht
       obtain ⟨ans, σ', cl, k1, k2, k3⟩ := zv2 hhk hcall rest T1 h D _ T' (hx.yip ht) hr
       exact ⟨ans, σ', cl, by simp only [zam, hw, e1]; exact k1, k2, k3⟩
     · cases hr
   · rename_i e1
     split at hr
     · rename_i v hv
       split at hr
       · rename_i T1 ht
         obtain ⟨ans, σ', cl, k1, k2, k3⟩ := zv2 hhk hcall rest T1 h D _ T' (hx.yip ht) hr
         have quiet : xpv P (xg lv h) (evT T) o.op = some v → ∃ ans σ' cl, zam P ops (o :: rest) ans σ = some (σ', [], cl) ∧ (∀ c ∈ cl, c.ok P) ∧ XR n lv E T' h D σ' := fun hq => by
           have hp := ydt (fun l i o ho => hx.heap.xg ho) hq
           rw [← hx.ev] at hp
           exact ⟨ans, σ', cl, by simp only [zam, hw, e1, hp]; exact k1, k2, k3⟩
         have claim : ∀ (c : Call) (f : Nat) (args : List V), o.op = .call c → target (evT T) c = some (f, args) → zg5 P f args σ.H v σ.H → ∃ ans σ' cl, zam P ops (o :: rest) ans σ = some (σ', [], cl) ∧ (∀ c ∈ cl, c.ok P) ∧ XR n lv E T' h D σ' := fun c f args hop htg hc => by
           rw [← hx.ev] at htg
           refine ⟨v :: ans, σ', ⟨f, args, σ.H, v, σ.H⟩ :: cl, ?_, ze1 hc k2, k3⟩
           simp only [zam, hw, e1, hop, (zpn (P := P) htg σ.H).2, htg, if_true, k1]
         unfold xq1 at hv
         split at hv
         · rename_i x hop; exact quiet (by rw [hop]; exact hv)
         · rename_i x hop; exact quiet (by rw [hop]; exact hv)
         · rename_i op t x y _ hop; exact quiet (by rw [hop]; exact hv)
         · rename_i c hop
           split at hv
           · rename_i f args htg
             split at hv
             · rename_i r hh
               injection hv with hv; subst hv
               exact claim c f args hop htg (hhk _ _ _ _ hh σ.H hx.heap.lv)
             · split at hv
               · rename_i r h2 hcl
                 injection hv with hv; subst hv
                 exact claim c f args hop htg (zeu ((hcall _ _ _ _ _ _ _ _ _ hcl hx.heap).2 rfl _ hx.heap.lv))
               · cases hv
           · exact quiet (by rw [hop]; exact hv)
         · exact quiet hv
       · cases hr
     · cases hr
def XW (n lv : Nat) (E : Nat → Nat → Option kz3) (T : BT V) (h : XH) (D : DL) (σ : St) : Prop := XR n lv E T h D σ ∨ (T = .leaf ∧ ∃ T2, XR n lv E T2 h D σ)
def XQ (n lv : Nat) (E : Nat → Nat → Option kz3) (e : zz5) (T : BT V) (h : XH) (D : DL) (σ : St) : Prop := match e with
 | .panic _ => XW n lv E T h D σ
 | _ => XR n lv E T h D σ
theorem XR.q {T : BT V} {h : XH} {D : DL} {σ : St} (k : XR n lv E T h D σ) (e : zz5) : XQ n lv E e T h D σ := by
 cases e <;> first | exact k | exact .inl k
theorem yj5 {h : XH} {D : DL} {σ : St} (hh : XHR lv E h σ.H) (hd : σ.d = D) (he : σ.e0 = E) (hl : σ.t.length = n) : ∃ T, XR n lv E T h D σ :=
 ⟨z9z 0 σ.t .leaf, hh, hd, he, hl, fun j => by
  rw [zlu, BT.zir]
  simp only [Nat.zero_le, true_and, Nat.zero_add, Nat.sub_zero]
  split
  ·rfl
  ·rw [List.getD_eq_getElem?_getD, List.getElem?_eq_none (by omega)]; rfl⟩
theorem ymn {h : XH} {R : List Nat} {l i : Nat} {o : kz3} (k : xgR lv h R l i = some o) : zd0 i R = true ∧ xg lv h l i = some o := by
 unfold xgR at k
 split at k
 ·rename_i hm; exact ⟨hm, k⟩
 ·cases k
theorem xg_lv {h : XH} {l i : Nat} {o : kz3} (k : xg lv h l i = some o) : l = lv := by
 unfold xg at k
 split at k
 ·rename_i hl; exact Nat.eq_of_beq_eq_true hl
 ·cases k
def zf3 : CK → Info
 | .quiet ks => ⟨false, fun x => zd0 x ks = true, fun _ => False, false⟩
 | .eff ks => ⟨true, fun _ => False, fun x => zd0 x ks = true, false⟩
 | .call ks => ⟨true, fun _ => False, fun x => zd0 x ks = false, true⟩
theorem zsj {x : Nat} {ks : List Nat} (h : zd0 x ks = true) : x ∈ ks := by
 unfold zd0 at h
 obtain ⟨y, hy, hxy⟩ := List.any_eq_true.1 h
 have : x = y := Nat.eq_of_beq_eq_true hxy
 subst this
 exact hy
theorem yl6 {a b : CK} (h : ztq a b = false) : ¬ ((zf3 b).eff = true ∧ (zf3 a).eff = true) ∧ ((zf3 b).eff = false → (zf3 a).eff = true → ∀ x, (zf3 b).K x → ¬ (zf3 a).W x) ∧ ((zf3 a).eff = false → (zf3 b).eff = true → ∀ x, (zf3 a).K x → ¬ (zf3 b).W x) := by
 have mem : ∀ {x : Nat} {ks ks2 : List Nat}, zd0 x ks = true → zd0 x ks2 = true → (ks.any fun k => zd0 k ks2) = true := fun {x ks ks2} h1 h2 => List.any_eq_true.2 ⟨x, zsj h1, h2⟩
 have out : ∀ {x : Nat} {ks ks2 : List Nat}, zd0 x ks = true → zd0 x ks2 = false → (ks.any fun k => !zd0 k ks2) = true := fun {x ks ks2} h1 h2 => List.any_eq_true.2 ⟨x, zsj h1, by rw [h2]; rfl⟩
 cases a with
 | quiet ks => cases b with
   | quiet ks2 => exact ⟨fun a => (by cases a.1), fun _ a => (by cases a), fun _ a => (by cases a)⟩
   | eff ks2 =>
     simp only [ztq] at h
     refine ⟨fun a => (by cases a.2), fun a => (by cases a), fun _ _ x h3 h4 => ?_⟩
     rw [mem h3 h4] at h; cases h
   | call ks2 =>
     simp only [ztq] at h
     refine ⟨fun a => (by cases a.2), fun a => (by cases a), fun _ _ x h3 h4 => ?_⟩
     rw [out h3 h4] at h; cases h
 | eff ks => cases b with
   | quiet ks2 =>
     simp only [ztq] at h
     refine ⟨fun a => (by cases a.1), fun _ _ x h3 h4 => ?_, fun a => (by cases a)⟩
     rw [mem h4 h3] at h; cases h
   | eff ks2 => cases h
   | call ks2 => cases h
 | call ks => cases b with
   | quiet ks2 =>
     simp only [ztq] at h
     refine ⟨fun a => (by cases a.1), fun _ _ x h3 h4 => ?_, fun a => (by cases a)⟩
     rw [out h3 h4] at h; cases h
   | eff ks2 => cases h
   | call ks2 => cases h
theorem ycw {h h2 : XH} {prev : CL} {H H2 : kz1} (k : XHR lv E h H) (k2 : XHR lv E h2 H2) {i : Nat} (hi : ¬ zd0 i (zpo h h2 prev) = false) : H2.L[i]? = H.L[i]? := by
 have hm : zd0 i (zpo h h2 prev) = true := by cases hh : zd0 i (zpo h h2 prev) with | true => rfl | false => exact (hi hh).elim
 have := (List.mem_filter.1 (zsj hm)).2
 unfold ym3 at this
 obtain ⟨h1, h3⟩ := zzz this
 obtain ⟨h3, h4⟩ := zzz h3
 have l1 : i < H.L.length := by rw [k.len]; exact zv1 h1
 have l2 : i < H2.L.length := by rw [k2.len]; exact zv1 h3
 have e := yj8 h4
 rw [← k.get, ← k2.get, List.getElem?_eq_getElem l1, List.getElem?_eq_getElem l2] at e
 rw [List.getElem?_eq_getElem l1, List.getElem?_eq_getElem l2]
 exact congrArg some e.symm
theorem y3n {ops : Array Oper} {i : Nat} {c : CK} {prev : CL} (h : okP ops.toList i c prev = true) : GP .any ops (prev.map fun p => (p.1, zf3 p.2)) i (zf3 c) := fun p hp hf => by
 obtain ⟨q, hq, rfl⟩ := List.mem_map.1 hp
 have h1 := List.all_eq_true.1 h q hq
 exact yl6 (by
  cases hc : ztq c q.2 with
  | false => rfl
  | true => rw [hc] at h1; exact (z9s h1 hf).elim)
theorem zol {ops : Array Oper} {i : Nat} (h : ycz ops.toList i ops.size = true) : ∀ j ∈ List.range' (i + 1) (ops.size - (i + 1)), ¬ yka .any ops i j := fun j hj => z9s (List.all_eq_true.1 h j hj)
theorem Eff.ymk {h h' : XH} {H : kz1} {v : V} (k : XHR lv E h H) {e : Eff} (he : e.onX lv h = some (v, h')) {i : Nat} (hi : ¬ zd0 i (e.wr h) = true) : (e.on H).2.L[i]? = H.L[i]? := by
 have ne : ∀ {j}, e.wr h = [j] → i ≠ j := fun {j} hw hij => hi (by rw [hw, hij]; simp [zd0])
 cases e with
 | keep u => rfl
 | push mk o =>
   have := ne rfl
   rw [← k.len] at this
   simp only [Eff.on, kz1.push]
   rw [List.getElem?_append]
   split
   · rfl
   · rename_i hge
     rw [List.getElem?_eq_none (by simp; omega), List.getElem?_eq_none (by omega)]
 | set l j o u =>
   have := ne rfl
   simp only [Eff.onX] at he
   split at he
   · rename_i hl
     have hl : l = lv := Nat.eq_of_beq_eq_true hl
     simp only [Eff.on, kz1.set]
     rw [if_pos (by rw [hl, k.lv])]
     exact List.getElem?_set_ne (Ne.symm this)
   · cases he
 | zcl j u =>
   have := ne rfl
   simp only [Eff.on, kz1.zcl]
   exact List.getElem?_set_ne (Ne.symm this)
theorem y46 {op : Op} {T : BT V} {h : XH} {R : List Nat} {v : V} {H : kz1} (hlv : H.lv = lv) (hg : ∀ l i o, xgR lv h R l i = some o → H.get l i = some o) (hq : zlq P lv op T h R = some v) : pv P H (evT T) op = some v ∨ zau P H (evT T) op = some (v, H) ∨ ∃ t n c, op = .makeSlice t n c ∧ zf2 P t (evT T n) (evT T c) = some v := by
 unfold zlq at hq
 split at hq
 ·exact .inr (.inr ⟨_, _, _, rfl, hq⟩)
 ·split at hq
  ·rename_i u he
   injection hq with hq; subst hq
   rw [← hlv] at he hg
   exact .inr (.inl (zl2 hg he))
  ·exact .inl (ydt hg hq)
theorem zit (hhk : z58 P hk) (hcall : zdc P call) {ops : Array Oper} {D : DL} {e : zz5} {T' : BT V} {h' : XH} : ∀ (l : List Oper) (k : Nat) (prev : CL) (T : BT V) (h : XH) (σ : St), l = ops.toList.drop k → XR n lv E T h D σ →
  yfz P hk call lv n ops l k prev T h = some (e, T', h') → zce P ops .any (fun H => H.lv = lv) (fun v σ => ∀ t', t'.length = σ.t.length → zz5.panic v = e ∧ XQ n lv E e T' h' D { σ with t := t' }) (fun σ' => zz5.normal = e ∧ XQ n lv E e T' h' D σ') (List.range' k (ops.size - k)) (prev.map fun p => (p.1, zf3 p.2)) σ
 | [], k, prev, T, h, σ, hl, hx, hr => by
   have hr : some (zz5.normal, T, h) = some (e, T', h') := hr
   simp only [Option.some.injEq, Prod.mk.injEq] at hr
   obtain ⟨rfl, rfl, rfl⟩ := hr
   have hkl : ops.size ≤ k := by
     have := congrArg List.length hl
     simp at this; omega
   rw [show ops.size - k = 0 by omega]
   exact ⟨rfl, hx⟩
 | o :: rest, k, prev, T, h, σ, hl, hx, hr => by
   have ho : ops[k]? = some o := by
     have := congrArg (fun x => x[0]?) hl
     simpa using this.symm
   have hkl : k < ops.size := by
     rcases Nat.lt_or_ge k ops.size with q | q
     · exact q
     · rw [Array.getElem?_eq_none q] at ho; cases ho
   have hrest : rest = ops.toList.drop (k + 1) := by
     rw [← List.tail_drop, ← hl]; rfl
   have hr : yem P hk call lv n ops k o prev (yfz P hk call lv n ops rest (k + 1)) T h = some (e, T', h') := hr
   rw [show ops.size - k = (ops.size - (k + 1)) + 1 by omega, List.range'_succ]
   have hw := hx.wanted ops o
   have one : ∀ {c : CK} {v : V} {H1 : kz1} {T1 : BT V} {h1 : XH}, okP ops.toList k c prev = true → (zf3 c).call = false → MV P ops (fun H => H.lv = lv) (zf3 c) σ o v H1 → XHR lv E h1 H1 → zma n T o.dst v = some T1 →
       yfz P hk call lv n ops rest (k + 1) ((k, c) :: prev) T1 h1 = some (e, T', h') → zce P ops .any (fun H => H.lv = lv) (fun v σ => ∀ t', t'.length = σ.t.length → zz5.panic v = e ∧ XQ n lv E e T' h' D { σ with t := t' }) (fun σ' => zz5.normal = e ∧ XQ n lv E e T' h' D σ') (k :: List.range' (k + 1) (ops.size - (k + 1))) (prev.map fun p => (p.1, zf3 p.2)) σ := fun {c v H1 T1 h1} hok hcc hmv hh ht hr =>
     ⟨o, zf3 c, ho, y3n hok, .inl ⟨v, H1, hcc, hmv, zit hhk hcall rest (k + 1) ((k, c) :: prev) T1 h1 _ hrest (hx.put hh ht) hr⟩⟩
   have emp : okP ops.toList k (.quiet []) prev = true := by
     refine List.all_eq_true.2 fun p _ => ?_
     obtain ⟨j, c⟩ := p
     cases c <;> rfl
   unfold yem at hr
   split at hr
   · cases hr
   · rename_i e1
     split at hr
     · rename_i T1 ht
       exact one (v := .tup []) (H1 := σ.H) emp rfl (.inl ⟨hw.trans e1, rfl, rfl⟩) hx.heap ht hr
     · cases hr
   · rename_i e1
     split at hr
     · rename_i heff
       split at hr
       · rename_i ef hef
         split at hr
         · rename_i hok
           split at hr
           · rename_i v h1 hon
             split at hr
             · rename_i T1 ht
               obtain ⟨q1, q2⟩ := Eff.ycu hx.heap hon
               have hd : Eff2 P σ.H σ.ev o.op v (ef.on σ.H).2 := by
                 unfold ymf at hef
                 rw [hx.ev]
                 split at hef
                 · rename_i ef' he
                   injection hef with hef; subst hef
                   rw [← hx.heap.lv] at he
                   exact .inr (by rw [zl2 (fun l i o ho => hx.heap.xg (by rw [← hx.heap.lv]; exact ho)) he, ← q1])
                 · exact .inl (by rw [ydq (fun l i o ho => hx.heap.xg ho) hef, ← q1])
               exact one (c := .eff (ef.wr h)) hok rfl (.inr ⟨hw.trans e1, hx.heap.lv, .inr ⟨rfl, heff, hd, q2.lv, fun i hi => Eff.ymk hx.heap hon hi⟩⟩) q2 ht hr
             · cases hr
           · cases hr
         · cases hr
       · cases hr
     · split at hr
       · rename_i v hv
         split at hr
         · rename_i hok
           split at hr
           · rename_i T1 ht
             refine one (c := .quiet (zj1 lv T o.op)) hok rfl (.inr ⟨hw.trans e1, hx.heap.lv, .inl ⟨rfl, rfl, fun H'' k1 k2 => ?_⟩⟩) hx.heap ht hr
             have hg : ∀ l i o', xgR lv h (zj1 lv T o.op) l i = some o' → H''.get l i = some o' := fun l i o' hh => by
               obtain ⟨z1, z2⟩ := ymn hh
               have hl := xg_lv z2
               have z3 := hx.heap.xg z2
               unfold kz1.get at z3 ⊢
               rw [if_pos (by rw [hl, hx.heap.lv])] at z3
               rw [if_pos (by rw [hl]; exact k1.symm), k2 i z1]; exact z3
             have more : ∀ op, o.op = op → XC.of (zlq P lv op T h (zj1 lv T o.op)) = .val v → QP P H'' σ.ev o v := fun op hop hq => by
               have hq : zlq P lv op T h (zj1 lv T o.op) = some v := by
                 cases hm : zlq P lv op T h (zj1 lv T o.op) with
                 | none => rw [hm] at hq; cases hq
                 | some u => rw [hm] at hq; injection hq with hq; rw [hq]
               unfold QP
               rw [hx.ev, hop]
               rcases y46 k1 hg hq with q | q | ⟨t, n, c, q1, q2⟩
               · exact .inl q
               · exact .inr (.inr (.inl q))
               · exact .inr (.inr (.inr (.inl ⟨t, n, c, q1, q2⟩)))
             unfold y5s at hv
             split at hv
             · rename_i c hop
               split at hv
               · rename_i f args htg
                 refine .inr (.inl ⟨c, f, args, hop, by rw [hx.ev]; exact htg, ?_⟩)
                 split at hv
                 · rename_i r hh
                   injection hv with hv; subst hv
                   exact hhk _ _ _ _ hh H'' k1
                 · split at hv
                   · rename_i r h2 hcl
                     injection hv with hv; subst hv
                     exact zeu ((hcall _ _ _ _ _ _ _ _ _ hcl hx.heap).2 rfl _ k1)
                   · cases hv
                   · cases hv
               · exact more _ hop hv
             · exact more _ rfl hv
           · cases hr
         · cases hr
       · rename_i v hv
         split at hr
         · rename_i hok
           split at hr
           · rename_i hlat
             simp only [Option.some.injEq, Prod.mk.injEq] at hr
             obtain ⟨rfl, rfl, rfl⟩ := hr
             unfold y5s at hv
             have nof : ∀ (r : Option V), XC.of r = .pan v → False := fun r hh => by cases r <;> cases hh
             split at hv
             · rename_i c hop
               split at hv
               · rename_i f args htg
                 split at hv
                 · cases hv
                 · split at hv
                   · cases hv
                   · rename_i u h2 hcl
                     injection hv with hv; subst hv
                     exact ⟨o, zf3 (.call _), ho, y3n hok, .inr ⟨zol hlat, rfl, rfl, hw.trans e1, c, f, args, _, hop, by rw [hx.ev]; exact htg, (hcall _ _ _ _ _ _ _ _ _ hcl hx.heap).2 rfl _ hx.heap.lv, fun v' H' hp => (by cases hp.1), fun v' H' hp t' ht' => by
                       obtain ⟨p1, rfl⟩ := hp
                       injection p1 with p1; subst p1
                       exact ⟨rfl, .inr ⟨rfl, yj5 hx.heap hx.defers hx.e0 (ht'.trans hx.len)⟩⟩⟩⟩
                   · cases hv
               · exact (nof _ hv).elim
             · exact (nof _ hv).elim
           · cases hr
         · cases hr
       · rename_i f args hv
         split at hr
         · rename_i hlat
           unfold y5s at hv
           have nof : ∀ (r : Option V), XC.of r = .flat f args → False := fun r hh => by cases r <;> cases hh
           split at hv
           · rename_i c hop
             split at hv
             · rename_i f' args' htg
               have hfa : f' = f ∧ args' = args := by
                 split at hv
                 · cases hv
                 · split at hv
                   · cases hv
                   · cases hv
                   · injection hv with a b; exact ⟨a, b⟩
               obtain ⟨rfl, rfl⟩ := hfa
               split at hr
               · rename_i r h2 hcl
                 split at hr
                 · rename_i hok
                   split at hr
                   · rename_i T1 ht
                     refine ⟨o, zf3 (.call _), ho, y3n hok, .inr ⟨zol hlat, rfl, rfl, hw.trans e1, c, f', args', _, hop, by rw [hx.ev]; exact htg, (hcall _ _ _ _ _ _ _ _ _ hcl hx.heap).1, fun v' H' hp => ?_, fun v' H' hp => (by cases hp.1)⟩⟩
                     obtain ⟨p1, p2⟩ := hp
                     injection p1 with p1; subst p1
                     exact ⟨p2.lv, fun i hi => ycw hx.heap p2 hi, zit hhk hcall rest (k + 1) ((k, .call (zpo h h2 prev)) :: prev) T1 h2 _ hrest (hx.put p2 ht) hr⟩
                   · cases hr
                 · cases hr
               · rename_i u h2 hcl
                 split at hr
                 · rename_i hok
                   simp only [Option.some.injEq, Prod.mk.injEq] at hr
                   obtain ⟨rfl, rfl, rfl⟩ := hr
                   exact ⟨o, zf3 (.call _), ho, y3n hok, .inr ⟨zol hlat, rfl, rfl, hw.trans e1, c, f', args', _, hop, by rw [hx.ev]; exact htg, (hcall _ _ _ _ _ _ _ _ _ hcl hx.heap).1, fun v' H' hp => (by cases hp.1), fun v' H' hp t' ht' => by
                     obtain ⟨p1, p2⟩ := hp
                     injection p1 with p1; subst p1
                     exact ⟨rfl, .inr ⟨rfl, yj5 p2 hx.defers hx.e0 (ht'.trans hx.len)⟩⟩⟩⟩
                 · cases hr
               · cases hr
             · exact (nof _ hv).elim
           · exact (nof _ hv).elim
         · cases hr
       · cases hr
theorem yba {c : Code} {f : BT V → XH → DL → zgj} {e : zz5} {T' : BT V} {h' : XH} {D' : DL}
  (hf : ∀ T h D σ e T' h' D', XR n lv E T h D σ → f T h D = some (e, T', h', D') → Sat P c σ (fun e' σ' => e' = e ∧ XQ n lv E e T' h' D' σ')) (m : Nat) (T : BT V) (h : XH) (D : DL) (σ : St) (hx : XR n lv E T h D σ) (hr : y93 f m T h D = some (e, T', h', D')) :
  Sat P (.loop c) σ (fun e' σ' => e' = e ∧ XQ n lv E e T' h' D' σ') := by
 refine yil (fun m σ => ∃ T h D, XR n lv E T h D σ ∧ y93 f m T h D = some (e, T', h', D')) m σ (zfy.refl σ) ⟨T, h, D, hx, hr⟩ fun m σ ⟨T, h, D, hx, hr⟩ => ?_
 cases m with
 | zero => cases hr
 | succ m =>
   have hr : y1c (y93 f m) (f T h D) = some (e, T', h', D') := hr
   unfold y1c at hr
   split at hr
   · rename_i T1 h1 D1 hfe
     refine (hf _ _ _ _ _ _ _ _ hx hfe).mono fun e' σ' ⟨q1, q2⟩ => ?_
     subst q1
     exact ⟨m, σ', zfy.refl _, ⟨T1, h1, D1, q2, hr⟩, Nat.lt_succ_self _⟩
   · rename_i hne
     refine (hf _ _ _ _ _ _ _ _ hx hr).mono fun e' σ' ⟨q1, q2⟩ => ?_
     subst q1
     cases e' with
     | normal => exact (hne _ _ _ hr).elim
     | exit id => exact ⟨rfl, q2⟩
     | ret => exact ⟨rfl, q2⟩
     | panic v => exact ⟨rfl, q2⟩
theorem zq4 (ops : Array Oper) : ∀ (k : Nat) (b : Option Nat) (r : Nat), (∀ j, b = some j → Region.lexTailB .any ops j = true) → znk ops k b = some r → Region.lexTailB .any ops r = true
 | 0, b, r, hb, h => hb r h
 | k + 1, b, r, hb, h => by
   simp only [znk] at h
   split at h
   · rename_i hk
     exact zq4 ops k _ r (fun j hj => by injection hj with hj; subst hj; exact hk) h
   · exact hb r h
theorem zpm (hm : P.follows .mixedOrders = true) (hhk : z58 P hk) (hcall : zdc P call) {id : Nat} {ops : Array Oper} {T : BT V} {h : XH} {D : DL} {σ : St} {e : zz5} {T' : BT V} {h' : XH} {D' : DL} (hx : XR n lv E T h D σ)
  (hr : yfu P hk call lv n ops T h D = some (e, T', h', D')) : Sat P (.region id ops true) σ (fun e' σ' => e' = e ∧ XQ n lv E e T' h' D' σ') := by
 unfold yfu at hr
 split at hr
 ·rename_i hB
  split at hr
  ·rename_i e1 T1 h1 hc
   simp only [Option.some.injEq, Prod.mk.injEq] at hr
   obtain ⟨rfl, rfl, rfl, rfl⟩ := hr
   exact y91 (S := fun H => H.lv = lv) (Q := fun e' σ' => e' = e1 ∧ XQ n lv E e1 T1 h1 D σ') hm (List.range' 0 ops.size) hB (by simp) (fun j hj => by simp [hj]) (zit hhk hcall ops.toList 0 [] T h σ rfl hx hc)
  ·cases hr
 ·cases hr
theorem z2h (hm : P.follows .mixedOrders = true) (hhk : z58 P hk) (hcall : zdc P call) {lf : Nat} : ∀ (c : Code) (T : BT V) (h : XH) (D : DL) (σ : St) (e : zz5) (T' : BT V) (h' : XH) (D' : DL), XR n lv E T h D σ →
  zh9 P hk call lv n lf c T h D = some (e, T', h', D') → Sat P c σ (fun e' σ' => e' = e ∧ XQ n lv E e T' h' D' σ')
 | .skip, T, h, D, σ, e, T', h', D', hx, hr => by
   have hr : some (zz5.normal, T, h, D) = some (e, T', h', D') := hr
   simp only [Option.some.injEq, Prod.mk.injEq] at hr
   obtain ⟨rfl, rfl, rfl, rfl⟩ := hr
   exact y99 ⟨rfl, hx⟩
 | .region id ops draw, T, h, D, σ, e, T', h', D', hx, hr => by
   have hr : y75 P hk call lv n ops draw T h D = some (e, T', h', D') := hr
   unfold y75 at hr
   split at hr
   · exact (ya6 (zb5 hhk hcall _ 0 T h D σ e T' h' D' rfl hx hr)).mono fun e' σ' ⟨q1, q2⟩ => ⟨q1, q2.q _⟩
   · split at hr
     · rename_i k hd
       split at hr
       · rename_i T1 hq
         obtain ⟨ans, σ1, cl, k1, k2, k3⟩ := zv2 hhk hcall _ T h D σ T1 hx hq
         unfold ym4 at hd
         split at hd
         · rename_i hB
           injection hd with hd; subst hd
           rw [show ops.toList.take ops.size = ops.toList from List.take_of_length_le (by simp)] at k1
           rw [show ops.toList.drop ops.size = [] from List.drop_eq_nil_of_le (by simp)] at hr
           have hr : some (zz5.normal, T1, h, D) = some (e, T', h', D') := hr
           simp only [Option.some.injEq, Prod.mk.injEq] at hr
           obtain ⟨rfl, rfl, rfl, rfl⟩ := hr
           exact y9r hm hB ans σ1 cl k1 k2 ⟨rfl, k3⟩
         · have hB := zq4 ops ops.size none k (fun j hj => by cases hj) hd
           exact (yak k hm hB ans σ1 cl k1 k2 (zb5 hhk hcall _ k T1 h D σ1 e T' h' D' rfl k3 hr)).mono fun e' σ' ⟨q1, q2⟩ => ⟨q1, q2.q _⟩
       · exact zpm hm hhk hcall hx hr
     · exact zpm hm hhk hcall hx hr
 | .seq a b, T, h, D, σ, e, T', h', D', hx, hr => by
   have hr : y1c (zh9 P hk call lv n lf b) (zh9 P hk call lv n lf a T h D) = some (e, T', h', D') := hr
   unfold y1c at hr
   split at hr
   · rename_i T1 h1 D1 h2
     refine y4u ((z2h hm hhk hcall a T h D σ _ T1 h1 D1 hx h2).mono fun e' σ' ⟨q1, q2⟩ => ?_)
     subst q1
     exact z2h hm hhk hcall b T1 h1 D1 σ' e T' h' D' q2 hr
   · rename_i hne
     refine y4u ((z2h hm hhk hcall a T h D σ e T' h' D' hx hr).mono fun e' σ' ⟨q1, q2⟩ => ?_)
     subst q1
     cases e' with
     | normal => exact (hne _ _ _ hr).elim
     | exit id => exact ⟨rfl, q2⟩
     | ret => exact ⟨rfl, q2⟩
     | panic v => exact ⟨rfl, q2⟩
 | .cond o a b, T, h, D, σ, e, T', h', D', hx, hr => by
   have hr : yj2 o (zh9 P hk call lv n lf a) (zh9 P hk call lv n lf b) T h D = some (e, T', h', D') := hr
   unfold yj2 at hr
   split at hr
   · rename_i ho
     exact zmt (b := true) (by rw [hx.ev]; exact ho) (fun _ => z2h hm hhk hcall a T h D σ e T' h' D' hx hr) (fun hh => by cases hh)
   · rename_i ho
     exact zmt (b := false) (by rw [hx.ev]; exact ho) (fun hh => by cases hh) (fun _ => z2h hm hhk hcall b T h D σ e T' h' D' hx hr)
   · cases hr
 | .block id b, T, h, D, σ, e, T', h', D', hx, hr => by
   have hr : ye4 id (zh9 P hk call lv n lf b T h D) = some (e, T', h', D') := hr
   unfold ye4 at hr
   split at hr
   · rename_i i T1 h1 D1 h2
     refine zp4 ((z2h hm hhk hcall b T h D σ _ T1 h1 D1 hx h2).mono fun e' σ' ⟨q1, q2⟩ => ?_)
     subst q1
     simp only [zz5.inBlock]
     split at hr
     · rename_i hb
       simp only [Option.some.injEq, Prod.mk.injEq] at hr
       obtain ⟨rfl, rfl, rfl, rfl⟩ := hr
       rw [hb]; exact ⟨rfl, q2⟩
     · rename_i hb
       simp only [Option.some.injEq, Prod.mk.injEq] at hr
       obtain ⟨rfl, rfl, rfl, rfl⟩ := hr
       rw [hb]; exact ⟨rfl, q2⟩
   · rename_i hne
     refine zp4 ((z2h hm hhk hcall b T h D σ e T' h' D' hx hr).mono fun e' σ' ⟨q1, q2⟩ => ?_)
     subst q1
     cases e' with
     | normal => exact ⟨rfl, q2⟩
     | exit id => exact (hne _ _ _ _ hr).elim
     | ret => exact ⟨rfl, q2⟩
     | panic v => exact ⟨rfl, q2⟩
 | .loop b, T, h, D, σ, e, T', h', D', hx, hr => by
   have hr : y93 (zh9 P hk call lv n lf b) lf T h D = some (e, T', h', D') := hr
   exact yba (fun T h D σ e T' h' D' => z2h hm hhk hcall b T h D σ e T' h' D') lf T h D σ hx hr
 | .exit id, T, h, D, σ, e, T', h', D', hx, hr => by
   have hr : some (zz5.exit id, T, h, D) = some (e, T', h', D') := hr
   simp only [Option.some.injEq, Prod.mk.injEq] at hr
   obtain ⟨rfl, rfl, rfl, rfl⟩ := hr
   exact y8v ⟨rfl, hx⟩
 | .ret, T, h, D, σ, e, T', h', D', hx, hr => by
   have hr : some (zz5.ret, T, h, D) = some (e, T', h', D') := hr
   simp only [Option.some.injEq, Prod.mk.injEq] at hr
   obtain ⟨rfl, rfl, rfl, rfl⟩ := hr
   exact ygb ⟨rfl, hx⟩
 | .rangeFunc _ _ _ _, _, _, _, _, _, _, _, _, _, hr => by cases hr
 | .scope _, _, _, _, _, _, _, _, _, _, hr => by cases hr
 | .label _, _, _, _, _, _, _, _, _, _, hr => by cases hr
 | .goto _, _, _, _, _, _, _, _, _, _, hr => by cases hr
 | .refuse _, _, _, _, _, _, _, _, _, _, hr => by cases hr
theorem yfm {T : BT V} {h : XH} {D : DL} {σ : St} (hx : XR n lv E T h D σ) : ∀ {rs : List ResultVar} {vs : List V}, zpg P (xg lv h) T rs = some vs → znx P σ rs = some vs
 | [], vs, hr => hr
 | r :: rs, vs, hr => by
   simp only [zpg] at hr
   split at hr
   · rename_i v us h1 h2
     injection hr with hr; subst hr
     have e1 : y8m P σ r = some v := by
       cases r with
       | tmp t =>
         simp only [resX, Option.some.injEq] at h1; subst h1
         simp only [y8m, evT, hx.get]
       | cell a t =>
         simp only [resX] at h1
         simp only [y8m, hx.get]
         exact y2j (fun l i o ho => hx.heap.xg ho) h1
     simp only [znx, e1, yfm hx h2]
   · cases hr
theorem zsi {T : BT V} {h : XH} {D : DL} {σ : St} (hx : XR n lv E T h D σ) {fn : Func} {vs : List V} (hr : zpg P (xg lv h) T fn.results.toList = some vs) : z26 P fn σ = some (z5b vs) := by
 unfold z26; rw [yfm hx hr]; rfl
end
end Go.Ab


namespace Go.Ab
open Go
set_option linter.unusedVariables false
set_option linter.unusedSimpArgs false
theorem ylq {P : Program} {c : Code} {n lv : Nat} {E : Nat → Nat → Option kz3} {T : BT V} {h : XH} {D : DL} {σ : St} {Q : zz5 → St → Prop} {m : z0z} (hx : XR n lv E T h D σ) (hs : Sat P c σ Q) {W0 : World} {g0 : Gh} {H0 : kz1} {W : World} {a : Act} {g : Gh} {c₀ : Frame} {cs : List Frame} {u : FrameMode}
  (hS : σ.e0 = H0.E ∧ Step W0 g0 H0 W g σ.H) (hG : zzb W a g σ) (hm : zdk W g σ.H m u) : c.wpS P (zfb W0 g0 H0 c₀ cs Q m) a ({ c₀ with mode := u } :: cs) W := by
 refine wpS_of_wp (wp_mono (hs W g σ.H W a g ⟨hG.good⟩ ⟨by rw [hx.e0, hx.heap.out], .refl _ _ _⟩ hG) fun e a' W' ⟨g', σ', e', q1, q2, q3, q4⟩ => ?_)
 exact ⟨g', σ', e', u, q1, ⟨by rw [q2.1, hx.heap.out, ← hx.e0]; exact hS.1, hS.2.trans q2.2⟩, q3, rfl, hm.mono q2.2, q4⟩
section
variable {P : Program} {hk : z8x} {call : zh2} {lv n : Nat} {E : Nat → Nat → Option kz3}
theorem ya7 (hm : P.follows .mixedOrders = true) (hhk : z58 P hk) (hcall : zdc P call) {lf : Nat} {m : z0z} : ∀ (c : Code) (T : BT V) (h : XH) (σ : St) (e : zz5) (T' : BT V) (h' : XH), XR n lv E T h [] σ →
  xS P hk call lv n lf m c T h = some (e, T', h') → ∀ (W0 : World) (g0 : Gh) (H0 : kz1) (W : World) (a : Act) (g : Gh) (c₀ : Frame) (cs : List Frame), (σ.e0 = H0.E ∧ Step W0 g0 H0 W g σ.H) → zzb W a g σ → zdk W g σ.H m c₀.mode →
  c.wpS P (zfb W0 g0 H0 c₀ cs (fun e' σ' => e' = e ∧ XQ n lv E e T' h' [] σ') m.z9g) a (c₀ :: cs) W
 | .seq x y, T, h, σ, e, T', h', hx, hr, W0, g0, H0, W, a, g, c₀, cs, hS, hG, hM => by
   simp only [xS] at hr
   split at hr
   · rename_i T1 h1 hx1
     split at hr
     · rename_i e2 T2 h2 hy
       simp only [Option.some.injEq, Prod.mk.injEq] at hr
       obtain ⟨rfl, rfl, rfl⟩ := hr
       refine wpS_seq (zun (ya7 hm hhk hcall x T h σ _ T1 h1 hx hx1 W0 g0 H0 W a g c₀ cs hS hG hM) fun ex a' cs' W' ⟨g', σ', e', u', q1, q2, q3, q4, q5, q6, q7⟩ => ?_)
       subst q6
       cases q1
       subst q4
       exact ylq q7 (z2h hm hhk hcall y T1 h1 [] σ' _ _ _ _ q7 hy) q2 q3 q5
     · cases hr
   · cases hr
 | .region id ops draw, T, h, σ, e, T', h', hx, hr, W0, g0, H0, W, a, g, c₀, cs, hS, hG, hM => by
   simp only [xS] at hr
   split at hr
   · rename_i o rest hl
     split at hr
     · rename_i hrec
       split at hr
       · rename_i T1 ht
         split at hr
         · rename_i e2 T2 h2 hops
           simp only [Option.some.injEq, Prod.mk.injEq] at hr
           obtain ⟨rfl, rfl, rfl⟩ := hr
           have ho : ops[0]? = some o := by
             have := congrArg (fun x => x[0]?) hl
             simpa using this
           have hrest : rest = ops.toList.drop 1 := by rw [hl]; rfl
           have hsz : ops.size = rest.length + 1 := by
             have := congrArg List.length hl
             simpa using this
           refine wpS_region ?_
           rw [List.range_eq_range', show ops.size = rest.length + 1 from hsz, List.range'_succ]
           simp only [wpOpsS, ho]
           unfold isRec at hrec
           split at hrec
           · rename_i c hop
             split at hrec
             · rename_i hcal
               simp only [Bool.and_eq_true, Option.isNone_iff_eq_none, Array.isEmpty_iff] at hrec
               have hwant : Region.wanted o (yielded ops a.tmps) = true := by unfold Region.wanted; rw [hrec.1]
               have hex : (execOp a.eval o).run P W = .ok .recover W := by
                 unfold execOp
                 rw [hop]
                 obtain ⟨callee, args, argTypes⟩ := c
                 simp only at hcal hrec
                 obtain ⟨_, rfl⟩ := hrec
                 subst hcal
                 simp [resolve, invoke, builtin]
               rw [if_pos hwant, hex]
               simp only
               have rest' : ∀ (cv : Value) (u' : FrameMode), Rel W g σ.H m.value cv → zdk W g σ.H m.z9g u' → wpOpsS P ops (zfb W0 g0 H0 c₀ cs (fun e' σ' => e' = e2 ∧ XQ n lv E e2 T2 h2 [] σ') m.z9g) (List.range' (0 + 1) rest.length) (a.put o.dst cv) ({ c₀ with mode := u' } :: cs) W := fun cv u' hv hM' => by
                 have hx1 : XR n lv E T1 h [] (σ.put o.dst m.value) := hx.yip ht
                 have hG1 : zzb W (a.put o.dst cv) g (σ.put o.dst m.value) := hG.next (.refl _ _ _) hG.good hv o.dst
                 have hs := zb5 hhk hcall rest 1 T1 h [] (σ.put o.dst m.value) e2 T2 h2 [] hrest hx1 hops
                 have hH : (σ.put o.dst m.value).H = σ.H := by cases o.dst <;> rfl
                 have he : (σ.put o.dst m.value).e0 = σ.e0 := by cases o.dst <;> rfl
                 have hs2 := hs W g σ.H W (a.put o.dst cv) g ⟨hG.good⟩ ⟨by rw [he, hx.e0, hx.heap.out], by rw [hH]; exact .refl _ _ _⟩ hG1
                 rw [show ops.size - 1 = rest.length by omega] at hs2
                 refine zf4 (fun a w => zfb.out) _ _ _ (zdd (fun e a' W' ⟨g', σ', e', q1, q2, q3, q4⟩ => ?_) _ _ _ hs2)
                 exact ⟨g', σ', e', u', q1, ⟨by rw [q2.1, hx.heap.out, ← hx.e0]; exact hS.1, hS.2.trans q2.2⟩, q3, rfl, hM'.mono q2.2, q4.1, q4.2.q _⟩
               cases m with
               | ret =>
                 have hmode : c₀.mode = .returning := hM
                 have hrd : recoverD (c₀ :: cs) = none := by simp [recoverD, hmode]
                 rw [hrd]
                 have := rest' .nilIface c₀.mode .nili hM
                 exact this
               | pan v r =>
                 obtain ⟨cv, h1, h2⟩ := hM
                 cases r with
                 | true =>
                   have hrd : recoverD (c₀ :: cs) = none := by simp [recoverD, h1]
                   rw [hrd]
                   have := rest' .nilIface c₀.mode .nili ⟨cv, h1, h2⟩
                   exact this
                 | false =>
                   have hrd : recoverD (c₀ :: cs) = some (cv, { c₀ with mode := .panicking [{ v := cv, recovered := true }] } :: cs) := by simp [recoverD, h1]
                   rw [hrd]
                   exact rest' cv _ h2 ⟨cv, rfl, h2⟩
             · cases hrec
           · cases hrec
         · cases hr
       · cases hr
     · cases hr
   · cases hr
 | .skip, _, _, _, _, _, _, _, hr, _, _, _, _, _, _, _, _, _, _, _ => by simp [xS] at hr
 | .cond _ _ _, _, _, _, _, _, _, _, hr, _, _, _, _, _, _, _, _, _, _, _ => by simp [xS] at hr
 | .block _ _, _, _, _, _, _, _, _, hr, _, _, _, _, _, _, _, _, _, _, _ => by simp [xS] at hr
 | .loop _, _, _, _, _, _, _, _, hr, _, _, _, _, _, _, _, _, _, _, _ => by simp [xS] at hr
 | .rangeFunc _ _ _ _, _, _, _, _, _, _, _, hr, _, _, _, _, _, _, _, _, _, _, _ => by simp [xS] at hr
 | .exit _, _, _, _, _, _, _, _, hr, _, _, _, _, _, _, _, _, _, _, _ => by simp [xS] at hr
 | .scope _, _, _, _, _, _, _, _, hr, _, _, _, _, _, _, _, _, _, _, _ => by simp [xS] at hr
 | .label _, _, _, _, _, _, _, _, hr, _, _, _, _, _, _, _, _, _, _, _ => by simp [xS] at hr
 | .goto _, _, _, _, _, _, _, _, hr, _, _, _, _, _, _, _, _, _, _, _ => by simp [xS] at hr
 | .ret, _, _, _, _, _, _, _, hr, _, _, _, _, _, _, _, _, _, _, _ => by simp [xS] at hr
 | .refuse _, _, _, _, _, _, _, _, hr, _, _, _, _, _, _, _, _, _, _, _ => by simp [xS] at hr
theorem y1f {fn : Func} {T : BT V} {h h' : XH} {m m' : z0z} (k : yab P lv fn T h m = some (h', m')) : ∃ vs, zpg P (xg lv h) T fn.results.toList = some vs ∧ h' = h ∧ m' = m := by
 unfold yab at k
 split at k
 ·rename_i vs hvs
  simp only [Option.some.injEq, Prod.mk.injEq] at k
  exact ⟨vs, hvs, k.1.symm, k.2.symm⟩
 ·cases k
theorem yei (hm : P.follows .mixedOrders = true) (hhk : z58 P hk) (hcall : zdc P call) {lf f : Nat} {vs : List V} {m m' : z0z} {h h' : XH} (hr : xdef P hk call lv lf f vs m h = some (h', m'))
  {W : World} {g : Gh} {H : kz1} {cargs : Array Value} {u : FrameMode} (hh : XHR lv E h H) (hG : Good W g H) (hA : zdm W g H vs cargs) (hM : zdk W g H m u) :
  (∀ w, (callFunc f cargs).run P w = .ok (.enter f cargs) w) ∧ CallsD P f cargs u W (fun e u' W' => ∃ v H' g', e = .returned v ∧ XHR lv E h' H' ∧ Step W g H W' g' H' ∧ Good W' g' H' ∧ zdk W' g' H' m' u') := by
 unfold xdef at hr
 split at hr
 ·cases hr
 ·rename_i fn hf
  split at hr
  ·cases hr
  ·rename_i b hb
   split at hr
   ·cases hr
   ·rename_i hcond
    simp only [Bool.or_eq_false_iff, Bool.not_eq_false'] at hcond
    refine ⟨zhn hf (by rw [hb]; rfl) hcond.1 cargs, ?_⟩
    have hx : XR fn.ntmps lv E (z9z 0 vs .leaf) h [] ⟨vs ++ List.replicate (fn.ntmps - vs.length) .any, H, [], H.E⟩ := by
     have := ycc hcond.2 hh
     rw [hh.out]; exact this
    have fin : ∀ (e : zz5) (T1 : BT V) (h1 : XH), xS P hk call lv fn.ntmps lf m b (z9z 0 vs .leaf) h = some (e, T1, h1) → (e = .ret ∨ e = .normal) → yab P lv fn T1 h1 m.z9g = some (h', m') →
      CallsD P f cargs u W (fun e u' W' => ∃ v H' g', e = .returned v ∧ XHR lv E h' H' ∧ Step W g H W' g' H' ∧ Good W' g' H' ∧ zdk W' g' H' m' u') := fun e T1 h1 hS he hres => by
     obtain ⟨vs', hvs, rfl, rfl⟩ := y1f hres
     refine callsD_of_wpS hf hb fun c₀ cs hu => ?_
     refine zun (ya7 hm hhk hcall b _ h _ e T1 h' hx hS W g H W _ g c₀ cs ⟨rfl, .refl _ _ _⟩ (zax hG hA) (by rw [hu]; exact hM)) fun ex a' cs' W' ⟨g', σ', e', u', q1, q2, q3, q4, q5, q6, q7⟩ => ?_
     subst q6
     have q7 : XR fn.ntmps lv E T1 h' [] σ' := by rcases he with rfl | rfl <;> exact q7
     have hd : a'.defers = [] := List.eq_nil_of_length_eq_zero (by rw [q3.dlen, q7.defers]; rfl)
     obtain ⟨c, k1, k2⟩ := z36 q3 (zsi q7 hvs)
     rcases he with rfl | rfl
     ·cases q1
      exact ⟨hd, u', q4, c, k1, c, σ'.H, g', rfl, q7.heap, q2.2, q3.good, q5⟩
     ·cases q1
      exact ⟨hd, u', q4, c, k1, c, σ'.H, g', rfl, q7.heap, q2.2, q3.good, q5⟩
    have finP : ∀ (e : zz5) (T1 : BT V) (h1 : XH), zh9 P hk call lv fn.ntmps lf b (z9z 0 vs .leaf) h [] = some (e, T1, h1, []) → (e = .ret ∨ e = .normal) → yab P lv fn T1 h1 m = some (h', m') →
      CallsD P f cargs u W (fun e u' W' => ∃ v H' g', e = .returned v ∧ XHR lv E h' H' ∧ Step W g H W' g' H' ∧ Good W' g' H' ∧ zdk W' g' H' m' u') := fun e T1 h1 hS he hres => by
     obtain ⟨vs', hvs, rfl, rfl⟩ := y1f hres
     refine (callsD_of_wp (R := fun e W' => ∃ v H' g', e = .returned v ∧ XHR lv E h' H' ∧ Step W g H W' g' H' ∧ Good W' g' H') hf hb ?_).mono fun e u' W' ⟨q1, v, H', g', q2, q3, q4, q5⟩ => ⟨v, H', g', q2, q3, q4, q5, by rw [q1]; exact hM.mono q4⟩
     refine wp_mono (z2h hm hhk hcall b _ h [] _ e T1 h' [] hx hS W g H W _ g ⟨hG⟩ ⟨rfl, .refl _ _ _⟩ (zax hG hA)) fun ex a' W' ⟨g', σ', e', q1, q2, q3, q6, q7⟩ => ?_
     subst q6
     have q7 : XR fn.ntmps lv E T1 h' [] σ' := by rcases he with rfl | rfl <;> exact q7
     have hd : a'.defers = [] := List.eq_nil_of_length_eq_zero (by rw [q3.dlen, q7.defers]; rfl)
     obtain ⟨c, k1, k2⟩ := z36 q3 (zsi q7 hvs)
     rcases he with rfl | rfl
     ·cases q1
      exact ⟨hd, c, k1, c, σ'.H, g', rfl, q7.heap, q2.2, q3.good⟩
     ·cases q1
      exact ⟨hd, c, k1, c, σ'.H, g', rfl, q7.heap, q2.2, q3.good⟩
    split at hr
    ·rename_i T1 h1 hS; exact fin _ T1 h1 hS (.inl rfl) hr
    ·rename_i T1 h1 hS; exact fin _ T1 h1 hS (.inr rfl) hr
    ·cases hr
    ·unfold ymb at hr
     split at hr
     ·rename_i T1 h1 hS; exact finP _ T1 h1 hS (.inl rfl) hr
     ·rename_i T1 h1 hS; exact finP _ T1 h1 hS (.inr rfl) hr
     ·cases hr
theorem XW.defers {T : BT V} {h : XH} {D : DL} {σ : St} (k : XW n lv E T h D σ) : σ.d = D := by
 rcases k with k | ⟨_, _, k⟩ <;> exact k.defers
theorem XW.heap {T : BT V} {h : XH} {D : DL} {σ : St} (k : XW n lv E T h D σ) : XHR lv E h σ.H := by
 rcases k with k | ⟨_, _, k⟩ <;> exact k.heap
theorem XW.some {T : BT V} {h : XH} {D : DL} {σ : St} (k : XW n lv E T h D σ) : ∃ T2, XR n lv E T2 h D σ := by
 rcases k with k | ⟨_, T2, k⟩
 ·exact ⟨T, k⟩
 ·exact ⟨T2, k⟩
theorem zco (hm : P.follows .mixedOrders = true) (hhk : z58 P hk) (hcall : zdc P call) {lf : Nat} {fn : Func} {T : BT V} {o : Out} {h' : XH} {W0 : World} {g0 : Gh} {H0 : kz1} : ∀ (D : DL) (m : z0z) (h : XH) (W : World) (g : Gh) (σ : St) (a : Act) (u : FrameMode),
  XW n lv E T h D σ → zzb W a g σ → Step W0 g0 H0 W g σ.H → zdk W g σ.H m u → zec P hk call lv lf fn T D m h = some (o, h') →
  Leaves P fn a.tmps (fun e W' => ∃ o' H' g', (o' = o ∧ XHR lv E h' H') ∧ Step W0 g0 H0 W' g' H' ∧ Good W' g' H' ∧ y2i W' g' H' o' e) a.defers u W
 | [], m, h, W, g, σ, a, u, hx, hG, hS, hM, hr => by
   have hd : a.defers = [] := List.eq_nil_of_length_eq_zero (by rw [hG.dlen, hx.defers]; rfl)
   rw [hd]
   cases m with
   | ret =>
     have hu : u = .returning := hM
     subst hu
     have fin : ∀ (T3 : BT V) (vs : List V), XR n lv E T3 h [] σ → zpg P (xg lv h) T3 fn.results.toList = some vs → some (Out.ret (z5b vs), h) = some (o, h') → Leaves P fn a.tmps (fun e W' => ∃ o' H' g', (o' = o ∧ XHR lv E h' H') ∧ Step W0 g0 H0 W' g' H' ∧ Good W' g' H' ∧ y2i W' g' H' o' e) [] .returning W := fun T3 vs hx3 hvs hr => by
       simp only [Option.some.injEq, Prod.mk.injEq] at hr
       obtain ⟨rfl, rfl⟩ := hr
       obtain ⟨c, k1, k2⟩ := z36 hG (zsi hx3 hvs)
       exact ⟨c, k1, .ret (z5b vs), σ.H, g, ⟨rfl, hx3.heap⟩, hS, hG.good, c, rfl, k2⟩
     simp only [zec] at hr
     split at hr
     · split at hr
       · rename_i hres
         obtain ⟨T3, hx3⟩ := hx.some
         exact fin T3 [] hx3 (by rw [hres]; rfl) hr
       · cases hr
     · split at hr
       · rename_i vs hvs
         rcases hx with hx | ⟨hT, _⟩
         · exact fin _ vs hx hvs hr
         · cases hT
       · cases hr
   | pan v r =>
     obtain ⟨c, h1, h2⟩ := hM
     subst h1
     cases r with
     | true => simp [zec] at hr
     | false =>
       simp only [zec, Option.some.injEq, Prod.mk.injEq] at hr
       obtain ⟨rfl, rfl⟩ := hr
       exact ⟨.pan v, σ.H, g, ⟨rfl, hx.heap⟩, hS, hG.good, c, rfl, h2⟩
 | (f, vs) :: ds, m, h, W, g, σ, a, u, hx, hG, hS, hM, hr => by
   simp only [zec] at hr
   split at hr
   · rename_i h1 m1 hd
     obtain ⟨caps, as, k1, k2⟩ := hG.defs 0 f vs (by rw [hx.defers]; rfl)
     obtain ⟨d0, ds0, hds⟩ : ∃ d0 ds0, a.defers = d0 :: ds0 := by
       cases hq : a.defers with
       | nil => rw [hq] at k1; cases k1
       | cons d0 ds0 => exact ⟨d0, ds0, rfl⟩
     rw [hds] at k1
     simp only [List.getElem?_cons_zero, Option.some.injEq] at k1
     subst k1
     obtain ⟨e1, e2⟩ := yei hm hhk hcall hd hx.heap hG.good k2 hM
     rw [hds]
     refine leaves_cons hM.run (by show (callFunc f (as ++ caps)).run P W = _; exact e1 W) (e2.mono fun e u' W' ⟨v, H', g', q1, q2, q3, q4, q5⟩ => ?_)
     subst q1
     have hG2 : zzb W' { a with defers := ds0 } g' { σ with H := H', d := ds } := by
       have hl := hG.dlen
       rw [hds, hx.defers] at hl
       refine ⟨q4, hG.size, fun j v hj => (hG.tmps j v hj).mono q3, by simpa using hl, fun j f' vs' hj => ?_⟩
       obtain ⟨caps', as', z1, z2⟩ := hG.defs (j + 1) f' vs' (by rw [hx.defers]; simpa using hj)
       exact ⟨caps', as', by rw [hds] at z1; simpa using z1, z2.mono q3⟩
     exact zco hm hhk hcall ds _ h1 W' g' { σ with H := H', d := ds } { a with defers := ds0 } (settle u') (hx.imp (fun hx => ⟨q2, rfl, hx.e0, hx.len, hx.get⟩) (fun ⟨z, T2, hx⟩ => ⟨z, T2, q2, rfl, hx.e0, hx.len, hx.get⟩)) hG2 (hS.trans q3) q5.settle hr
   · cases hr
theorem ziu (hm : P.follows .mixedOrders = true) (hhk : z58 P hk) (hcall : zdc P call) {lf f : Nat} {fn : Func} {b : Code} (hf : P.funcs[f]? = some fn) (hb : fn.body = some b) (hent : ∀ args w, (callFunc f args).run P w = .ok (.enter f args) w)
  {args : List V} {h h' : XH} {H : kz1} {o : Out} (hl : Nat.ble args.length fn.ntmps = true) (hh : XHR lv E h H) (hr : y1i P hk call lf fn b args lv h = some (o, h')) : zeq P f args H (fun o' H' => o' = o ∧ XHR lv E h' H') := by
 intro W g cargs hG hA
 refine ⟨hent cargs W, calls_of_wp_defers hf hb ?_⟩
 have hx : XR fn.ntmps lv E (z9z 0 args .leaf) h [] ⟨args ++ List.replicate (fn.ntmps - args.length) .any, H, [], H.E⟩ := by
  have := ycc hl hh
  rw [hh.out]; exact this
 unfold y1i at hr
 have fin : ∀ (e : zz5) (m : z0z) (T1 : BT V) (h1 : XH) (D1 : DL), zh9 P hk call lv fn.ntmps lf b (z9z 0 args .leaf) h [] = some (e, T1, h1, D1) → ((e = .ret ∨ e = .normal) ∧ m = .ret ∨ ∃ v, e = .panic v ∧ m = .pan v false) → zec P hk call lv lf fn T1 D1 m h1 = some (o, h') →
   b.wp P (bodyPostD P fn fun e W' => ∃ o' H' g', (o' = o ∧ XHR lv E h' H') ∧ Step W g H W' g' H' ∧ Good W' g' H' ∧ y2i W' g' H' o' e) { tmps := cargs ++ Array.replicate (fn.ntmps - cargs.size) undef, defers := [] } W := fun e m T1 h1 D1 hc he hlv => by
  refine wp_mono (z2h hm hhk hcall b _ h [] _ e T1 h1 D1 hx hc W g H W _ g ⟨hG⟩ ⟨rfl, .refl _ _ _⟩ (zax hG hA)) fun ex a' W' ⟨g', σ', e', q1, q2, q3, q4, q5⟩ => ?_
  subst q4
  rcases he with ⟨rfl | rfl, rfl⟩ | ⟨v, rfl, rfl⟩
  ·cases q1; exact zco hm hhk hcall D1 .ret h1 W' g' σ' a' .returning (.inl q5) q3 q2.2 rfl hlv
  ·cases q1; exact zco hm hhk hcall D1 .ret h1 W' g' σ' a' .returning (.inl q5) q3 q2.2 rfl hlv
  ·cases q1 with
   | panic _ c hrel => exact zco hm hhk hcall D1 (.pan v false) h1 W' g' σ' a' _ q5 q3 q2.2 ⟨c, rfl, hrel⟩ hlv
 split at hr
 ·rename_i T1 h1 D1 hc; exact fin _ .ret T1 h1 D1 hc (.inl ⟨.inl rfl, rfl⟩) hr
 ·rename_i T1 h1 D1 hc; exact fin _ .ret T1 h1 D1 hc (.inl ⟨.inr rfl, rfl⟩) hr
 ·rename_i v T1 h1 D1 hc; exact fin _ (.pan v false) T1 h1 D1 hc (.inr ⟨v, rfl, rfl⟩) hr
 ·cases hr
end
theorem yi3 {P : Program} {f : Nat} {args : List V} {H : kz1} {o : Out} (h : zeq P f args ⟨H.lv + 1, [], H.get⟩ (fun o' H' => H'.E = H.get ∧ H'.lv = H.lv + 1 ∧ match o' with | .ret v => ∃ r, VS H' (outer H.lv) v r ∧ o = .ret r | .pan v => ∃ r, VS H' (outer H.lv) v r ∧ o = .pan r)) :
  zeq P f args H (fun o' H' => o' = o ∧ H' = H) := fun W g cargs hG hA => by
 obtain ⟨hGe, hge, hre⟩ := zlm hG
 obtain ⟨h1, h2⟩ := h W g cargs hGe ⟨hA.1, fun j v hj => hre (hA.2 j v hj)⟩
 refine ⟨h1, h2.mono fun e W' ⟨o', H1, g1, ⟨q1, q2, q3⟩, q4, q5, q6⟩ => ?_⟩
 have back : ∀ (v r : V) (c : Value), VS H1 (outer H.lv) v r → Rel W' g1 H1 v c → ∃ g2, Step W g H W' g2 H ∧ Good W' g2 H ∧ Rel W' g2 H r c := fun v r c hv hr =>
  zu9 (σ := ⟨[], H1, [], H1.E⟩) hG q2 q4 q5 (zow q1 hv) hr
 cases o' with
 | ret v =>
   obtain ⟨r, k1, k2⟩ := q3
   obtain ⟨c, e1, e2⟩ := q6
   obtain ⟨g2, z1, z2, z3⟩ := back v r c k1 e2
   exact ⟨o, H, g2, ⟨rfl, rfl⟩, z1, z2, by rw [k2]; exact ⟨c, e1, z3⟩⟩
 | pan v =>
   obtain ⟨r, k1, k2⟩ := q3
   obtain ⟨c, e1, e2⟩ := q6
   obtain ⟨g2, z1, z2, z3⟩ := back v r c k1 e2
   exact ⟨o, H, g2, ⟨rfl, rfl⟩, z1, z2, by rw [k2]; exact ⟨c, e1, z3⟩⟩
section
variable {P : Program} {hk : z8x} {lf K : Nat} {fl : List Nat}
theorem zpe (hm : P.follows .mixedOrders = true) (hhk : z58 P hk) {call : zh2} (hcall : zdc P call) {f : Nat} {fn : Func} {b : Code} (hf : P.funcs[f]? = some fn) (hb : fn.body = some b) (hent : ∀ args w, (callFunc f args).run P w = .ok (.enter f args) w)
  {args : List V} {H : kz1} {o : Out} (hl : Nat.ble args.length fn.ntmps = true) (h : yg8 P hk call lf K fn b args H.lv = some o) : zeq P f args H (fun o' H' => o' = o ∧ H' = H) := by
 refine yi3 ?_
 have hh : XHR (Nat.succ H.lv) H.get ⟨0, .leaf⟩ ⟨H.lv + 1, [], H.get⟩ := ⟨rfl, rfl, rfl, fun i => by rw [BT.zir]; simp⟩
 unfold yg8 at h
 split at h
 ·rename_i v h' hfl
  simp only [Option.map_eq_some_iff] at h
  obtain ⟨r, h1, rfl⟩ := h
  refine (ziu hm hhk hcall hf hb hent hl hh hfl).mono fun o' H' ⟨q1, q2⟩ => ?_
  subst q1
  exact ⟨q2.out, q2.lv, r, (zbp (fun l i o ho => q2.xg ho) q2.lv K h1).1, rfl⟩
 ·rename_i v h' hfl
  simp only [Option.map_eq_some_iff] at h
  obtain ⟨r, h1, rfl⟩ := h
  refine (ziu hm hhk hcall hf hb hent hl hh hfl).mono fun o' H' ⟨q1, q2⟩ => ?_
  subst q1
  exact ⟨q2.out, q2.lv, r, (zbp (fun l i o ho => q2.xg ho) q2.lv K h1).1, rfl⟩
 ·cases h
theorem ybc (hm : P.follows .mixedOrders = true) (hhk : z58 P hk) : ∀ m, zdc P (yfp P hk lf K fl m)
 | 0 => fun pure f args lv E h o h' H hc => by cases hc
 | m + 1 => fun pure f args lv E h o h' H hc hh => by
   have ih := ybc hm hhk m
   have hc : yd3 P hk lf K fl (yfp P hk lf K fl m) pure f args lv h = some (o, h') := hc
   unfold yd3 at hc
   split at hc
   · cases hc
   · rename_i fn hf
     split at hc
     · cases hc
     · rename_i b hb
       split at hc
       · cases hc
       · rename_i hcond
         simp only [Bool.or_eq_false_iff, Bool.not_eq_false'] at hcond
         have hent := fun args w => zhn (P := P) hf (by rw [hb]; rfl) hcond.1 args w
         have flat : pure = false → y1i P hk (yfp P hk lf K fl m) lf fn b args lv h = some (o, h') → zeq P f args H (fun o' H' => o' = o ∧ XHR lv E h' H') ∧ (pure = true → ∀ H2 : kz1, H2.lv = lv → zeq P f args H2 (fun o' H' => o' = o ∧ H' = H2)) := fun hp q =>
           ⟨ziu hm hhk ih hf hb hent hcond.2 hh q, fun hp' => by rw [hp] at hp'; cases hp'⟩
         split at hc
         · split at hc
           · rename_i o' hp
             simp only [Option.some.injEq, Prod.mk.injEq] at hc
             obtain ⟨rfl, rfl⟩ := hc
             have := fun (H2 : kz1) (h2 : H2.lv = lv) => zpe hm hhk ih hf hb hent (H := H2) hcond.2 (by rw [h2]; exact hp)
             exact ⟨(this H hh.lv).mono fun o' H' ⟨q1, q2⟩ => ⟨q1, by rw [q2]; exact hh⟩, fun _ => this⟩
           · cases pure with
             | true => cases hc
             | false => exact flat rfl hc
         · cases pure with
           | true => cases hc
           | false => exact flat rfl hc
end
end Go.Ab


namespace Go.Ab
open Go
set_option linter.unusedVariables false
set_option linter.unusedSimpArgs false
structure z5v where
 f : Nat
 lv : Nat
 args : List V
 r : V
def z5v.ok (P : Program) (e : z5v) : Prop := ∀ H : kz1, H.lv = e.lv → zg5 P e.f e.args H e.r H
def yjg (P : Program) : List z5v → Prop
 | [] => True
 | e :: l => e.ok P ∧ yjg P l
def z4c : List z5v → z8x
 | [], _, _, _ => none
 | e :: l, lv, f, args => match Nat.beq e.f f with
   | true => (match Nat.beq e.lv lv with
     | true => (match V.zea e.args args with
       | true => some e.r
       | false => z4c l lv f args)
     | false => z4c l lv f args)
   | false => z4c l lv f args
theorem z1j {P : Program} : ∀ {l : List z5v}, yjg P l → z58 P (z4c l)
 | [], _ => fun lv f args r h => by cases h
 | e :: l, hl => fun lv f args r h => by
   simp only [z4c] at h
   have rest := z1j hl.2 lv f args r
   split at h
   · rename_i h1
     split at h
     · rename_i h2
       split at h
       · rename_i h3
         injection h with h; subst h
         rw [← Nat.eq_of_beq_eq_true h1, ← Nat.eq_of_beq_eq_true h2, ← z95 h3]
         exact hl.1
       · exact rest h
     · exact rest h
   · exact rest h
def z8d (a b : z8x) : z8x := fun lv f args => match a lv f args with
 | some r => some r
 | none => b lv f args
theorem z2j {P : Program} {a b : z8x} (ha : z58 P a) (hb : z58 P b) : z58 P (z8d a b) := fun lv f args r h => by
 unfold z8d at h
 split at h
 ·rename_i r' hr
  injection h with h; subst h
  exact ha lv f args _ hr
 ·exact hb lv f args r h
noncomputable def yj1 (P : Program) (hk : z8x) (lf K : Nat) (fl : List Nat) (m : Nat) (f : Nat) (args : List V) (lv : Nat) : Option Out := match P.funcs[f]? with
 | none => none
 | some fn => match fn.body with
   | none => none
   | some b => match (fn.name == "runtime.NumGoroutine") || !(Nat.ble args.length fn.ntmps) with
     | true => none
     | false => yg8 P hk (yfp P hk lf K fl m) lf K fn b args lv
noncomputable def z5v.check (P : Program) (hk : z8x) (lf K : Nat) (fl : List Nat) (m : Nat) (e : z5v) : Bool := match yj1 P hk lf K fl m e.f e.args e.lv with
 | some (.ret v) => V.same v e.r
 | _ => false
theorem yz5 {P : Program} {hk : z8x} (hm : P.follows .mixedOrders = true) (hhk : z58 P hk) {lf K : Nat} {fl : List Nat} {m : Nat} {e : z5v} (h : e.check P hk lf K fl m = true) : e.ok P := fun H hH => by
 unfold z5v.check at h
 split at h
 ·rename_i v hv
  obtain rfl := y3w h
  unfold yj1 at hv
  split at hv
  ·cases hv
  ·rename_i fn hf
   split at hv
   ·cases hv
   ·rename_i b hb
    split at hv
    ·cases hv
    ·rename_i hcond
     simp only [Bool.or_eq_false_iff, Bool.not_eq_false'] at hcond
     have hent := fun args w => zhn (P := P) hf (by rw [hb]; rfl) hcond.1 args w
     exact zeu (zpe hm hhk (ybc hm hhk m) hf hb hent hcond.2 (by rw [hH]; exact hv))
 ·cases h
end Go.Ab


namespace Go.Ab
open Go
set_option linter.unusedVariables false
set_option linter.unusedSimpArgs false
def yho (c : UInt8) : List UInt8 → Nat → Option Nat
 | [], _ => none
 | b :: s, n => match Nat.beq b.toNat c.toNat with
   | true => some n
   | false => yho c s (Nat.succ n)
def idxI : Option Nat → Int
 | none => -1
 | some n => Int.ofNat n
theorem yfh (c : UInt8) : ∀ (s : List UInt8) (n : Nat), (yho c s n = none ∧ Lib.indexByte s c = -1) ∨ ∃ i : Nat, yho c s n = some (n + i) ∧ Lib.indexByte s c = i
 | [], n => .inl ⟨rfl, rfl⟩
 | b :: s, n => by
   simp only [yho, Lib.indexByte]
   split
   · rename_i e
     have : b = c := UInt8.toNat_inj.1 (Nat.eq_of_beq_eq_true e)
     subst this
     exact .inr ⟨0, by simp, by simp⟩
   · rename_i e
     have hb : (b == c) = false := by
       cases hh : b == c
       · rfl
       · rw [beq_iff_eq] at hh; subst hh; rw [Nat.beq_refl] at e; cases e
     rw [hb]
     rcases yfh c s (Nat.succ n) with ⟨h1, h2⟩ | ⟨i, h1, h2⟩
     · exact .inl ⟨h1, by rw [h2]; rfl⟩
     · refine .inr ⟨i + 1, by rw [h1]; congr 1; simp only [Nat.succ_eq_add_one]; omega, ?_⟩
       rw [h2]
       have : (((i : Nat) : Int) == -1) = false := by rw [beq_eq_false_iff_ne]; omega
       simp only [Bool.false_eq_true, if_false, this]
       omega
theorem idx_eq (c : UInt8) (s : List UInt8) : idxI (yho c s 0) = Lib.indexByte s c := by
 rcases yfh c s 0 with ⟨h1, h2⟩ | ⟨i, h1, h2⟩
 ·rw [h1, h2]; rfl
 ·rw [h1, h2]; simp [idxI]
def cmpS : List UInt8 → List UInt8 → Int
 | [], [] => 0
 | [], _ :: _ => -1
 | _ :: _, [] => 1
 | a :: s, b :: t => match Nat.blt a.toNat b.toNat with
   | true => -1
   | false => match Nat.blt b.toNat a.toNat with
     | true => 1
     | false => cmpS s t
theorem yfl : ∀ s t : List UInt8, cmpS s t = Lib.compareBytes s t
 | [], [] => rfl
 | [], _ :: _ => rfl
 | _ :: _, [] => rfl
 | a :: s, b :: t => by
   simp only [cmpS, Lib.compareBytes]
   have key : ∀ x y : UInt8, (Nat.blt x.toNat y.toNat = true) ↔ x < y := fun x y => by rw [Nat.blt_eq]; exact UInt8.lt_iff_toNat_lt.symm
   split
   · rename_i e; rw [if_pos ((key a b).1 e)]
   · rename_i e
     rw [if_neg (fun h => by rw [(key a b).2 h] at e; cases e)]
     split
     · rename_i e2; rw [if_pos ((key b a).1 e2)]
     · rename_i e2
       rw [if_neg (fun h => by rw [(key b a).2 h] at e2; cases e2)]
       exact yfl s t
section
variable {P : Program}
def yd8 (k : Nat) : z8x := fun _ f args => match Nat.beq f k with
 | true => (match args with
   | [x] => some x
   | _ => none)
 | false => none
def yd2 (k : Nat) : z8x := fun _ f args => match Nat.beq f k with
 | true => (match args with
   | [.str s, .int .u8 c] => some (.int .i64 (idxI (yho c.toNat.toUInt8 s 0)))
   | _ => none)
 | false => none
def ye5 (k : Nat) : z8x := fun _ f args => match Nat.beq f k with
 | true => (match args with
   | [.str s, .str t] => some (.int .i64 (cmpS s t))
   | _ => none)
 | false => none
theorem args1 {W : World} {g : Gh} {H : kz1} {u : V} {cs : Array Value} (h : zdm W g H [u] cs) : ∃ x, cs = #[x] ∧ Rel W g H u x := by
 obtain ⟨h1, h2⟩ := h
 cases cs with | mk l =>
 match l, h1 with
 | [x], _ => exact ⟨x, rfl, by simpa using h2 0 u rfl⟩
theorem yia {k : Nat} {fn : Func} (hf : P.funcs[k]? = some fn) (hname : (fn.name == "runtime.NumGoroutine") = false) (hb : fn.body.isNone = true) (hn : Extern.findNext fn = none) (he : Extern.find fn = some Extern.AbiNoEscape.same) : z58 P (yd8 k) := fun lv f args r h H hH => by
 unfold yd8 at h
 split at h
 ·rename_i e
  obtain rfl := Nat.eq_of_beq_eq_true e
  split at h
  ·rename_i x
   injection h with h; subst h
   intro W g cargs hG hA
   obtain ⟨c, rfl, h0⟩ := args1 hA
   exact .inr ⟨c, W, g, by rw [run_callFunc_extern hf hname hb hn he, Lib.run_noEscape]; rfl, .refl _ _ _, hG, h0⟩
  ·cases h
 ·cases h
theorem yi6 {k : Nat} {fn : Func} (hf : P.funcs[k]? = some fn) (hname : (fn.name == "runtime.NumGoroutine") = false) (hb : fn.body.isNone = true) (hn : Extern.findNext fn = none) (he : Extern.find fn = some Extern.BytealgIndexByte.indexByte) : z58 P (yd2 k) := fun lv f args r h H hH => by
 unfold yd2 at h
 split at h
 ·rename_i e
  obtain rfl := Nat.eq_of_beq_eq_true e
  split at h
  ·rename_i s c
   injection h with h; subst h
   intro W g cargs hG hA
   obtain ⟨x, y, rfl, h0, h1⟩ := yiq hA
   cases h0; cases h1
   rw [idx_eq]
   exact .inr ⟨_, W, g, by rw [run_callFunc_extern hf hname hb hn he, Lib.run_indexByteString]; rfl, .refl _ _ _, hG, .int _ _⟩
  ·cases h
 ·cases h
theorem ygz {k : Nat} {fn : Func} (hf : P.funcs[k]? = some fn) (hname : (fn.name == "runtime.NumGoroutine") = false) (hb : fn.body.isNone = true) (hn : Extern.findNext fn = none) (he : Extern.find fn = some Extern.BytealgCompare.compare) : z58 P (ye5 k) := fun lv f args r h H hH => by
 unfold ye5 at h
 split at h
 ·rename_i e
  obtain rfl := Nat.eq_of_beq_eq_true e
  split at h
  ·rename_i s t
   injection h with h; subst h
   intro W g cargs hG hA
   obtain ⟨x, y, rfl, h0, h1⟩ := yiq hA
   cases h0; cases h1
   rw [yfl]
   exact .inr ⟨_, W, g, by rw [run_callFunc_extern hf hname hb hn he, Lib.run_compareString]; rfl, .refl _ _ _, hG, .int _ _⟩
  ·cases h
 ·cases h
end
end Go.Ab

