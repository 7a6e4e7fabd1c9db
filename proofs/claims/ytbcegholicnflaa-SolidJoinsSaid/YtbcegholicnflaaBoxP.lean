import Derived.Test.YtbcegholicnflaaBgT
set_option linter.unusedVariables false
set_option linter.unusedSimpArgs false
set_option maxRecDepth 100000
namespace Go.Ag
open Go.RowKit
noncomputable section
/-! ### bagatelle/solid.fair -/
def B_sd_fair_0 (a0n : Nat) (a0a : Nat → Int) (a0b : Nat → Int) (v0t7 : Int) (c : Int → Prop) (x0 : Int → Prop) (x1 : Int → Prop)  : Prop := Ts 1 (cond (ilt v0t7 ((a0n : Nat) : Int)) (((0 ≤ v0t7 ∧ v0t7 < ((a0n : Nat) : Int)) ∧ Ts 16 (cond (igt (imax (imax (imax (a0a (Int.toNat v0t7)) (ineg .i64 (a0a (Int.toNat v0t7)))) (a0b (Int.toNat v0t7))) (ineg .i64 (a0b (Int.toNat v0t7)))) 2097152) (Ts 4 (x1 v0t7)) (Ts 5 (cond (ilt (a0a (Int.toNat v0t7)) (-2097152)) (Ts 2 (x1 v0t7)) (Ts 4 (cond (ilt (a0b (Int.toNat v0t7)) (-2097152)) (Ts 1 (x1 v0t7)) (Ts 2 (c (iadd .i64 v0t7 1)))))))))) (x0 v0t7))
def W_sd_fair_0 (a0n : Nat) (a0a : Nat → Int) (a0b : Nat → Int) : Nat → Int → (Int → Prop) → (Int → Prop) → Prop
  | 0, _, _, _ => False
  | f + 1, w0, x0, x1 => B_sd_fair_0 a0n a0a a0b w0 (fun u0 => W_sd_fair_0 a0n a0a a0b f u0 x0 x1) x0 x1 
theorem BM_sd_fair_0 (a0n : Nat) (a0a : Nat → Int) (a0b : Nat → Int) (v0t7 : Int) {c c' : Int → Prop} {x0 y0 : Int → Prop} {x1 y1 : Int → Prop} (hc : ∀ w0, c w0 → c' w0) (h0 : ∀ o0, x0 o0 → y0 o0) (h1 : ∀ o0, x1 o0 → y1 o0) : B_sd_fair_0 a0n a0a a0b v0t7 c x0 x1  → B_sd_fair_0 a0n a0a a0b v0t7 c' y0 y1  := by
  unfold B_sd_fair_0
  repeat' first
    | exact hc _
    | exact h0 _
    | exact h1 _
    | refine Ts_imp ?_
    | refine cond_imp ?_ ?_
    | refine and_imp' ?_
theorem WM_sd_fair_0 (a0n : Nat) (a0a : Nat → Int) (a0b : Nat → Int) {x0 y0 : Int → Prop} {x1 y1 : Int → Prop} (h0 : ∀ o0, x0 o0 → y0 o0) (h1 : ∀ o0, x1 o0 → y1 o0) : ∀ (f : Nat) (v0t7 : Int), W_sd_fair_0 a0n a0a a0b f v0t7 x0 x1 → W_sd_fair_0 a0n a0a a0b f v0t7 y0 y1
  | 0, w0 => fun h => h
  | f + 1, w0 => BM_sd_fair_0 a0n a0a a0b w0 (fun u0 => WM_sd_fair_0 a0n a0a a0b h0 h1 f u0) h0 h1
def B_sd_fair (a0n : Nat) (a0a : Nat → Int) (a0b : Nat → Int) (K0 : Bool → Prop) (l0 : Int → (Int → Prop) → (Int → Prop) → Prop) : Prop := Ts 4 ((l0 0 (fun o0t7 => Ts 1 (K0 true)) (fun o0t7 => K0 false)))
def spotsOK (n : Nat) (x y : Nat → Int) : Bool := (List.range n).all fun k => spotOK (x k) (y k)
theorem spotsOK_iff {n : Nat} {x y : Nat → Int} : spotsOK n x y = true ↔ ∀ k, k < n → spotOK (x k) (y k) = true := by
  unfold spotsOK
  rw [List.all_eq_true]
  exact ⟨fun h k hk => h k (List.mem_range.2 hk), fun h k hk => h k (List.mem_range.1 hk)⟩
def P_sd_fair (n : Nat) (x : Nat → Int) (y : Nat → Int) : Prop := n ≤ 1000000 ∧ ∀ k, k < n → I64 (x k) ∧ I64 (y k)
def F_sd_fair_0 (n : Nat) (x : Nat → Int) (y : Nat → Int) : Bool := spotsOK n x y
theorem W_sd_fair_ok {n : Nat} {x y : Nat → Int} (hp : P_sd_fair n x y) {x0 x1 : Int → Prop} : ∀ (f i : Nat), i ≤ n → n < f + i → ((∀ k, i ≤ k → k < n → spotOK (x k) (y k) = true) → ∀ v, x0 v) → (∀ k, k < n → spotOK (x k) (y k) = false → ∀ v, x1 v) → W_sd_fair_0 n x y f i x0 x1
  | 0, i, h1, h2, _, _ => by omega
  | f + 1, i, h1, h2, h3, h4 => by
    show B_sd_fair_0 n x y i _ _ _
    unfold B_sd_fair_0
    simp only [Ts_iff, true_and, Int.toNat_natCast, Nat.zero_add]
    refine cond_intro (fun hc => ?_) (fun hc => ?_)
    · rw [ilt_t] at hc
      have hi : i < n := by omega
      refine ⟨⟨by omega, hc⟩, ?_⟩
      obtain ⟨⟨hx1, hx2⟩, ⟨hy1, hy2⟩⟩ := hp.2 i hi
      have key : spotOK (x i) (y i) = false → ∀ v, x1 v := h4 i hi
      have nk : ¬ (-2097152 ≤ x i ∧ x i ≤ 2097152 ∧ -2097152 ≤ y i ∧ y i ≤ 2097152) → ∀ v, x1 v := fun h => key (by rw [← Bool.not_eq_true, spotOK_iff]; exact h)
      have hnx : ineg .i64 (x i) = -(x i) ∨ (x i = -9223372036854775808 ∧ ineg .i64 (x i) = -9223372036854775808) := by
        by_cases h : x i = -9223372036854775808
        · exact .inr ⟨h, by rw [h, ineg64_min]⟩
        · exact .inl (ineg64 (by omega) hx2)
      have hny : ineg .i64 (y i) = -(y i) ∨ (y i = -9223372036854775808 ∧ ineg .i64 (y i) = -9223372036854775808) := by
        by_cases h : y i = -9223372036854775808
        · exact .inr ⟨h, by rw [h, ineg64_min]⟩
        · exact .inl (ineg64 (by omega) hy2)
      refine cond_intro (fun hc => ?_) (fun hc => ?_)
      · rw [igt_t, imax_m, imax_m, imax_m] at hc
        exact nk (by omega) _
      · rw [igt_f, imax_m, imax_m, imax_m] at hc
        refine cond_intro (fun hc => ?_) (fun hc => ?_)
        · rw [ilt_t] at hc
          exact nk (by omega) _
        · rw [ilt_f] at hc
          refine cond_intro (fun hc => ?_) (fun hc => ?_)
          · rw [ilt_t] at hc
            exact nk (by omega) _
          · rw [ilt_f] at hc
            have hn := hp.1
            rw [iadd64 (by omega) (by omega)]
            refine W_sd_fair_ok hp f (i + 1) (by omega) (by omega) (fun h => h3 fun k hk1 hk2 => ?_) h4
            by_cases hk : k = i
            · subst hk
              rw [spotOK_iff]
              omega
            · exact h k (by omega) hk2
    · rw [ilt_f] at hc
      exact h3 (fun k hk1 hk2 => by omega) _
theorem H_sd_fair (a0n : Nat) (a0a : Nat → Int) (a0b : Nat → Int) {K0 : Bool → Prop} (h : P_sd_fair a0n a0a a0b) (hK : K0 (F_sd_fair_0 a0n a0a a0b)) : B_sd_fair a0n a0a a0b K0 (W_sd_fair_0 a0n a0a a0b fuel) := by
  unfold B_sd_fair
  simp only [Ts_iff, true_and]
  refine W_sd_fair_ok h fuel 0 (Nat.zero_le _) (by rw [fuel_eq]; have := h.1; omega) (fun h => ?_) (fun k hk hs => ?_)
  · intro v
    have : F_sd_fair_0 a0n a0a a0b = true := spotsOK_iff.2 fun k hk => h k (Nat.zero_le _) hk
    rw [this] at hK
    exact hK
  · intro v
    have : F_sd_fair_0 a0n a0a a0b = false := by
      cases hf : F_sd_fair_0 a0n a0a a0b with
      | false => rfl
      | true => rw [spotsOK_iff.1 hf k hk] at hs; cases hs
    rw [this] at hK
    exact hK
/-! ### bagatelle/solid.CheckBox -/
def B_sd_CheckBox (a0a : Int) (a0b : Int) (a0c : Int) (a0d : Int) (K0 : Int → Prop)  : Prop := Ts 16 ((true = true ∧ Ts 3 (((P_sd_fair 2 (pushF 1 (fun _ => a0a) a0c) (pushF 1 (fun _ => a0b) a0d)) ∧ Ts 2 (cond (!(F_sd_fair_0 2 (pushF 1 (fun _ => a0a) a0c) (pushF 1 (fun _ => a0b) a0d))) (Ts 1 (K0 3)) (Ts 6 (cond (igt a0a a0c) (Ts 3 (K0 5)) (Ts 7 (cond (igt a0b a0d) (Ts 1 (K0 5)) (Ts 1 (K0 0)))))))))))
def P_sd_CheckBox (a0a : Int) (a0b : Int) (a0c : Int) (a0d : Int) : Prop := (P_sd_fair 2 (pushF 1 (fun _ => a0a) a0c) (pushF 1 (fun _ => a0b) a0d))
def F_sd_CheckBox_0 (a0a : Int) (a0b : Int) (a0c : Int) (a0d : Int) : Int := (cond (!(F_sd_fair_0 2 (pushF 1 (fun _ => a0a) a0c) (pushF 1 (fun _ => a0b) a0d))) 3 (cond (igt a0a a0c) 5 (cond (igt a0b a0d) 5 0)))
theorem H_sd_CheckBox (a0a : Int) (a0b : Int) (a0c : Int) (a0d : Int) {K0 : Int → Prop} (h : P_sd_CheckBox a0a a0b a0c a0d) (hK : K0 (F_sd_CheckBox_0 a0a a0b a0c a0d)) : B_sd_CheckBox a0a a0b a0c a0d K0  := by
  unfold B_sd_CheckBox P_sd_CheckBox F_sd_CheckBox_0 at *
  simp only [Ts_iff, true_and]
  try simp only [Ts_iff, true_and] at h
  repeat' first
    | exact hK
    | (refine cond_intro (fun hc => ?_) (fun hc => ?_) <;> (try simp only [hc, cond_true, cond_false] at h) <;> (try simp only [hc, cond_true, cond_false] at hK) <;> (try simp only [hc, cond_true, cond_false]))
    | (refine ⟨rfl, ?_⟩)
    | (refine ⟨trivial, ?_⟩)
    | (refine ⟨by decide, ?_⟩)
    | (refine ⟨h.1, ?_⟩; replace h := h.2)
    | (refine ⟨h, ?_⟩)
    | (refine ⟨fun _ _ => rfl, ?_⟩)
/-! ### bagatelle/solid.Grow -/
def B_sd_Grow (a0a : Int) (a0b : Int) (a0c : Int) (a0d : Int) (a1 : Int) (K0 : Int → Int → Int → Int → Prop)  : Prop := Ts 3 (((P_sd_CheckBox a0a a0b a0c a0d) ∧ Ts 1 (cond (ine (F_sd_CheckBox_0 a0a a0b a0c a0d) 0) (Ts 3 (K0 a0a a0b a0c a0d)) (Ts 35 (K0 (imax (isub .i64 a0a (imax 0 (imin a1 4194304))) (-2097152)) (imax (isub .i64 a0b (imax 0 (imin a1 4194304))) (-2097152)) (imin (iadd .i64 a0c (imax 0 (imin a1 4194304))) 2097152) (imin (iadd .i64 a0d (imax 0 (imin a1 4194304))) 2097152))))))
def P_sd_Grow (a0a : Int) (a0b : Int) (a0c : Int) (a0d : Int) (a1 : Int) : Prop := (P_sd_CheckBox a0a a0b a0c a0d)
def F_sd_Grow_0 (a0a : Int) (a0b : Int) (a0c : Int) (a0d : Int) (a1 : Int) : Int := (cond (ine (F_sd_CheckBox_0 a0a a0b a0c a0d) 0) a0a (imax (isub .i64 a0a (imax 0 (imin a1 4194304))) (-2097152)))
def F_sd_Grow_1 (a0a : Int) (a0b : Int) (a0c : Int) (a0d : Int) (a1 : Int) : Int := (cond (ine (F_sd_CheckBox_0 a0a a0b a0c a0d) 0) a0b (imax (isub .i64 a0b (imax 0 (imin a1 4194304))) (-2097152)))
def F_sd_Grow_2 (a0a : Int) (a0b : Int) (a0c : Int) (a0d : Int) (a1 : Int) : Int := (cond (ine (F_sd_CheckBox_0 a0a a0b a0c a0d) 0) a0c (imin (iadd .i64 a0c (imax 0 (imin a1 4194304))) 2097152))
def F_sd_Grow_3 (a0a : Int) (a0b : Int) (a0c : Int) (a0d : Int) (a1 : Int) : Int := (cond (ine (F_sd_CheckBox_0 a0a a0b a0c a0d) 0) a0d (imin (iadd .i64 a0d (imax 0 (imin a1 4194304))) 2097152))
theorem H_sd_Grow (a0a : Int) (a0b : Int) (a0c : Int) (a0d : Int) (a1 : Int) {K0 : Int → Int → Int → Int → Prop} (h : P_sd_Grow a0a a0b a0c a0d a1) (hK : K0 (F_sd_Grow_0 a0a a0b a0c a0d a1) (F_sd_Grow_1 a0a a0b a0c a0d a1) (F_sd_Grow_2 a0a a0b a0c a0d a1) (F_sd_Grow_3 a0a a0b a0c a0d a1)) : B_sd_Grow a0a a0b a0c a0d a1 K0  := by
  unfold B_sd_Grow P_sd_Grow F_sd_Grow_0 F_sd_Grow_1 F_sd_Grow_2 F_sd_Grow_3 at *
  simp only [Ts_iff, true_and]
  try simp only [Ts_iff, true_and] at h
  repeat' first
    | exact hK
    | (refine cond_intro (fun hc => ?_) (fun hc => ?_) <;> (try simp only [hc, cond_true, cond_false] at h) <;> (try simp only [hc, cond_true, cond_false] at hK) <;> (try simp only [hc, cond_true, cond_false]))
    | (refine ⟨rfl, ?_⟩)
    | (refine ⟨trivial, ?_⟩)
    | (refine ⟨by decide, ?_⟩)
    | (refine ⟨h.1, ?_⟩; replace h := h.2)
    | (refine ⟨h, ?_⟩)
    | (refine ⟨fun _ _ => rfl, ?_⟩)
/-! ### bagatelle/solid.cross -/
def B_sd_cross (a0a : Int) (a0b : Int) (a1a : Int) (a1b : Int) (K0 : Int → Prop)  : Prop := Ts 15 (K0 (isub .i64 (imul .i64 a0a a1b) (imul .i64 a0b a1a)))
def P_sd_cross (a0a : Int) (a0b : Int) (a1a : Int) (a1b : Int) : Prop := True
def F_sd_cross_0 (a0a : Int) (a0b : Int) (a1a : Int) (a1b : Int) : Int := (isub .i64 (imul .i64 a0a a1b) (imul .i64 a0b a1a))
theorem H_sd_cross (a0a : Int) (a0b : Int) (a1a : Int) (a1b : Int) {K0 : Int → Prop} (h : P_sd_cross a0a a0b a1a a1b) (hK : K0 (F_sd_cross_0 a0a a0b a1a a1b)) : B_sd_cross a0a a0b a1a a1b K0  := by
  unfold B_sd_cross P_sd_cross F_sd_cross_0 at *
  simp only [Ts_iff, true_and]
  try simp only [Ts_iff, true_and] at h
  repeat' first
    | exact hK
    | (refine cond_intro (fun hc => ?_) (fun hc => ?_) <;> (try simp only [hc, cond_true, cond_false] at h) <;> (try simp only [hc, cond_true, cond_false] at hK) <;> (try simp only [hc, cond_true, cond_false]))
    | (refine ⟨rfl, ?_⟩)
    | (refine ⟨trivial, ?_⟩)
    | (refine ⟨by decide, ?_⟩)
    | (refine ⟨h.1, ?_⟩; replace h := h.2)
    | (refine ⟨h, ?_⟩)
    | (refine ⟨fun _ _ => rfl, ?_⟩)
/-! ### bagatelle/solid.way -/
def B_sd_way (a0a : Int) (a0b : Int) (a1a : Int) (a1b : Int) (K0 : Int → Int → Prop)  : Prop := Ts 16 (K0 (isub .i64 a1a a0a) (isub .i64 a1b a0b))
def P_sd_way (a0a : Int) (a0b : Int) (a1a : Int) (a1b : Int) : Prop := True
def F_sd_way_0 (a0a : Int) (a0b : Int) (a1a : Int) (a1b : Int) : Int := (isub .i64 a1a a0a)
def F_sd_way_1 (a0a : Int) (a0b : Int) (a1a : Int) (a1b : Int) : Int := (isub .i64 a1b a0b)
theorem H_sd_way (a0a : Int) (a0b : Int) (a1a : Int) (a1b : Int) {K0 : Int → Int → Prop} (h : P_sd_way a0a a0b a1a a1b) (hK : K0 (F_sd_way_0 a0a a0b a1a a1b) (F_sd_way_1 a0a a0b a1a a1b)) : B_sd_way a0a a0b a1a a1b K0  := by
  unfold B_sd_way P_sd_way F_sd_way_0 F_sd_way_1 at *
  simp only [Ts_iff, true_and]
  try simp only [Ts_iff, true_and] at h
  repeat' first
    | exact hK
    | (refine cond_intro (fun hc => ?_) (fun hc => ?_) <;> (try simp only [hc, cond_true, cond_false] at h) <;> (try simp only [hc, cond_true, cond_false] at hK) <;> (try simp only [hc, cond_true, cond_false]))
    | (refine ⟨rfl, ?_⟩)
    | (refine ⟨trivial, ?_⟩)
    | (refine ⟨by decide, ?_⟩)
    | (refine ⟨h.1, ?_⟩; replace h := h.2)
    | (refine ⟨h, ?_⟩)
    | (refine ⟨fun _ _ => rfl, ?_⟩)
/-! ### bagatelle/solid.turn -/
def B_sd_turn (a0a : Int) (a0b : Int) (a1a : Int) (a1b : Int) (a2a : Int) (a2b : Int) (K0 : Int → Prop)  : Prop := Ts 6 (((P_sd_way a0a a0b a1a a1b) ∧ Ts 2 (((P_sd_way a0a a0b a2a a2b) ∧ ((P_sd_cross (F_sd_way_0 a0a a0b a1a a1b) (F_sd_way_1 a0a a0b a1a a1b) (F_sd_way_0 a0a a0b a2a a2b) (F_sd_way_1 a0a a0b a2a a2b)) ∧ Ts 1 ((true = true ∧ K0 (F_sd_cross_0 (F_sd_way_0 a0a a0b a1a a1b) (F_sd_way_1 a0a a0b a1a a1b) (F_sd_way_0 a0a a0b a2a a2b) (F_sd_way_1 a0a a0b a2a a2b)))))))))
def P_sd_turn (a0a : Int) (a0b : Int) (a1a : Int) (a1b : Int) (a2a : Int) (a2b : Int) : Prop := True
def F_sd_turn_0 (a0a : Int) (a0b : Int) (a1a : Int) (a1b : Int) (a2a : Int) (a2b : Int) : Int := (F_sd_cross_0 (F_sd_way_0 a0a a0b a1a a1b) (F_sd_way_1 a0a a0b a1a a1b) (F_sd_way_0 a0a a0b a2a a2b) (F_sd_way_1 a0a a0b a2a a2b))
theorem H_sd_turn (a0a : Int) (a0b : Int) (a1a : Int) (a1b : Int) (a2a : Int) (a2b : Int) {K0 : Int → Prop} (h : P_sd_turn a0a a0b a1a a1b a2a a2b) (hK : K0 (F_sd_turn_0 a0a a0b a1a a1b a2a a2b)) : B_sd_turn a0a a0b a1a a1b a2a a2b K0  := by
  unfold B_sd_turn P_sd_turn F_sd_turn_0 at *
  simp only [Ts_iff, true_and]
  try simp only [Ts_iff, true_and] at h
  repeat' first
    | exact hK
    | (refine cond_intro (fun hc => ?_) (fun hc => ?_) <;> (try simp only [hc, cond_true, cond_false] at h) <;> (try simp only [hc, cond_true, cond_false] at hK) <;> (try simp only [hc, cond_true, cond_false]))
    | (refine ⟨rfl, ?_⟩)
    | (refine ⟨trivial, ?_⟩)
    | (refine ⟨by decide, ?_⟩)
    | (refine ⟨h.1, ?_⟩; replace h := h.2)
    | (refine ⟨h, ?_⟩)
    | (refine ⟨fun _ _ => rfl, ?_⟩)
/-! ### bagatelle/solid.Side -/
def B_sd_Side (a0a : Int) (a0b : Int) (a1a : Int) (a1b : Int) (a2a : Int) (a2b : Int) (K0 : Int → Prop)  : Prop := Ts 9 (((P_sd_fair 3 (appF 1 (fun _ => a0a) (pushF 1 (fun _ => a1a) a2a)) (appF 1 (fun _ => a0b) (pushF 1 (fun _ => a1b) a2b))) ∧ cond (F_sd_fair_0 3 (appF 1 (fun _ => a0a) (pushF 1 (fun _ => a1a) a2a)) (appF 1 (fun _ => a0b) (pushF 1 (fun _ => a1b) a2b))) (Ts 3 (((P_sd_turn a0a a0b a1a a1b a2a a2b) ∧ Ts 4 (cond (igt (F_sd_turn_0 a0a a0b a1a a1b a2a a2b) 0) (Ts 1 (K0 1)) (Ts 3 (cond (ilt (F_sd_turn_0 a0a a0b a1a a1b a2a a2b) 0) (Ts 1 (K0 (-1))) (Ts 1 (K0 0)))))))) (Ts 3 (cond (igt 0 0) (Ts 1 (K0 1)) (Ts 3 (cond (ilt 0 0) (Ts 1 (K0 (-1))) (Ts 1 (K0 0))))))))
def P_sd_Side (a0a : Int) (a0b : Int) (a1a : Int) (a1b : Int) (a2a : Int) (a2b : Int) : Prop := (P_sd_fair 3 (appF 1 (fun _ => a0a) (pushF 1 (fun _ => a1a) a2a)) (appF 1 (fun _ => a0b) (pushF 1 (fun _ => a1b) a2b)))
def F_sd_Side_0 (a0a : Int) (a0b : Int) (a1a : Int) (a1b : Int) (a2a : Int) (a2b : Int) : Int := (cond (F_sd_fair_0 3 (appF 1 (fun _ => a0a) (pushF 1 (fun _ => a1a) a2a)) (appF 1 (fun _ => a0b) (pushF 1 (fun _ => a1b) a2b))) (cond (igt (F_sd_turn_0 a0a a0b a1a a1b a2a a2b) 0) 1 (cond (ilt (F_sd_turn_0 a0a a0b a1a a1b a2a a2b) 0) (-1) 0)) (cond (igt 0 0) 1 (cond (ilt 0 0) (-1) 0)))
theorem H_sd_Side (a0a : Int) (a0b : Int) (a1a : Int) (a1b : Int) (a2a : Int) (a2b : Int) {K0 : Int → Prop} (h : P_sd_Side a0a a0b a1a a1b a2a a2b) (hK : K0 (F_sd_Side_0 a0a a0b a1a a1b a2a a2b)) : B_sd_Side a0a a0b a1a a1b a2a a2b K0  := by
  unfold B_sd_Side P_sd_Side F_sd_Side_0 at *
  simp only [Ts_iff, true_and]
  try simp only [Ts_iff, true_and] at h
  repeat' first
    | exact hK
    | (refine cond_intro (fun hc => ?_) (fun hc => ?_) <;> (try simp only [hc, cond_true, cond_false] at h) <;> (try simp only [hc, cond_true, cond_false] at hK) <;> (try simp only [hc, cond_true, cond_false]))
    | (refine ⟨rfl, ?_⟩)
    | (refine ⟨trivial, ?_⟩)
    | (refine ⟨by decide, ?_⟩)
    | (refine ⟨h.1, ?_⟩; replace h := h.2)
    | (refine ⟨h, ?_⟩)
    | (refine ⟨fun _ _ => rfl, ?_⟩)
/-! ### bagatelle/bagatellelaw03.awake -/
def B_lw_awake  (K0 : Bool → Prop)  : Prop := Ts 4 (((P_sd_Side 0 0 1 0 0 1) ∧ Ts 2 (cond (ieq (F_sd_Side_0 0 0 1 0 0 1) 1) (Ts 1 (((P_sd_Grow 0 0 1 1 2) ∧ Ts 4 (K0 ((ieq (F_sd_Grow_0 0 0 1 1 2) (-2)) && ((ieq (F_sd_Grow_1 0 0 1 1 2) (-2)) && ((ieq (F_sd_Grow_2 0 0 1 1 2) 3) && (ieq (F_sd_Grow_3 0 0 1 1 2) 3)))))))) (Ts 2 (K0 false)))))
def P_lw_awake  : Prop := ((P_sd_Side 0 0 1 0 0 1) ∧ (cond (ieq (F_sd_Side_0 0 0 1 0 0 1) 1) (P_sd_Grow 0 0 1 1 2) True))
def F_lw_awake_0  : Bool := (cond (ieq (F_sd_Side_0 0 0 1 0 0 1) 1) ((ieq (F_sd_Grow_0 0 0 1 1 2) (-2)) && ((ieq (F_sd_Grow_1 0 0 1 1 2) (-2)) && ((ieq (F_sd_Grow_2 0 0 1 1 2) 3) && (ieq (F_sd_Grow_3 0 0 1 1 2) 3)))) false)
theorem H_lw_awake  {K0 : Bool → Prop} (h : P_lw_awake ) (hK : K0 F_lw_awake_0) : B_lw_awake  K0  := by
  unfold B_lw_awake P_lw_awake F_lw_awake_0 at *
  simp only [Ts_iff, true_and]
  try simp only [Ts_iff, true_and] at h
  repeat' first
    | exact hK
    | (refine cond_intro (fun hc => ?_) (fun hc => ?_) <;> (try simp only [hc, cond_true, cond_false] at h) <;> (try simp only [hc, cond_true, cond_false] at hK) <;> (try simp only [hc, cond_true, cond_false]))
    | (refine ⟨rfl, ?_⟩)
    | (refine ⟨trivial, ?_⟩)
    | (refine ⟨by decide, ?_⟩)
    | (refine ⟨h.1, ?_⟩; replace h := h.2)
    | (refine ⟨h, ?_⟩)
    | (refine ⟨fun _ _ => rfl, ?_⟩)
/-! ### bagatelle/bagatelleref03.valid -/
def B_r3_valid (a0a : Int) (a0b : Int) (K0 : Bool → Prop)  : Prop := Ts 6 (cond (ige a0a (-2097152)) (Ts 5 (cond (ile a0a 2097152) (Ts 5 (cond (ige a0b (-2097152)) (Ts 5 (K0 (ile a0b 2097152))) (Ts 2 (K0 false)))) (Ts 4 (K0 false)))) (Ts 6 (K0 false)))
def P_r3_valid (a0a : Int) (a0b : Int) : Prop := True
def F_r3_valid_0 (a0a : Int) (a0b : Int) : Bool := (cond (ige a0a (-2097152)) (cond (ile a0a 2097152) (cond (ige a0b (-2097152)) (ile a0b 2097152) false) false) false)
theorem H_r3_valid (a0a : Int) (a0b : Int) {K0 : Bool → Prop} (h : P_r3_valid a0a a0b) (hK : K0 (F_r3_valid_0 a0a a0b)) : B_r3_valid a0a a0b K0  := by
  unfold B_r3_valid P_r3_valid F_r3_valid_0 at *
  simp only [Ts_iff, true_and]
  try simp only [Ts_iff, true_and] at h
  repeat' first
    | exact hK
    | (refine cond_intro (fun hc => ?_) (fun hc => ?_) <;> (try simp only [hc, cond_true, cond_false] at h) <;> (try simp only [hc, cond_true, cond_false] at hK) <;> (try simp only [hc, cond_true, cond_false]))
    | (refine ⟨rfl, ?_⟩)
    | (refine ⟨trivial, ?_⟩)
    | (refine ⟨by decide, ?_⟩)
    | (refine ⟨h.1, ?_⟩; replace h := h.2)
    | (refine ⟨h, ?_⟩)
    | (refine ⟨fun _ _ => rfl, ?_⟩)
/-! ### bagatelle/bagatelleref03.CheckBox -/
def B_r3_CheckBox (a0a : Int) (a0b : Int) (a0c : Int) (a0d : Int) (K0 : Int → Prop)  : Prop := Ts 7 (((P_r3_valid a0a a0b) ∧ Ts 2 (cond (!(F_r3_valid_0 a0a a0b)) (Ts 2 (K0 3)) (Ts 5 (((P_r3_valid a0c a0d) ∧ Ts 2 (cond (!(F_r3_valid_0 a0c a0d)) (Ts 1 (K0 3)) (Ts 6 (cond (igt a0a a0c) (Ts 2 (K0 5)) (Ts 6 (cond (igt a0b a0d) (Ts 1 (K0 5)) (Ts 1 (K0 0)))))))))))))
def P_r3_CheckBox (a0a : Int) (a0b : Int) (a0c : Int) (a0d : Int) : Prop := True
def F_r3_CheckBox_0 (a0a : Int) (a0b : Int) (a0c : Int) (a0d : Int) : Int := (cond (!(F_r3_valid_0 a0a a0b)) 3 (cond (!(F_r3_valid_0 a0c a0d)) 3 (cond (igt a0a a0c) 5 (cond (igt a0b a0d) 5 0))))
theorem H_r3_CheckBox (a0a : Int) (a0b : Int) (a0c : Int) (a0d : Int) {K0 : Int → Prop} (h : P_r3_CheckBox a0a a0b a0c a0d) (hK : K0 (F_r3_CheckBox_0 a0a a0b a0c a0d)) : B_r3_CheckBox a0a a0b a0c a0d K0  := by
  unfold B_r3_CheckBox P_r3_CheckBox F_r3_CheckBox_0 at *
  simp only [Ts_iff, true_and]
  try simp only [Ts_iff, true_and] at h
  repeat' first
    | exact hK
    | (refine cond_intro (fun hc => ?_) (fun hc => ?_) <;> (try simp only [hc, cond_true, cond_false] at h) <;> (try simp only [hc, cond_true, cond_false] at hK) <;> (try simp only [hc, cond_true, cond_false]))
    | (refine ⟨rfl, ?_⟩)
    | (refine ⟨trivial, ?_⟩)
    | (refine ⟨by decide, ?_⟩)
    | (refine ⟨h.1, ?_⟩; replace h := h.2)
    | (refine ⟨h, ?_⟩)
    | (refine ⟨fun _ _ => rfl, ?_⟩)
/-! ### bagatelle/solid.Meets -/
def B_sd_Meets (a0a : Int) (a0b : Int) (a0c : Int) (a0d : Int) (a1a : Int) (a1b : Int) (a1c : Int) (a1d : Int) (K0 : Bool → Prop)  : Prop := Ts 4 (((P_sd_CheckBox a0a a0b a0c a0d) ∧ Ts 2 (cond (ine (F_sd_CheckBox_0 a0a a0b a0c a0d) 0) (Ts 2 (K0 false)) (Ts 1 (((P_sd_CheckBox a1a a1b a1c a1d) ∧ Ts 2 (cond (ine (F_sd_CheckBox_0 a1a a1b a1c a1d) 0) (Ts 1 (K0 false)) (Ts 12 (cond (ile (imax a0a a1a) (imin a0c a1c)) (Ts 13 (K0 (ile (imax a0b a1b) (imin a0d a1d)))) (Ts 2 (K0 false)))))))))))
def P_sd_Meets (a0a : Int) (a0b : Int) (a0c : Int) (a0d : Int) (a1a : Int) (a1b : Int) (a1c : Int) (a1d : Int) : Prop := ((P_sd_CheckBox a0a a0b a0c a0d) ∧ (cond (ine (F_sd_CheckBox_0 a0a a0b a0c a0d) 0) True (P_sd_CheckBox a1a a1b a1c a1d)))
def F_sd_Meets_0 (a0a : Int) (a0b : Int) (a0c : Int) (a0d : Int) (a1a : Int) (a1b : Int) (a1c : Int) (a1d : Int) : Bool := (cond (ine (F_sd_CheckBox_0 a0a a0b a0c a0d) 0) false (cond (ine (F_sd_CheckBox_0 a1a a1b a1c a1d) 0) false (cond (ile (imax a0a a1a) (imin a0c a1c)) (ile (imax a0b a1b) (imin a0d a1d)) false)))
theorem H_sd_Meets (a0a : Int) (a0b : Int) (a0c : Int) (a0d : Int) (a1a : Int) (a1b : Int) (a1c : Int) (a1d : Int) {K0 : Bool → Prop} (h : P_sd_Meets a0a a0b a0c a0d a1a a1b a1c a1d) (hK : K0 (F_sd_Meets_0 a0a a0b a0c a0d a1a a1b a1c a1d)) : B_sd_Meets a0a a0b a0c a0d a1a a1b a1c a1d K0  := by
  unfold B_sd_Meets P_sd_Meets F_sd_Meets_0 at *
  simp only [Ts_iff, true_and]
  try simp only [Ts_iff, true_and] at h
  repeat' first
    | exact hK
    | (refine cond_intro (fun hc => ?_) (fun hc => ?_) <;> (try simp only [hc, cond_true, cond_false] at h) <;> (try simp only [hc, cond_true, cond_false] at hK) <;> (try simp only [hc, cond_true, cond_false]))
    | (refine ⟨rfl, ?_⟩)
    | (refine ⟨trivial, ?_⟩)
    | (refine ⟨by decide, ?_⟩)
    | (refine ⟨h.1, ?_⟩; replace h := h.2)
    | (refine ⟨h, ?_⟩)
    | (refine ⟨fun _ _ => rfl, ?_⟩)
/-! ### bagatelle/bagatelleref03.Meets -/
def B_r3_Meets (a0a : Int) (a0b : Int) (a0c : Int) (a0d : Int) (a1a : Int) (a1b : Int) (a1c : Int) (a1d : Int) (K0 : Bool → Prop)  : Prop := Ts 4 (((P_r3_CheckBox a0a a0b a0c a0d) ∧ Ts 2 (cond (ieq (F_r3_CheckBox_0 a0a a0b a0c a0d) 0) (Ts 1 (((P_r3_CheckBox a1a a1b a1c a1d) ∧ Ts 3 (cond (ieq (F_r3_CheckBox_0 a1a a1b a1c a1d) 0) (Ts 7 (cond (ile a0a a1c) (Ts 7 (cond (ile a1a a0c) (Ts 7 (cond (ile a0b a1d) (Ts 7 (K0 (ile a1b a0d))) (Ts 2 (K0 false)))) (Ts 4 (K0 false)))) (Ts 6 (K0 false)))) (Ts 8 (K0 false)))))) (Ts 10 (K0 false)))))
def P_r3_Meets (a0a : Int) (a0b : Int) (a0c : Int) (a0d : Int) (a1a : Int) (a1b : Int) (a1c : Int) (a1d : Int) : Prop := True
def F_r3_Meets_0 (a0a : Int) (a0b : Int) (a0c : Int) (a0d : Int) (a1a : Int) (a1b : Int) (a1c : Int) (a1d : Int) : Bool := (cond (ieq (F_r3_CheckBox_0 a0a a0b a0c a0d) 0) (cond (ieq (F_r3_CheckBox_0 a1a a1b a1c a1d) 0) (cond (ile a0a a1c) (cond (ile a1a a0c) (cond (ile a0b a1d) (ile a1b a0d) false) false) false) false) false)
theorem H_r3_Meets (a0a : Int) (a0b : Int) (a0c : Int) (a0d : Int) (a1a : Int) (a1b : Int) (a1c : Int) (a1d : Int) {K0 : Bool → Prop} (h : P_r3_Meets a0a a0b a0c a0d a1a a1b a1c a1d) (hK : K0 (F_r3_Meets_0 a0a a0b a0c a0d a1a a1b a1c a1d)) : B_r3_Meets a0a a0b a0c a0d a1a a1b a1c a1d K0  := by
  unfold B_r3_Meets P_r3_Meets F_r3_Meets_0 at *
  simp only [Ts_iff, true_and]
  try simp only [Ts_iff, true_and] at h
  repeat' first
    | exact hK
    | (refine cond_intro (fun hc => ?_) (fun hc => ?_) <;> (try simp only [hc, cond_true, cond_false] at h) <;> (try simp only [hc, cond_true, cond_false] at hK) <;> (try simp only [hc, cond_true, cond_false]))
    | (refine ⟨rfl, ?_⟩)
    | (refine ⟨trivial, ?_⟩)
    | (refine ⟨by decide, ?_⟩)
    | (refine ⟨h.1, ?_⟩; replace h := h.2)
    | (refine ⟨h, ?_⟩)
    | (refine ⟨fun _ _ => rfl, ?_⟩)
/-! ### bagatelle/solid.grown -/
def B_sd_grown (a0a : Int) (a0b : Int) (a1 : Int) (K0 : Int → Int → Int → Int → Prop)  : Prop := Ts 21 (K0 (isub .i64 a0a a1) (isub .i64 a0b a1) (iadd .i64 a0a a1) (iadd .i64 a0b a1))
def P_sd_grown (a0a : Int) (a0b : Int) (a1 : Int) : Prop := True
def F_sd_grown_0 (a0a : Int) (a0b : Int) (a1 : Int) : Int := (isub .i64 a0a a1)
def F_sd_grown_1 (a0a : Int) (a0b : Int) (a1 : Int) : Int := (isub .i64 a0b a1)
def F_sd_grown_2 (a0a : Int) (a0b : Int) (a1 : Int) : Int := (iadd .i64 a0a a1)
def F_sd_grown_3 (a0a : Int) (a0b : Int) (a1 : Int) : Int := (iadd .i64 a0b a1)
theorem H_sd_grown (a0a : Int) (a0b : Int) (a1 : Int) {K0 : Int → Int → Int → Int → Prop} (h : P_sd_grown a0a a0b a1) (hK : K0 (F_sd_grown_0 a0a a0b a1) (F_sd_grown_1 a0a a0b a1) (F_sd_grown_2 a0a a0b a1) (F_sd_grown_3 a0a a0b a1)) : B_sd_grown a0a a0b a1 K0  := by
  unfold B_sd_grown P_sd_grown F_sd_grown_0 F_sd_grown_1 F_sd_grown_2 F_sd_grown_3 at *
  simp only [Ts_iff, true_and]
  try simp only [Ts_iff, true_and] at h
  repeat' first
    | exact hK
    | (refine cond_intro (fun hc => ?_) (fun hc => ?_) <;> (try simp only [hc, cond_true, cond_false] at h) <;> (try simp only [hc, cond_true, cond_false] at hK) <;> (try simp only [hc, cond_true, cond_false]))
    | (refine ⟨rfl, ?_⟩)
    | (refine ⟨trivial, ?_⟩)
    | (refine ⟨by decide, ?_⟩)
    | (refine ⟨h.1, ?_⟩; replace h := h.2)
    | (refine ⟨h, ?_⟩)
    | (refine ⟨fun _ _ => rfl, ?_⟩)
/-! ### bagatelle/solid.Within -/
def B_sd_Within (a0a : Int) (a0b : Int) (a0c : Int) (a0d : Int) (a1a : Int) (a1b : Int) (K0 : Bool → Prop)  : Prop := Ts 5 (((P_sd_grown a1a a1b 0) ∧ ((P_sd_Meets a0a a0b a0c a0d (F_sd_grown_0 a1a a1b 0) (F_sd_grown_1 a1a a1b 0) (F_sd_grown_2 a1a a1b 0) (F_sd_grown_3 a1a a1b 0)) ∧ Ts 1 ((true = true ∧ K0 (F_sd_Meets_0 a0a a0b a0c a0d (F_sd_grown_0 a1a a1b 0) (F_sd_grown_1 a1a a1b 0) (F_sd_grown_2 a1a a1b 0) (F_sd_grown_3 a1a a1b 0)))))))
def P_sd_Within (a0a : Int) (a0b : Int) (a0c : Int) (a0d : Int) (a1a : Int) (a1b : Int) : Prop := (P_sd_Meets a0a a0b a0c a0d (F_sd_grown_0 a1a a1b 0) (F_sd_grown_1 a1a a1b 0) (F_sd_grown_2 a1a a1b 0) (F_sd_grown_3 a1a a1b 0))
def F_sd_Within_0 (a0a : Int) (a0b : Int) (a0c : Int) (a0d : Int) (a1a : Int) (a1b : Int) : Bool := (F_sd_Meets_0 a0a a0b a0c a0d (F_sd_grown_0 a1a a1b 0) (F_sd_grown_1 a1a a1b 0) (F_sd_grown_2 a1a a1b 0) (F_sd_grown_3 a1a a1b 0))
theorem H_sd_Within (a0a : Int) (a0b : Int) (a0c : Int) (a0d : Int) (a1a : Int) (a1b : Int) {K0 : Bool → Prop} (h : P_sd_Within a0a a0b a0c a0d a1a a1b) (hK : K0 (F_sd_Within_0 a0a a0b a0c a0d a1a a1b)) : B_sd_Within a0a a0b a0c a0d a1a a1b K0  := by
  unfold B_sd_Within P_sd_Within F_sd_Within_0 at *
  simp only [Ts_iff, true_and]
  try simp only [Ts_iff, true_and] at h
  repeat' first
    | exact hK
    | (refine cond_intro (fun hc => ?_) (fun hc => ?_) <;> (try simp only [hc, cond_true, cond_false] at h) <;> (try simp only [hc, cond_true, cond_false] at hK) <;> (try simp only [hc, cond_true, cond_false]))
    | (refine ⟨rfl, ?_⟩)
    | (refine ⟨trivial, ?_⟩)
    | (refine ⟨by decide, ?_⟩)
    | (refine ⟨h.1, ?_⟩; replace h := h.2)
    | (refine ⟨h, ?_⟩)
    | (refine ⟨fun _ _ => rfl, ?_⟩)
/-! ### bagatelle/bagatelleref03.Within -/
def B_r3_Within (a0a : Int) (a0b : Int) (a0c : Int) (a0d : Int) (a1a : Int) (a1b : Int) (K0 : Bool → Prop)  : Prop := Ts 4 (((P_r3_CheckBox a0a a0b a0c a0d) ∧ Ts 2 (cond (ieq (F_r3_CheckBox_0 a0a a0b a0c a0d) 0) (Ts 7 (cond (ige a1a a0a) (Ts 7 (cond (ile a1a a0c) (Ts 7 (cond (ige a1b a0b) (Ts 7 (K0 (ile a1b a0d))) (Ts 2 (K0 false)))) (Ts 4 (K0 false)))) (Ts 6 (K0 false)))) (Ts 8 (K0 false)))))
def P_r3_Within (a0a : Int) (a0b : Int) (a0c : Int) (a0d : Int) (a1a : Int) (a1b : Int) : Prop := True
def F_r3_Within_0 (a0a : Int) (a0b : Int) (a0c : Int) (a0d : Int) (a1a : Int) (a1b : Int) : Bool := (cond (ieq (F_r3_CheckBox_0 a0a a0b a0c a0d) 0) (cond (ige a1a a0a) (cond (ile a1a a0c) (cond (ige a1b a0b) (ile a1b a0d) false) false) false) false)
theorem H_r3_Within (a0a : Int) (a0b : Int) (a0c : Int) (a0d : Int) (a1a : Int) (a1b : Int) {K0 : Bool → Prop} (h : P_r3_Within a0a a0b a0c a0d a1a a1b) (hK : K0 (F_r3_Within_0 a0a a0b a0c a0d a1a a1b)) : B_r3_Within a0a a0b a0c a0d a1a a1b K0  := by
  unfold B_r3_Within P_r3_Within F_r3_Within_0 at *
  simp only [Ts_iff, true_and]
  try simp only [Ts_iff, true_and] at h
  repeat' first
    | exact hK
    | (refine cond_intro (fun hc => ?_) (fun hc => ?_) <;> (try simp only [hc, cond_true, cond_false] at h) <;> (try simp only [hc, cond_true, cond_false] at hK) <;> (try simp only [hc, cond_true, cond_false]))
    | (refine ⟨rfl, ?_⟩)
    | (refine ⟨trivial, ?_⟩)
    | (refine ⟨by decide, ?_⟩)
    | (refine ⟨h.1, ?_⟩; replace h := h.2)
    | (refine ⟨h, ?_⟩)
    | (refine ⟨fun _ _ => rfl, ?_⟩)
/-! ### bagatelle/solid.Join -/
def B_sd_Join_0 (a0n : Nat) (a0a : Nat → Int) (a0b : Nat → Int) (a0c : Nat → Int) (a0d : Nat → Int) (v0t8 : Int) (v0m10 : Int) (v0m11 : Int) (v0m12 : Int) (v0m13 : Int) (c : Int → Int → Int → Int → Int → Prop) (x0 : Int → Int → Int → Int → Int → Prop) (x1 : Int → Int → Int → Int → Int → Prop)  : Prop := Ts 1 (cond (ilt v0t8 ((a0n : Nat) : Int)) (Ts 1 (((0 ≤ v0t8 ∧ v0t8 < ((a0n : Nat) : Int)) ∧ Ts 5 (((P_sd_CheckBox (a0a (Int.toNat v0t8)) (a0b (Int.toNat v0t8)) (a0c (Int.toNat v0t8)) (a0d (Int.toNat v0t8))) ∧ Ts 1 (cond (ine (F_sd_CheckBox_0 (a0a (Int.toNat v0t8)) (a0b (Int.toNat v0t8)) (a0c (Int.toNat v0t8)) (a0d (Int.toNat v0t8))) 0) (Ts 2 (x1 v0t8 v0m10 v0m11 v0m12 v0m13)) (Ts 2 (cond (ieq v0t8 0) (Ts 16 ((true = true ∧ Ts 14 ((true = true ∧ Ts 2 (c (iadd .i64 v0t8 1) (imin (a0a (Int.toNat v0t8)) (a0a (Int.toNat v0t8))) (imin (a0b (Int.toNat v0t8)) (a0b (Int.toNat v0t8))) (imax (a0c (Int.toNat v0t8)) (a0c (Int.toNat v0t8))) (imax (a0d (Int.toNat v0t8)) (a0d (Int.toNat v0t8))))))))) (Ts 14 ((true = true ∧ Ts 14 ((true = true ∧ Ts 2 (c (iadd .i64 v0t8 1) (imin v0m10 (a0a (Int.toNat v0t8))) (imin v0m11 (a0b (Int.toNat v0t8))) (imax v0m12 (a0c (Int.toNat v0t8))) (imax v0m13 (a0d (Int.toNat v0t8))))))))))))))))) (x0 v0t8 v0m10 v0m11 v0m12 v0m13))
def W_sd_Join_0 (a0n : Nat) (a0a : Nat → Int) (a0b : Nat → Int) (a0c : Nat → Int) (a0d : Nat → Int) : Nat → Int → Int → Int → Int → Int → (Int → Int → Int → Int → Int → Prop) → (Int → Int → Int → Int → Int → Prop) → Prop
  | 0, _, _, _, _, _, _, _ => False
  | f + 1, w0, w1, w2, w3, w4, x0, x1 => B_sd_Join_0 a0n a0a a0b a0c a0d w0 w1 w2 w3 w4 (fun u0 u1 u2 u3 u4 => W_sd_Join_0 a0n a0a a0b a0c a0d f u0 u1 u2 u3 u4 x0 x1) x0 x1 
theorem BM_sd_Join_0 (a0n : Nat) (a0a : Nat → Int) (a0b : Nat → Int) (a0c : Nat → Int) (a0d : Nat → Int) (v0t8 : Int) (v0m10 : Int) (v0m11 : Int) (v0m12 : Int) (v0m13 : Int) {c c' : Int → Int → Int → Int → Int → Prop} {x0 y0 : Int → Int → Int → Int → Int → Prop} {x1 y1 : Int → Int → Int → Int → Int → Prop} (hc : ∀ w0 w1 w2 w3 w4, c w0 w1 w2 w3 w4 → c' w0 w1 w2 w3 w4) (h0 : ∀ o0 o1 o2 o3 o4, x0 o0 o1 o2 o3 o4 → y0 o0 o1 o2 o3 o4) (h1 : ∀ o0 o1 o2 o3 o4, x1 o0 o1 o2 o3 o4 → y1 o0 o1 o2 o3 o4) : B_sd_Join_0 a0n a0a a0b a0c a0d v0t8 v0m10 v0m11 v0m12 v0m13 c x0 x1  → B_sd_Join_0 a0n a0a a0b a0c a0d v0t8 v0m10 v0m11 v0m12 v0m13 c' y0 y1  := by
  unfold B_sd_Join_0
  repeat' first
    | exact hc _ _ _ _ _
    | exact h0 _ _ _ _ _
    | exact h1 _ _ _ _ _
    | refine Ts_imp ?_
    | refine cond_imp ?_ ?_
    | refine and_imp' ?_
theorem WM_sd_Join_0 (a0n : Nat) (a0a : Nat → Int) (a0b : Nat → Int) (a0c : Nat → Int) (a0d : Nat → Int) {x0 y0 : Int → Int → Int → Int → Int → Prop} {x1 y1 : Int → Int → Int → Int → Int → Prop} (h0 : ∀ o0 o1 o2 o3 o4, x0 o0 o1 o2 o3 o4 → y0 o0 o1 o2 o3 o4) (h1 : ∀ o0 o1 o2 o3 o4, x1 o0 o1 o2 o3 o4 → y1 o0 o1 o2 o3 o4) : ∀ (f : Nat) (v0t8 : Int) (v0m10 : Int) (v0m11 : Int) (v0m12 : Int) (v0m13 : Int), W_sd_Join_0 a0n a0a a0b a0c a0d f v0t8 v0m10 v0m11 v0m12 v0m13 x0 x1 → W_sd_Join_0 a0n a0a a0b a0c a0d f v0t8 v0m10 v0m11 v0m12 v0m13 y0 y1
  | 0, w0, w1, w2, w3, w4 => fun h => h
  | f + 1, w0, w1, w2, w3, w4 => BM_sd_Join_0 a0n a0a a0b a0c a0d w0 w1 w2 w3 w4 (fun u0 u1 u2 u3 u4 => WM_sd_Join_0 a0n a0a a0b a0c a0d h0 h1 f u0 u1 u2 u3 u4) h0 h1
def B_sd_Join (a0n : Nat) (a0a : Nat → Int) (a0b : Nat → Int) (a0c : Nat → Int) (a0d : Nat → Int) (K0 : Int → Int → Int → Int → Prop) (l0 : Int → Int → Int → Int → Int → (Int → Int → Int → Int → Int → Prop) → (Int → Int → Int → Int → Int → Prop) → Prop) : Prop := Ts 5 ((l0 0 0 0 0 0 (fun o0t8 o0m10 o0m11 o0m12 o0m13 => Ts 3 (K0 o0m10 o0m11 o0m12 o0m13)) (fun o0t8 o0m10 o0m11 o0m12 o0m13 => Ts 1 (K0 0 0 0 0))))
def minF (f : Nat → Int) : Nat → Int
  | 0 => 0
  | k + 1 => if k = 0 then f 0 else min (minF f k) (f k)
def maxF (f : Nat → Int) : Nat → Int
  | 0 => 0
  | k + 1 => if k = 0 then f 0 else max (maxF f k) (f k)
theorem minF_one (f : Nat → Int) : minF f 1 = f 0 := rfl
theorem maxF_one (f : Nat → Int) : maxF f 1 = f 0 := rfl
theorem minF_succ (f : Nat → Int) {k : Nat} (h : k ≠ 0) : minF f (k + 1) = min (minF f k) (f k) := by rw [minF, if_neg h]
theorem maxF_succ (f : Nat → Int) {k : Nat} (h : k ≠ 0) : maxF f (k + 1) = max (maxF f k) (f k) := by rw [maxF, if_neg h]
theorem minF_congr {f g : Nat → Int} : ∀ (n : Nat), (∀ k, k < n → f k = g k) → minF f n = minF g n
  | 0, _ => rfl
  | n + 1, h => by
    have := minF_congr n (fun k hk => h k (by omega))
    rw [minF, minF, this, h n (by omega)]
    split
    · exact h 0 (by omega)
    · rfl
theorem maxF_congr {f g : Nat → Int} : ∀ (n : Nat), (∀ k, k < n → f k = g k) → maxF f n = maxF g n
  | 0, _ => rfl
  | n + 1, h => by
    have := maxF_congr n (fun k hk => h k (by omega))
    rw [maxF, maxF, this, h n (by omega)]
    split
    · exact h 0 (by omega)
    · rfl
def P_sd_Join (n : Nat) (a b c d : Nat → Int) : Prop := n ≤ 1000000 ∧ ∀ k, k < n → P_sd_CheckBox (a k) (b k) (c k) (d k)
theorem W_sd_Join_ok {n : Nat} {a b c d : Nat → Int} (hp : P_sd_Join n a b c d) {x0 x1 : Int → Int → Int → Int → Int → Prop} : ∀ (f i : Nat), i ≤ n → n < f + i → ((∀ k, i ≤ k → k < n → F_sd_CheckBox_0 (a k) (b k) (c k) (d k) = 0) → ∀ v, x0 v (minF a n) (minF b n) (maxF c n) (maxF d n)) →
    (∀ k, k < n → F_sd_CheckBox_0 (a k) (b k) (c k) (d k) ≠ 0 → ∀ v m1 m2 m3 m4, x1 v m1 m2 m3 m4) → W_sd_Join_0 n a b c d f i (minF a i) (minF b i) (maxF c i) (maxF d i) x0 x1
  | 0, i, h1, h2, _, _ => by omega
  | f + 1, i, h1, h2, h3, h4 => by
    show B_sd_Join_0 n a b c d i _ _ _ _ _ _ _
    unfold B_sd_Join_0
    simp only [Ts_iff, true_and, Int.toNat_natCast, Nat.zero_add]
    refine cond_intro (fun hc => ?_) (fun hc => ?_)
    · rw [ilt_t] at hc
      have hi : i < n := by omega
      refine ⟨⟨by omega, hc⟩, hp.2 i hi, ?_⟩
      refine cond_intro (fun he => ?_) (fun he => ?_)
      · rw [ine_t] at he
        exact h4 i hi he _ _ _ _ _
      · rw [ine_f] at he
        have hn := hp.1
        have hrec := W_sd_Join_ok hp f (i + 1) (by omega) (by omega) (fun h => h3 fun k hk1 hk2 => (if hk : k = i then by subst hk; exact he else h k (by omega) hk2)) h4
        refine cond_intro (fun hz => ?_) (fun hz => ?_)
        · rw [ieq_t] at hz
          have : i = 0 := by omega
          subst this
          rw [iadd64 (by omega) (by omega)]
          simp only [imin_m, imax_m, Int.min_self, Int.max_self]
          exact hrec
        · rw [ieq_f] at hz
          have : i ≠ 0 := by omega
          rw [iadd64 (by omega) (by omega)]
          rw [minF_succ a this, minF_succ b this, maxF_succ c this, maxF_succ d this] at hrec
          simp only [imin_m, imax_m]
          exact hrec
    · rw [ilt_f] at hc
      have : i = n := by omega
      subst this
      exact h3 (fun k hk1 hk2 => by omega) _
def ok_sd_Join (n : Nat) (a b c d : Nat → Int) : Bool := (List.range n).all fun k => decide (F_sd_CheckBox_0 (a k) (b k) (c k) (d k) = 0)
theorem ok_sd_Join_iff {n : Nat} {a b c d : Nat → Int} : ok_sd_Join n a b c d = true ↔ ∀ k, k < n → F_sd_CheckBox_0 (a k) (b k) (c k) (d k) = 0 := by
  unfold ok_sd_Join
  rw [List.all_eq_true]
  exact ⟨fun h k hk => by simpa using h k (List.mem_range.2 hk), fun h k hk => by simpa using h k (List.mem_range.1 hk)⟩
def F_sd_Join_0 (n : Nat) (a b c d : Nat → Int) : Int := cond (ok_sd_Join n a b c d) (minF a n) 0
def F_sd_Join_1 (n : Nat) (a b c d : Nat → Int) : Int := cond (ok_sd_Join n a b c d) (minF b n) 0
def F_sd_Join_2 (n : Nat) (a b c d : Nat → Int) : Int := cond (ok_sd_Join n a b c d) (maxF c n) 0
def F_sd_Join_3 (n : Nat) (a b c d : Nat → Int) : Int := cond (ok_sd_Join n a b c d) (maxF d n) 0
theorem H_sd_Join (a0n : Nat) (a0a : Nat → Int) (a0b : Nat → Int) (a0c : Nat → Int) (a0d : Nat → Int) {K0 : Int → Int → Int → Int → Prop} (h : P_sd_Join a0n a0a a0b a0c a0d) (hK : K0 (F_sd_Join_0 a0n a0a a0b a0c a0d) (F_sd_Join_1 a0n a0a a0b a0c a0d) (F_sd_Join_2 a0n a0a a0b a0c a0d) (F_sd_Join_3 a0n a0a a0b a0c a0d)) : B_sd_Join a0n a0a a0b a0c a0d K0 (W_sd_Join_0 a0n a0a a0b a0c a0d fuel) := by
  unfold B_sd_Join
  simp only [Ts_iff, true_and]
  refine W_sd_Join_ok h fuel 0 (Nat.zero_le _) (by rw [fuel_eq]; have := h.1; omega) (fun hh v => ?_) (fun k hk hs v m1 m2 m3 m4 => ?_)
  · have : ok_sd_Join a0n a0a a0b a0c a0d = true := ok_sd_Join_iff.2 fun k hk => hh k (Nat.zero_le _) hk
    unfold F_sd_Join_0 F_sd_Join_1 F_sd_Join_2 F_sd_Join_3 at hK
    rw [this] at hK
    exact hK
  · have : ok_sd_Join a0n a0a a0b a0c a0d = false := by
      cases hf : ok_sd_Join a0n a0a a0b a0c a0d with
      | false => rfl
      | true => exact absurd (ok_sd_Join_iff.1 hf k hk) hs
    unfold F_sd_Join_0 F_sd_Join_1 F_sd_Join_2 F_sd_Join_3 at hK
    rw [this] at hK
    exact hK
/-! ### bagatelle/bagatelleref03.Join -/
def B_r3_Join_0 (a0n : Nat) (a0a : Nat → Int) (a0b : Nat → Int) (a0c : Nat → Int) (a0d : Nat → Int) (v0t4 : Int) (v0m10 : Int) (v0m11 : Int) (v0m12 : Int) (v0m13 : Int) (c : Int → Int → Int → Int → Int → Prop) (x0 : Int → Int → Int → Int → Int → Prop) (x1 : Int → Int → Int → Int → Int → Prop)  : Prop := Ts 4 (cond (ilt v0t4 ((a0n : Nat) : Int)) (Ts 2 (((0 ≤ v0t4 ∧ v0t4 < ((a0n : Nat) : Int)) ∧ Ts 1 (((P_r3_CheckBox (a0a (Int.toNat v0t4)) (a0b (Int.toNat v0t4)) (a0c (Int.toNat v0t4)) (a0d (Int.toNat v0t4))) ∧ Ts 1 (cond (ine (F_r3_CheckBox_0 (a0a (Int.toNat v0t4)) (a0b (Int.toNat v0t4)) (a0c (Int.toNat v0t4)) (a0d (Int.toNat v0t4))) 0) (Ts 2 (x1 v0t4 v0m10 v0m11 v0m12 v0m13)) (Ts 2 (cond (ieq v0t4 0) (Ts 1 (((0 ≤ (0 : Int) ∧ (0 : Int) < ((a0n : Nat) : Int)) ∧ Ts 5 (c (iadd .i64 v0t4 1) (a0a 0) (a0b 0) (a0c 0) (a0d 0))))) (Ts 4 (((0 ≤ v0t4 ∧ v0t4 < ((a0n : Nat) : Int)) ∧ Ts 7 (((0 ≤ v0t4 ∧ v0t4 < ((a0n : Nat) : Int)) ∧ Ts 7 (((0 ≤ v0t4 ∧ v0t4 < ((a0n : Nat) : Int)) ∧ Ts 7 (((0 ≤ v0t4 ∧ v0t4 < ((a0n : Nat) : Int)) ∧ Ts 5 ((true = true ∧ Ts 3 (c (iadd .i64 v0t4 1) (imin v0m10 (a0a (Int.toNat v0t4))) (imin v0m11 (a0b (Int.toNat v0t4))) (imax v0m12 (a0c (Int.toNat v0t4))) (imax v0m13 (a0d (Int.toNat v0t4))))))))))))))))))))))) (x0 v0t4 v0m10 v0m11 v0m12 v0m13))
def W_r3_Join_0 (a0n : Nat) (a0a : Nat → Int) (a0b : Nat → Int) (a0c : Nat → Int) (a0d : Nat → Int) : Nat → Int → Int → Int → Int → Int → (Int → Int → Int → Int → Int → Prop) → (Int → Int → Int → Int → Int → Prop) → Prop
  | 0, _, _, _, _, _, _, _ => False
  | f + 1, w0, w1, w2, w3, w4, x0, x1 => B_r3_Join_0 a0n a0a a0b a0c a0d w0 w1 w2 w3 w4 (fun u0 u1 u2 u3 u4 => W_r3_Join_0 a0n a0a a0b a0c a0d f u0 u1 u2 u3 u4 x0 x1) x0 x1 
theorem BM_r3_Join_0 (a0n : Nat) (a0a : Nat → Int) (a0b : Nat → Int) (a0c : Nat → Int) (a0d : Nat → Int) (v0t4 : Int) (v0m10 : Int) (v0m11 : Int) (v0m12 : Int) (v0m13 : Int) {c c' : Int → Int → Int → Int → Int → Prop} {x0 y0 : Int → Int → Int → Int → Int → Prop} {x1 y1 : Int → Int → Int → Int → Int → Prop} (hc : ∀ w0 w1 w2 w3 w4, c w0 w1 w2 w3 w4 → c' w0 w1 w2 w3 w4) (h0 : ∀ o0 o1 o2 o3 o4, x0 o0 o1 o2 o3 o4 → y0 o0 o1 o2 o3 o4) (h1 : ∀ o0 o1 o2 o3 o4, x1 o0 o1 o2 o3 o4 → y1 o0 o1 o2 o3 o4) : B_r3_Join_0 a0n a0a a0b a0c a0d v0t4 v0m10 v0m11 v0m12 v0m13 c x0 x1  → B_r3_Join_0 a0n a0a a0b a0c a0d v0t4 v0m10 v0m11 v0m12 v0m13 c' y0 y1  := by
  unfold B_r3_Join_0
  repeat' first
    | exact hc _ _ _ _ _
    | exact h0 _ _ _ _ _
    | exact h1 _ _ _ _ _
    | refine Ts_imp ?_
    | refine cond_imp ?_ ?_
    | refine and_imp' ?_
theorem WM_r3_Join_0 (a0n : Nat) (a0a : Nat → Int) (a0b : Nat → Int) (a0c : Nat → Int) (a0d : Nat → Int) {x0 y0 : Int → Int → Int → Int → Int → Prop} {x1 y1 : Int → Int → Int → Int → Int → Prop} (h0 : ∀ o0 o1 o2 o3 o4, x0 o0 o1 o2 o3 o4 → y0 o0 o1 o2 o3 o4) (h1 : ∀ o0 o1 o2 o3 o4, x1 o0 o1 o2 o3 o4 → y1 o0 o1 o2 o3 o4) : ∀ (f : Nat) (v0t4 : Int) (v0m10 : Int) (v0m11 : Int) (v0m12 : Int) (v0m13 : Int), W_r3_Join_0 a0n a0a a0b a0c a0d f v0t4 v0m10 v0m11 v0m12 v0m13 x0 x1 → W_r3_Join_0 a0n a0a a0b a0c a0d f v0t4 v0m10 v0m11 v0m12 v0m13 y0 y1
  | 0, w0, w1, w2, w3, w4 => fun h => h
  | f + 1, w0, w1, w2, w3, w4 => BM_r3_Join_0 a0n a0a a0b a0c a0d w0 w1 w2 w3 w4 (fun u0 u1 u2 u3 u4 => WM_r3_Join_0 a0n a0a a0b a0c a0d h0 h1 f u0 u1 u2 u3 u4) h0 h1
def B_r3_Join (a0n : Nat) (a0a : Nat → Int) (a0b : Nat → Int) (a0c : Nat → Int) (a0d : Nat → Int) (K0 : Int → Int → Int → Int → Prop) (l0 : Int → Int → Int → Int → Int → (Int → Int → Int → Int → Int → Prop) → (Int → Int → Int → Int → Int → Prop) → Prop) : Prop := Ts 5 ((l0 0 0 0 0 0 (fun o0t4 o0m10 o0m11 o0m12 o0m13 => Ts 3 (K0 o0m10 o0m11 o0m12 o0m13)) (fun o0t4 o0m10 o0m11 o0m12 o0m13 => Ts 1 (K0 0 0 0 0))))
def P_r3_Join (n : Nat) (a b c d : Nat → Int) : Prop := n ≤ 1000000
theorem W_r3_Join_ok {n : Nat} {a b c d : Nat → Int} (hp : P_r3_Join n a b c d) {x0 x1 : Int → Int → Int → Int → Int → Prop} : ∀ (f i : Nat), i ≤ n → n < f + i → ((∀ k, i ≤ k → k < n → F_r3_CheckBox_0 (a k) (b k) (c k) (d k) = 0) → ∀ v, x0 v (minF a n) (minF b n) (maxF c n) (maxF d n)) →
    (∀ k, k < n → F_r3_CheckBox_0 (a k) (b k) (c k) (d k) ≠ 0 → ∀ v m1 m2 m3 m4, x1 v m1 m2 m3 m4) → W_r3_Join_0 n a b c d f i (minF a i) (minF b i) (maxF c i) (maxF d i) x0 x1
  | 0, i, h1, h2, _, _ => by omega
  | f + 1, i, h1, h2, h3, h4 => by
    show B_r3_Join_0 n a b c d i _ _ _ _ _ _ _
    unfold B_r3_Join_0
    simp only [Ts_iff, true_and, Int.toNat_natCast, Nat.zero_add]
    refine cond_intro (fun hc => ?_) (fun hc => ?_)
    · rw [ilt_t] at hc
      have hi : i < n := by omega
      refine ⟨⟨by omega, hc⟩, trivial, ?_⟩
      refine cond_intro (fun he => ?_) (fun he => ?_)
      · rw [ine_t] at he
        exact h4 i hi he _ _ _ _ _
      · rw [ine_f] at he
        have hn := (show n ≤ 1000000 from hp)
        have hrec := W_r3_Join_ok hp f (i + 1) (by omega) (by omega) (fun h => h3 fun k hk1 hk2 => (if hk : k = i then by subst hk; exact he else h k (by omega) hk2)) h4
        refine cond_intro (fun hz => ?_) (fun hz => ?_)
        · rw [ieq_t] at hz
          have : i = 0 := by omega
          subst this
          rw [iadd64 (by omega) (by omega)]
          exact ⟨⟨by omega, hc⟩, hrec⟩
        · rw [ieq_f] at hz
          have : i ≠ 0 := by omega
          rw [iadd64 (by omega) (by omega)]
          rw [minF_succ a this, minF_succ b this, maxF_succ c this, maxF_succ d this] at hrec
          simp only [imin_m, imax_m]
          exact ⟨⟨by omega, hc⟩, ⟨by omega, hc⟩, ⟨by omega, hc⟩, ⟨by omega, hc⟩, hrec⟩
    · rw [ilt_f] at hc
      have : i = n := by omega
      subst this
      exact h3 (fun k hk1 hk2 => by omega) _
def ok_r3_Join (n : Nat) (a b c d : Nat → Int) : Bool := (List.range n).all fun k => decide (F_r3_CheckBox_0 (a k) (b k) (c k) (d k) = 0)
theorem ok_r3_Join_iff {n : Nat} {a b c d : Nat → Int} : ok_r3_Join n a b c d = true ↔ ∀ k, k < n → F_r3_CheckBox_0 (a k) (b k) (c k) (d k) = 0 := by
  unfold ok_r3_Join
  rw [List.all_eq_true]
  exact ⟨fun h k hk => by simpa using h k (List.mem_range.2 hk), fun h k hk => by simpa using h k (List.mem_range.1 hk)⟩
def F_r3_Join_0 (n : Nat) (a b c d : Nat → Int) : Int := cond (ok_r3_Join n a b c d) (minF a n) 0
def F_r3_Join_1 (n : Nat) (a b c d : Nat → Int) : Int := cond (ok_r3_Join n a b c d) (minF b n) 0
def F_r3_Join_2 (n : Nat) (a b c d : Nat → Int) : Int := cond (ok_r3_Join n a b c d) (maxF c n) 0
def F_r3_Join_3 (n : Nat) (a b c d : Nat → Int) : Int := cond (ok_r3_Join n a b c d) (maxF d n) 0
theorem H_r3_Join (a0n : Nat) (a0a : Nat → Int) (a0b : Nat → Int) (a0c : Nat → Int) (a0d : Nat → Int) {K0 : Int → Int → Int → Int → Prop} (h : P_r3_Join a0n a0a a0b a0c a0d) (hK : K0 (F_r3_Join_0 a0n a0a a0b a0c a0d) (F_r3_Join_1 a0n a0a a0b a0c a0d) (F_r3_Join_2 a0n a0a a0b a0c a0d) (F_r3_Join_3 a0n a0a a0b a0c a0d)) : B_r3_Join a0n a0a a0b a0c a0d K0 (W_r3_Join_0 a0n a0a a0b a0c a0d fuel) := by
  unfold B_r3_Join
  simp only [Ts_iff, true_and]
  refine W_r3_Join_ok h fuel 0 (Nat.zero_le _) (by rw [fuel_eq]; have := (show a0n ≤ 1000000 from h); omega) (fun hh v => ?_) (fun k hk hs v m1 m2 m3 m4 => ?_)
  · have : ok_r3_Join a0n a0a a0b a0c a0d = true := ok_r3_Join_iff.2 fun k hk => hh k (Nat.zero_le _) hk
    unfold F_r3_Join_0 F_r3_Join_1 F_r3_Join_2 F_r3_Join_3 at hK
    rw [this] at hK
    exact hK
  · have : ok_r3_Join a0n a0a a0b a0c a0d = false := by
      cases hf : ok_r3_Join a0n a0a a0b a0c a0d with
      | false => rfl
      | true => exact absurd (ok_r3_Join_iff.1 hf k hk) hs
    unfold F_r3_Join_0 F_r3_Join_1 F_r3_Join_2 F_r3_Join_3 at hK
    rw [this] at hK
    exact hK
/-! ### bagatelle/bagatelleref03.Grow -/
def B_r3_Grow (a0a : Int) (a0b : Int) (a0c : Int) (a0d : Int) (a1 : Int) (K0 : Int → Int → Int → Int → Prop)  : Prop := Ts 3 (((P_r3_CheckBox a0a a0b a0c a0d) ∧ Ts 2 (cond (ine (F_r3_CheckBox_0 a0a a0b a0c a0d) 0) (Ts 4 (K0 a0a a0b a0c a0d)) (Ts 3 (cond (ile a1 0) (Ts 3 (K0 a0a a0b a0c a0d)) (Ts 26 (K0 (imax (isub .i64 a0a (imin a1 4194304)) (-2097152)) (imax (isub .i64 a0b (imin a1 4194304)) (-2097152)) (imin (iadd .i64 a0c (imin a1 4194304)) 2097152) (imin (iadd .i64 a0d (imin a1 4194304)) 2097152))))))))
def P_r3_Grow (a0a : Int) (a0b : Int) (a0c : Int) (a0d : Int) (a1 : Int) : Prop := True
def F_r3_Grow_0 (a0a : Int) (a0b : Int) (a0c : Int) (a0d : Int) (a1 : Int) : Int := (cond (ine (F_r3_CheckBox_0 a0a a0b a0c a0d) 0) a0a (cond (ile a1 0) a0a (imax (isub .i64 a0a (imin a1 4194304)) (-2097152))))
def F_r3_Grow_1 (a0a : Int) (a0b : Int) (a0c : Int) (a0d : Int) (a1 : Int) : Int := (cond (ine (F_r3_CheckBox_0 a0a a0b a0c a0d) 0) a0b (cond (ile a1 0) a0b (imax (isub .i64 a0b (imin a1 4194304)) (-2097152))))
def F_r3_Grow_2 (a0a : Int) (a0b : Int) (a0c : Int) (a0d : Int) (a1 : Int) : Int := (cond (ine (F_r3_CheckBox_0 a0a a0b a0c a0d) 0) a0c (cond (ile a1 0) a0c (imin (iadd .i64 a0c (imin a1 4194304)) 2097152)))
def F_r3_Grow_3 (a0a : Int) (a0b : Int) (a0c : Int) (a0d : Int) (a1 : Int) : Int := (cond (ine (F_r3_CheckBox_0 a0a a0b a0c a0d) 0) a0d (cond (ile a1 0) a0d (imin (iadd .i64 a0d (imin a1 4194304)) 2097152)))
theorem H_r3_Grow (a0a : Int) (a0b : Int) (a0c : Int) (a0d : Int) (a1 : Int) {K0 : Int → Int → Int → Int → Prop} (h : P_r3_Grow a0a a0b a0c a0d a1) (hK : K0 (F_r3_Grow_0 a0a a0b a0c a0d a1) (F_r3_Grow_1 a0a a0b a0c a0d a1) (F_r3_Grow_2 a0a a0b a0c a0d a1) (F_r3_Grow_3 a0a a0b a0c a0d a1)) : B_r3_Grow a0a a0b a0c a0d a1 K0  := by
  unfold B_r3_Grow P_r3_Grow F_r3_Grow_0 F_r3_Grow_1 F_r3_Grow_2 F_r3_Grow_3 at *
  simp only [Ts_iff, true_and]
  try simp only [Ts_iff, true_and] at h
  repeat' first
    | exact hK
    | (refine cond_intro (fun hc => ?_) (fun hc => ?_) <;> (try simp only [hc, cond_true, cond_false] at h) <;> (try simp only [hc, cond_true, cond_false] at hK) <;> (try simp only [hc, cond_true, cond_false]))
    | (refine ⟨rfl, ?_⟩)
    | (refine ⟨trivial, ?_⟩)
    | (refine ⟨by decide, ?_⟩)
    | (refine ⟨h.1, ?_⟩; replace h := h.2)
    | (refine ⟨h, ?_⟩)
    | (refine ⟨fun _ _ => rfl, ?_⟩)
/-! ### bagatelle/bagatellelaw03.SolidBoxes -/
def B_lw_SolidBoxes_0 (a0a : Int) (a0b : Int) (a0c : Int) (a0d : Int) (a1a : Int) (a1b : Int) (a1c : Int) (a1d : Int) (a2a : Int) (a2b : Int) (a3 : Int) (a4n : Nat) (a4a : Nat → Int) (a4b : Nat → Int) (a4c : Nat → Int) (a4d : Nat → Int) (v0t11q : Bool) (v0t12 : Int) (v0b3n : Nat) (v0b3c0 : (Nat → Int)) (v0b3c1 : (Nat → Int)) (v0b3c2 : (Nat → Int)) (v0b3c3 : (Nat → Int)) (c : Bool → Int → Nat → (Nat → Int) → (Nat → Int) → (Nat → Int) → (Nat → Int) → Prop) (x0 : Bool → Int → Nat → (Nat → Int) → (Nat → Int) → (Nat → Int) → (Nat → Int) → Prop)  : Prop := Ts 4 (cond (ilt v0t12 ((a4n : Nat) : Int)) (Ts 3 (((0 ≤ v0t12 ∧ v0t12 < ((a4n : Nat) : Int)) ∧ Ts 2 ((((v0b3n + 1) * 32 ≤ 1000000000000 ∧ (v0b3n + 1) ≤ 1000000000000) ∧ Ts 4 (c false (iadd .i64 v0t12 1) (v0b3n + 1) (pushF v0b3n v0b3c0 (a4a (Int.toNat v0t12))) (pushF v0b3n v0b3c1 (a4b (Int.toNat v0t12))) (pushF v0b3n v0b3c2 (a4c (Int.toNat v0t12))) (pushF v0b3n v0b3c3 (a4d (Int.toNat v0t12))))))))) (x0 v0t11q v0t12 v0b3n v0b3c0 v0b3c1 v0b3c2 v0b3c3))
def W_lw_SolidBoxes_0 (a0a : Int) (a0b : Int) (a0c : Int) (a0d : Int) (a1a : Int) (a1b : Int) (a1c : Int) (a1d : Int) (a2a : Int) (a2b : Int) (a3 : Int) (a4n : Nat) (a4a : Nat → Int) (a4b : Nat → Int) (a4c : Nat → Int) (a4d : Nat → Int) : Nat → Bool → Int → Nat → (Nat → Int) → (Nat → Int) → (Nat → Int) → (Nat → Int) → (Bool → Int → Nat → (Nat → Int) → (Nat → Int) → (Nat → Int) → (Nat → Int) → Prop) → Prop
  | 0, _, _, _, _, _, _, _, _ => False
  | f + 1, w0, w1, w2, w3, w4, w5, w6, x0 => B_lw_SolidBoxes_0 a0a a0b a0c a0d a1a a1b a1c a1d a2a a2b a3 a4n a4a a4b a4c a4d w0 w1 w2 w3 w4 w5 w6 (fun u0 u1 u2 u3 u4 u5 u6 => W_lw_SolidBoxes_0 a0a a0b a0c a0d a1a a1b a1c a1d a2a a2b a3 a4n a4a a4b a4c a4d f u0 u1 u2 u3 u4 u5 u6 x0) x0 
theorem BM_lw_SolidBoxes_0 (a0a : Int) (a0b : Int) (a0c : Int) (a0d : Int) (a1a : Int) (a1b : Int) (a1c : Int) (a1d : Int) (a2a : Int) (a2b : Int) (a3 : Int) (a4n : Nat) (a4a : Nat → Int) (a4b : Nat → Int) (a4c : Nat → Int) (a4d : Nat → Int) (v0t11q : Bool) (v0t12 : Int) (v0b3n : Nat) (v0b3c0 : (Nat → Int)) (v0b3c1 : (Nat → Int)) (v0b3c2 : (Nat → Int)) (v0b3c3 : (Nat → Int)) {c c' : Bool → Int → Nat → (Nat → Int) → (Nat → Int) → (Nat → Int) → (Nat → Int) → Prop} {x0 y0 : Bool → Int → Nat → (Nat → Int) → (Nat → Int) → (Nat → Int) → (Nat → Int) → Prop} (hc : ∀ w0 w1 w2 w3 w4 w5 w6, c w0 w1 w2 w3 w4 w5 w6 → c' w0 w1 w2 w3 w4 w5 w6) (h0 : ∀ o0 o1 o2 o3 o4 o5 o6, x0 o0 o1 o2 o3 o4 o5 o6 → y0 o0 o1 o2 o3 o4 o5 o6) : B_lw_SolidBoxes_0 a0a a0b a0c a0d a1a a1b a1c a1d a2a a2b a3 a4n a4a a4b a4c a4d v0t11q v0t12 v0b3n v0b3c0 v0b3c1 v0b3c2 v0b3c3 c x0  → B_lw_SolidBoxes_0 a0a a0b a0c a0d a1a a1b a1c a1d a2a a2b a3 a4n a4a a4b a4c a4d v0t11q v0t12 v0b3n v0b3c0 v0b3c1 v0b3c2 v0b3c3 c' y0  := by
  unfold B_lw_SolidBoxes_0
  repeat' first
    | exact hc _ _ _ _ _ _ _
    | exact h0 _ _ _ _ _ _ _
    | refine Ts_imp ?_
    | refine cond_imp ?_ ?_
    | refine and_imp' ?_
theorem WM_lw_SolidBoxes_0 (a0a : Int) (a0b : Int) (a0c : Int) (a0d : Int) (a1a : Int) (a1b : Int) (a1c : Int) (a1d : Int) (a2a : Int) (a2b : Int) (a3 : Int) (a4n : Nat) (a4a : Nat → Int) (a4b : Nat → Int) (a4c : Nat → Int) (a4d : Nat → Int) {x0 y0 : Bool → Int → Nat → (Nat → Int) → (Nat → Int) → (Nat → Int) → (Nat → Int) → Prop} (h0 : ∀ o0 o1 o2 o3 o4 o5 o6, x0 o0 o1 o2 o3 o4 o5 o6 → y0 o0 o1 o2 o3 o4 o5 o6) : ∀ (f : Nat) (v0t11q : Bool) (v0t12 : Int) (v0b3n : Nat) (v0b3c0 : (Nat → Int)) (v0b3c1 : (Nat → Int)) (v0b3c2 : (Nat → Int)) (v0b3c3 : (Nat → Int)), W_lw_SolidBoxes_0 a0a a0b a0c a0d a1a a1b a1c a1d a2a a2b a3 a4n a4a a4b a4c a4d f v0t11q v0t12 v0b3n v0b3c0 v0b3c1 v0b3c2 v0b3c3 x0 → W_lw_SolidBoxes_0 a0a a0b a0c a0d a1a a1b a1c a1d a2a a2b a3 a4n a4a a4b a4c a4d f v0t11q v0t12 v0b3n v0b3c0 v0b3c1 v0b3c2 v0b3c3 y0
  | 0, w0, w1, w2, w3, w4, w5, w6 => fun h => h
  | f + 1, w0, w1, w2, w3, w4, w5, w6 => BM_lw_SolidBoxes_0 a0a a0b a0c a0d a1a a1b a1c a1d a2a a2b a3 a4n a4a a4b a4c a4d w0 w1 w2 w3 w4 w5 w6 (fun u0 u1 u2 u3 u4 u5 u6 => WM_lw_SolidBoxes_0 a0a a0b a0c a0d a1a a1b a1c a1d a2a a2b a3 a4n a4a a4b a4c a4d h0 f u0 u1 u2 u3 u4 u5 u6) h0
def B_lw_SolidBoxes_1 (a0a : Int) (a0b : Int) (a0c : Int) (a0d : Int) (a1a : Int) (a1b : Int) (a1c : Int) (a1d : Int) (a2a : Int) (a2b : Int) (a3 : Int) (a4n : Nat) (a4a : Nat → Int) (a4b : Nat → Int) (a4c : Nat → Int) (a4d : Nat → Int) (v1t11n : Nat) (v1t11q : Bool) (v1t11c0 : (Nat → Int)) (v1t11c1 : (Nat → Int)) (v1t11c2 : (Nat → Int)) (v1t11c3 : (Nat → Int)) (v1t13 : Int) (c : Nat → Bool → (Nat → Int) → (Nat → Int) → (Nat → Int) → (Nat → Int) → Int → Prop) (x0 : Nat → Bool → (Nat → Int) → (Nat → Int) → (Nat → Int) → (Nat → Int) → Int → Prop) (x1 : Nat → Bool → (Nat → Int) → (Nat → Int) → (Nat → Int) → (Nat → Int) → Int → Prop)  : Prop := Ts 4 (cond (ilt v1t13 ((a4n : Nat) : Int)) (Ts 2 (((0 ≤ v1t13 ∧ v1t13 < ((v1t11n : Nat) : Int)) ∧ Ts 3 (((0 ≤ v1t13 ∧ v1t13 < ((a4n : Nat) : Int)) ∧ Ts 2 ((true = true ∧ cond (!((ieq (v1t11c0 (Int.toNat v1t13)) (a4a (Int.toNat v1t13))) && ((ieq (v1t11c1 (Int.toNat v1t13)) (a4b (Int.toNat v1t13))) && ((ieq (v1t11c2 (Int.toNat v1t13)) (a4c (Int.toNat v1t13))) && (ieq (v1t11c3 (Int.toNat v1t13)) (a4d (Int.toNat v1t13))))))) (Ts 1 (x1 v1t11n v1t11q v1t11c0 v1t11c1 v1t11c2 v1t11c3 v1t13)) (Ts 3 (c v1t11n v1t11q v1t11c0 v1t11c1 v1t11c2 v1t11c3 (iadd .i64 v1t13 1)))))))))) (x0 v1t11n v1t11q v1t11c0 v1t11c1 v1t11c2 v1t11c3 v1t13))
def W_lw_SolidBoxes_1 (a0a : Int) (a0b : Int) (a0c : Int) (a0d : Int) (a1a : Int) (a1b : Int) (a1c : Int) (a1d : Int) (a2a : Int) (a2b : Int) (a3 : Int) (a4n : Nat) (a4a : Nat → Int) (a4b : Nat → Int) (a4c : Nat → Int) (a4d : Nat → Int) : Nat → Nat → Bool → (Nat → Int) → (Nat → Int) → (Nat → Int) → (Nat → Int) → Int → (Nat → Bool → (Nat → Int) → (Nat → Int) → (Nat → Int) → (Nat → Int) → Int → Prop) → (Nat → Bool → (Nat → Int) → (Nat → Int) → (Nat → Int) → (Nat → Int) → Int → Prop) → Prop
  | 0, _, _, _, _, _, _, _, _, _ => False
  | f + 1, w0, w1, w2, w3, w4, w5, w6, x0, x1 => B_lw_SolidBoxes_1 a0a a0b a0c a0d a1a a1b a1c a1d a2a a2b a3 a4n a4a a4b a4c a4d w0 w1 w2 w3 w4 w5 w6 (fun u0 u1 u2 u3 u4 u5 u6 => W_lw_SolidBoxes_1 a0a a0b a0c a0d a1a a1b a1c a1d a2a a2b a3 a4n a4a a4b a4c a4d f u0 u1 u2 u3 u4 u5 u6 x0 x1) x0 x1 
theorem BM_lw_SolidBoxes_1 (a0a : Int) (a0b : Int) (a0c : Int) (a0d : Int) (a1a : Int) (a1b : Int) (a1c : Int) (a1d : Int) (a2a : Int) (a2b : Int) (a3 : Int) (a4n : Nat) (a4a : Nat → Int) (a4b : Nat → Int) (a4c : Nat → Int) (a4d : Nat → Int) (v1t11n : Nat) (v1t11q : Bool) (v1t11c0 : (Nat → Int)) (v1t11c1 : (Nat → Int)) (v1t11c2 : (Nat → Int)) (v1t11c3 : (Nat → Int)) (v1t13 : Int) {c c' : Nat → Bool → (Nat → Int) → (Nat → Int) → (Nat → Int) → (Nat → Int) → Int → Prop} {x0 y0 : Nat → Bool → (Nat → Int) → (Nat → Int) → (Nat → Int) → (Nat → Int) → Int → Prop} {x1 y1 : Nat → Bool → (Nat → Int) → (Nat → Int) → (Nat → Int) → (Nat → Int) → Int → Prop} (hc : ∀ w0 w1 w2 w3 w4 w5 w6, c w0 w1 w2 w3 w4 w5 w6 → c' w0 w1 w2 w3 w4 w5 w6) (h0 : ∀ o0 o1 o2 o3 o4 o5 o6, x0 o0 o1 o2 o3 o4 o5 o6 → y0 o0 o1 o2 o3 o4 o5 o6) (h1 : ∀ o0 o1 o2 o3 o4 o5 o6, x1 o0 o1 o2 o3 o4 o5 o6 → y1 o0 o1 o2 o3 o4 o5 o6) : B_lw_SolidBoxes_1 a0a a0b a0c a0d a1a a1b a1c a1d a2a a2b a3 a4n a4a a4b a4c a4d v1t11n v1t11q v1t11c0 v1t11c1 v1t11c2 v1t11c3 v1t13 c x0 x1  → B_lw_SolidBoxes_1 a0a a0b a0c a0d a1a a1b a1c a1d a2a a2b a3 a4n a4a a4b a4c a4d v1t11n v1t11q v1t11c0 v1t11c1 v1t11c2 v1t11c3 v1t13 c' y0 y1  := by
  unfold B_lw_SolidBoxes_1
  repeat' first
    | exact hc _ _ _ _ _ _ _
    | exact h0 _ _ _ _ _ _ _
    | exact h1 _ _ _ _ _ _ _
    | refine Ts_imp ?_
    | refine cond_imp ?_ ?_
    | refine and_imp' ?_
theorem WM_lw_SolidBoxes_1 (a0a : Int) (a0b : Int) (a0c : Int) (a0d : Int) (a1a : Int) (a1b : Int) (a1c : Int) (a1d : Int) (a2a : Int) (a2b : Int) (a3 : Int) (a4n : Nat) (a4a : Nat → Int) (a4b : Nat → Int) (a4c : Nat → Int) (a4d : Nat → Int) {x0 y0 : Nat → Bool → (Nat → Int) → (Nat → Int) → (Nat → Int) → (Nat → Int) → Int → Prop} {x1 y1 : Nat → Bool → (Nat → Int) → (Nat → Int) → (Nat → Int) → (Nat → Int) → Int → Prop} (h0 : ∀ o0 o1 o2 o3 o4 o5 o6, x0 o0 o1 o2 o3 o4 o5 o6 → y0 o0 o1 o2 o3 o4 o5 o6) (h1 : ∀ o0 o1 o2 o3 o4 o5 o6, x1 o0 o1 o2 o3 o4 o5 o6 → y1 o0 o1 o2 o3 o4 o5 o6) : ∀ (f : Nat) (v1t11n : Nat) (v1t11q : Bool) (v1t11c0 : (Nat → Int)) (v1t11c1 : (Nat → Int)) (v1t11c2 : (Nat → Int)) (v1t11c3 : (Nat → Int)) (v1t13 : Int), W_lw_SolidBoxes_1 a0a a0b a0c a0d a1a a1b a1c a1d a2a a2b a3 a4n a4a a4b a4c a4d f v1t11n v1t11q v1t11c0 v1t11c1 v1t11c2 v1t11c3 v1t13 x0 x1 → W_lw_SolidBoxes_1 a0a a0b a0c a0d a1a a1b a1c a1d a2a a2b a3 a4n a4a a4b a4c a4d f v1t11n v1t11q v1t11c0 v1t11c1 v1t11c2 v1t11c3 v1t13 y0 y1
  | 0, w0, w1, w2, w3, w4, w5, w6 => fun h => h
  | f + 1, w0, w1, w2, w3, w4, w5, w6 => BM_lw_SolidBoxes_1 a0a a0b a0c a0d a1a a1b a1c a1d a2a a2b a3 a4n a4a a4b a4c a4d w0 w1 w2 w3 w4 w5 w6 (fun u0 u1 u2 u3 u4 u5 u6 => WM_lw_SolidBoxes_1 a0a a0b a0c a0d a1a a1b a1c a1d a2a a2b a3 a4n a4a a4b a4c a4d h0 h1 f u0 u1 u2 u3 u4 u5 u6) h0 h1
def B_lw_SolidBoxes (a0a : Int) (a0b : Int) (a0c : Int) (a0d : Int) (a1a : Int) (a1b : Int) (a1c : Int) (a1d : Int) (a2a : Int) (a2b : Int) (a3 : Int) (a4n : Nat) (a4a : Nat → Int) (a4b : Nat → Int) (a4c : Nat → Int) (a4d : Nat → Int) (K0 : Bool → Prop) (l0 : Bool → Int → Nat → (Nat → Int) → (Nat → Int) → (Nat → Int) → (Nat → Int) → (Bool → Int → Nat → (Nat → Int) → (Nat → Int) → (Nat → Int) → (Nat → Int) → Prop) → Prop) (l1 : Nat → Bool → (Nat → Int) → (Nat → Int) → (Nat → Int) → (Nat → Int) → Int → (Nat → Bool → (Nat → Int) → (Nat → Int) → (Nat → Int) → (Nat → Int) → Int → Prop) → (Nat → Bool → (Nat → Int) → (Nat → Int) → (Nat → Int) → (Nat → Int) → Int → Prop) → Prop) : Prop := Ts 7 (cond (igt ((a4n : Nat) : Int) 12) (((P_lw_awake ) ∧ Ts 1 (K0 F_lw_awake_0))) (Ts 2 ((l0 true 0 0 (fun _ => 0) (fun _ => 0) (fun _ => 0) (fun _ => 0) (fun o0t11q o0t12 o0b3n o0b3c0 o0b3c1 o0b3c2 o0b3c3 => Ts 1 (((P_sd_CheckBox a0a a0b a0c a0d) ∧ Ts 1 (((P_r3_CheckBox a0a a0b a0c a0d) ∧ Ts 2 (cond (ine (F_sd_CheckBox_0 a0a a0b a0c a0d) (F_r3_CheckBox_0 a0a a0b a0c a0d)) (Ts 7 ((true = true ∧ Ts 1 (K0 false)))) (Ts 2 (((P_sd_Meets a0a a0b a0c a0d a1a a1b a1c a1d) ∧ Ts 2 (((P_r3_Meets a0a a0b a0c a0d a1a a1b a1c a1d) ∧ Ts 3 (cond (!(beqB (F_sd_Meets_0 a0a a0b a0c a0d a1a a1b a1c a1d) (F_r3_Meets_0 a0a a0b a0c a0d a1a a1b a1c a1d))) (Ts 5 ((true = true ∧ Ts 1 (K0 false)))) (Ts 2 (((P_sd_Within a0a a0b a0c a0d a2a a2b) ∧ Ts 2 (((P_r3_Within a0a a0b a0c a0d a2a a2b) ∧ Ts 3 (cond (!(beqB (F_sd_Within_0 a0a a0b a0c a0d a2a a2b) (F_r3_Within_0 a0a a0b a0c a0d a2a a2b))) (Ts 3 ((true = true ∧ Ts 1 (K0 false)))) (Ts 1 (((P_sd_Join o0b3n o0b3c0 o0b3c1 o0b3c2 o0b3c3) ∧ Ts 1 (((P_r3_Join a4n a4a a4b a4c a4d) ∧ Ts 3 (cond (!((ieq (F_sd_Join_0 o0b3n o0b3c0 o0b3c1 o0b3c2 o0b3c3) (F_r3_Join_0 a4n a4a a4b a4c a4d)) && ((ieq (F_sd_Join_1 o0b3n o0b3c0 o0b3c1 o0b3c2 o0b3c3) (F_r3_Join_1 a4n a4a a4b a4c a4d)) && ((ieq (F_sd_Join_2 o0b3n o0b3c0 o0b3c1 o0b3c2 o0b3c3) (F_r3_Join_2 a4n a4a a4b a4c a4d)) && (ieq (F_sd_Join_3 o0b3n o0b3c0 o0b3c1 o0b3c2 o0b3c3) (F_r3_Join_3 a4n a4a a4b a4c a4d)))))) (Ts 1 ((true = true ∧ Ts 1 (K0 false)))) (Ts 2 (((P_sd_Grow a0a a0b a0c a0d a3) ∧ Ts 2 (((P_r3_Grow a0a a0b a0c a0d a3) ∧ Ts 2 ((true = true ∧ cond (!((ieq (F_sd_Grow_0 a0a a0b a0c a0d a3) (F_r3_Grow_0 a0a a0b a0c a0d a3)) && ((ieq (F_sd_Grow_1 a0a a0b a0c a0d a3) (F_r3_Grow_1 a0a a0b a0c a0d a3)) && ((ieq (F_sd_Grow_2 a0a a0b a0c a0d a3) (F_r3_Grow_2 a0a a0b a0c a0d a3)) && (ieq (F_sd_Grow_3 a0a a0b a0c a0d a3) (F_r3_Grow_3 a0a a0b a0c a0d a3)))))) (Ts 1 (K0 false)) (Ts 1 ((l1 o0b3n o0t11q o0b3c0 o0b3c1 o0b3c2 o0b3c3 0 (fun o1t11n o1t11q o1t11c0 o1t11c1 o1t11c2 o1t11c3 o1t13 => ((P_lw_awake ) ∧ Ts 1 (K0 F_lw_awake_0))) (fun o1t11n o1t11q o1t11c0 o1t11c1 o1t11c2 o1t11c3 o1t13 => K0 false)))))))))))))))))))))))))))))))))))))))
/-! ### Boxes in plain words -/
theorem fair2 (a b c d : Int) : F_sd_fair_0 2 (pushF 1 (fun _ => a) c) (pushF 1 (fun _ => b) d) = (spotOK a b && spotOK c d) := by
  unfold F_sd_fair_0 spotsOK
  rw [show List.range 2 = [0, 1] from rfl]
  simp only [List.all_cons, List.all_nil, Bool.and_true]
  rfl
theorem fairP2 {a b c d : Int} (h1 : I64 a) (h2 : I64 b) (h3 : I64 c) (h4 : I64 d) : P_sd_fair 2 (pushF 1 (fun _ => a) c) (pushF 1 (fun _ => b) d) := by
  refine ⟨by omega, fun k hk => ?_⟩
  have : k = 0 ∨ k = 1 := by omega
  rcases this with rfl | rfl
  · exact ⟨h1, h2⟩
  · exact ⟨h3, h4⟩
theorem fair3 (a b c d e f : Int) : F_sd_fair_0 3 (appF 1 (fun _ => a) (pushF 1 (fun _ => c) e)) (appF 1 (fun _ => b) (pushF 1 (fun _ => d) f)) = (spotOK a b && spotOK c d && spotOK e f) := by
  unfold F_sd_fair_0 spotsOK
  rw [show List.range 3 = [0, 1, 2] from rfl]
  simp only [List.all_cons, List.all_nil, Bool.and_true]
  rw [Bool.and_assoc]
  rfl
theorem fairP3 {a b c d e f : Int} (h1 : I64 a) (h2 : I64 b) (h3 : I64 c) (h4 : I64 d) (h5 : I64 e) (h6 : I64 f) : P_sd_fair 3 (appF 1 (fun _ => a) (pushF 1 (fun _ => c) e)) (appF 1 (fun _ => b) (pushF 1 (fun _ => d) f)) := by
  refine ⟨by omega, fun k hk => ?_⟩
  have : k = 0 ∨ k = 1 ∨ k = 2 := by omega
  rcases this with rfl | rfl | rfl
  · exact ⟨h1, h2⟩
  · exact ⟨h3, h4⟩
  · exact ⟨h5, h6⟩
theorem cond_tt {b x y : Bool} : (cond b x y = true) ↔ ((b = true ∧ x = true) ∨ (b = false ∧ y = true)) := by cases b <;> simp
def boxIn (a b c d : Int) : Prop := (-2097152 ≤ a ∧ a ≤ 2097152 ∧ -2097152 ≤ b ∧ b ≤ 2097152) ∧ (-2097152 ≤ c ∧ c ≤ 2097152 ∧ -2097152 ≤ d ∧ d ≤ 2097152)
instance (a b c d : Int) : Decidable (boxIn a b c d) := by unfold boxIn; infer_instance
theorem checkP {a b c d : Int} (h1 : I64 a) (h2 : I64 b) (h3 : I64 c) (h4 : I64 d) : P_sd_CheckBox a b c d := fairP2 h1 h2 h3 h4
theorem check_sd (a b c d : Int) : (F_sd_CheckBox_0 a b c d = 3 ∧ ¬ boxIn a b c d) ∨ (F_sd_CheckBox_0 a b c d = 5 ∧ boxIn a b c d ∧ (c < a ∨ d < b)) ∨ (F_sd_CheckBox_0 a b c d = 0 ∧ boxIn a b c d ∧ a ≤ c ∧ b ≤ d) := by
  unfold F_sd_CheckBox_0 boxIn
  rw [fair2]
  cases h : (spotOK a b && spotOK c d) with
  | false =>
    left
    refine ⟨rfl, fun ⟨h1, h2⟩ => ?_⟩
    rw [spotOK_iff.2 h1, spotOK_iff.2 h2] at h
    cases h
  | true =>
    right
    rw [Bool.and_eq_true, spotOK_iff, spotOK_iff] at h
    cases h1 : igt a c with
    | true => rw [igt_t] at h1; exact .inl ⟨rfl, h, .inl h1⟩
    | false =>
      rw [igt_f] at h1
      cases h2 : igt b d with
      | true => rw [igt_t] at h2; exact .inl ⟨rfl, h, .inr h2⟩
      | false => rw [igt_f] at h2; exact .inr ⟨rfl, h, h1, h2⟩
theorem valid_iff (a b : Int) : F_r3_valid_0 a b = true ↔ (-2097152 ≤ a ∧ a ≤ 2097152 ∧ -2097152 ≤ b ∧ b ≤ 2097152) := by
  unfold F_r3_valid_0
  simp only [cond_tt, ige_t, ile_t, ige_f, ile_f, Bool.false_eq_true, and_false, or_false]
  all_goals omega
theorem check_r3 (a b c d : Int) : (F_r3_CheckBox_0 a b c d = 3 ∧ ¬ boxIn a b c d) ∨ (F_r3_CheckBox_0 a b c d = 5 ∧ boxIn a b c d ∧ (c < a ∨ d < b)) ∨ (F_r3_CheckBox_0 a b c d = 0 ∧ boxIn a b c d ∧ a ≤ c ∧ b ≤ d) := by
  unfold F_r3_CheckBox_0 boxIn
  have e1 := valid_iff a b
  have e2 := valid_iff c d
  cases h1 : F_r3_valid_0 a b with
  | false => rw [h1] at e1; left; exact ⟨rfl, fun h => by have := e1.2 h.1; cases this⟩
  | true =>
    rw [h1] at e1
    have e1 := e1.1 rfl
    cases h2 : F_r3_valid_0 c d with
    | false => rw [h2] at e2; left; exact ⟨rfl, fun h => by have := e2.2 h.2; cases this⟩
    | true =>
      rw [h2] at e2
      have e2 := e2.1 rfl
      right
      cases h1 : igt a c with
      | true => rw [igt_t] at h1; exact .inl ⟨rfl, ⟨e1, e2⟩, .inl h1⟩
      | false =>
        rw [igt_f] at h1
        cases h2 : igt b d with
        | true => rw [igt_t] at h2; exact .inl ⟨rfl, ⟨e1, e2⟩, .inr h2⟩
        | false => rw [igt_f] at h2; exact .inr ⟨rfl, ⟨e1, e2⟩, h1, h2⟩
theorem check_eq (a b c d : Int) : F_sd_CheckBox_0 a b c d = F_r3_CheckBox_0 a b c d := by
  rcases check_sd a b c d with ⟨h1, h2⟩ | ⟨h1, h2, h3⟩ | ⟨h1, h2, h3⟩ <;> rcases check_r3 a b c d with ⟨g1, g2⟩ | ⟨g1, g2, g3⟩ | ⟨g1, g2, g3⟩ <;> rw [h1, g1] <;> exfalso <;>
    first | exact h2 g2 | exact g2 h2 | omega
theorem check_0 (a b c d : Int) : F_sd_CheckBox_0 a b c d = 0 ↔ (boxIn a b c d ∧ a ≤ c ∧ b ≤ d) := by
  rcases check_sd a b c d with ⟨h1, h2⟩ | ⟨h1, h2, h3⟩ | ⟨h1, h2, h3⟩ <;> rw [h1]
  · exact ⟨fun h => by omega, fun h => absurd h.1 h2⟩
  · exact ⟨fun h => by omega, fun h => by omega⟩
  · exact ⟨fun _ => ⟨h2, h3⟩, fun _ => rfl⟩
theorem bool_eq {x y : Bool} {p q : Prop} (hx : x = true ↔ p) (hy : y = true ↔ q) (h : p ↔ q) : x = y := by
  rw [Bool.eq_iff_iff, hx, hy, h]
def okBox (a b c d : Int) : Prop := boxIn a b c d ∧ a ≤ c ∧ b ≤ d
theorem meets_sd (a b c d e f g h : Int) : F_sd_Meets_0 a b c d e f g h = true ↔ (okBox a b c d ∧ okBox e f g h ∧ a ≤ g ∧ e ≤ c ∧ b ≤ h ∧ f ≤ d) := by
  unfold F_sd_Meets_0 okBox
  simp only [cond_tt, ine_t, ine_f, ile_t, ile_f, check_0, imax_m, imin_m, Bool.false_eq_true, and_false, or_false, false_or]
  all_goals unfold boxIn
  all_goals omega
theorem meets_r3 (a b c d e f g h : Int) : F_r3_Meets_0 a b c d e f g h = true ↔ (okBox a b c d ∧ okBox e f g h ∧ a ≤ g ∧ e ≤ c ∧ b ≤ h ∧ f ≤ d) := by
  unfold F_r3_Meets_0 okBox
  simp only [cond_tt, ieq_t, ieq_f, ile_t, ile_f, ← check_eq, check_0, Bool.false_eq_true, and_false, or_false, false_or]
  all_goals unfold boxIn
  all_goals omega
theorem within_sd (a b c d x y : Int) (hx : I64 x) (hy : I64 y) : F_sd_Within_0 a b c d x y = true ↔ (okBox a b c d ∧ a ≤ x ∧ x ≤ c ∧ b ≤ y ∧ y ≤ d) := by
  unfold F_sd_Within_0 F_sd_grown_0 F_sd_grown_1 F_sd_grown_2 F_sd_grown_3
  unfold I64 at hx hy
  rw [isub64 (by omega) (by omega), isub64 (by omega) (by omega), iadd64 (by omega) (by omega), iadd64 (by omega) (by omega), meets_sd]
  unfold okBox boxIn
  omega
theorem within_r3 (a b c d x y : Int) : F_r3_Within_0 a b c d x y = true ↔ (okBox a b c d ∧ a ≤ x ∧ x ≤ c ∧ b ≤ y ∧ y ≤ d) := by
  unfold F_r3_Within_0 okBox
  simp only [cond_tt, ieq_t, ieq_f, ige_t, ige_f, ile_t, ile_f, ← check_eq, check_0, Bool.false_eq_true, and_false, or_false, false_or]
  all_goals unfold boxIn
  all_goals omega
theorem grow_sd (a b c d r : Int) : (F_sd_Grow_0 a b c d r, F_sd_Grow_1 a b c d r, F_sd_Grow_2 a b c d r, F_sd_Grow_3 a b c d r) =
    if boxIn a b c d ∧ a ≤ c ∧ b ≤ d then (max (a - max 0 (min r 4194304)) (-2097152), max (b - max 0 (min r 4194304)) (-2097152), min (c + max 0 (min r 4194304)) 2097152, min (d + max 0 (min r 4194304)) 2097152) else (a, b, c, d) := by
  unfold F_sd_Grow_0 F_sd_Grow_1 F_sd_Grow_2 F_sd_Grow_3
  cases h : ine (F_sd_CheckBox_0 a b c d) 0 with
  | true => rw [ine_t, check_0] at h; rw [if_neg h]; rfl
  | false =>
    rw [ine_f, check_0] at h
    rw [if_pos h]
    unfold boxIn at h
    simp only [cond_false, imax_m, imin_m]
    rw [isub64 (by omega) (by omega), isub64 (by omega) (by omega), iadd64 (by omega) (by omega), iadd64 (by omega) (by omega)]
theorem grow_r3 (a b c d r : Int) (hr : I64 r) : (F_r3_Grow_0 a b c d r, F_r3_Grow_1 a b c d r, F_r3_Grow_2 a b c d r, F_r3_Grow_3 a b c d r) =
    if boxIn a b c d ∧ a ≤ c ∧ b ≤ d then (max (a - max 0 (min r 4194304)) (-2097152), max (b - max 0 (min r 4194304)) (-2097152), min (c + max 0 (min r 4194304)) 2097152, min (d + max 0 (min r 4194304)) 2097152) else (a, b, c, d) := by
  unfold F_r3_Grow_0 F_r3_Grow_1 F_r3_Grow_2 F_r3_Grow_3
  rw [← check_eq]
  cases h : ine (F_sd_CheckBox_0 a b c d) 0 with
  | true => rw [ine_t, check_0] at h; rw [if_neg h]; rfl
  | false =>
    rw [ine_f, check_0] at h
    rw [if_pos h]
    unfold boxIn at h
    cases h0 : ile r 0 with
    | true =>
      rw [ile_t] at h0
      simp only [cond_false, cond_true, Prod.mk.injEq]
      omega
    | false =>
      rw [ile_f] at h0
      simp only [cond_false, imax_m, imin_m]
      rw [isub64 (by omega) (by omega), isub64 (by omega) (by omega), iadd64 (by omega) (by omega), iadd64 (by omega) (by omega)]
      simp only [Prod.mk.injEq]
      omega
theorem grow_eq (a b c d r : Int) (hr : I64 r) : F_sd_Grow_0 a b c d r = F_r3_Grow_0 a b c d r ∧ F_sd_Grow_1 a b c d r = F_r3_Grow_1 a b c d r ∧ F_sd_Grow_2 a b c d r = F_r3_Grow_2 a b c d r ∧ F_sd_Grow_3 a b c d r = F_r3_Grow_3 a b c d r := by
  have := (grow_sd a b c d r).trans (grow_r3 a b c d r hr).symm
  simpa only [Prod.mk.injEq] using this
theorem i64_small {x : Int} (h1 : -2305843009213693952 ≤ x) (h2 : x ≤ 2305843009213693952) : I64 x := by unfold I64; omega
theorem side_pos : F_sd_Side_0 0 0 1 0 0 1 = 1 := by
  unfold F_sd_Side_0
  rw [fair3]
  have h1 : spotOK 0 0 = true := by rw [spotOK_iff]; omega
  have h2 : spotOK 1 0 = true := by rw [spotOK_iff]; omega
  have h3 : spotOK 0 1 = true := by rw [spotOK_iff]; omega
  rw [h1, h2, h3]
  unfold F_sd_turn_0 F_sd_cross_0 F_sd_way_0 F_sd_way_1
  have h : igt (isub .i64 (imul .i64 (isub .i64 1 0) (isub .i64 1 0)) (imul .i64 (isub .i64 0 0) (isub .i64 0 0))) 0 = true := by
    have e0 : isub .i64 0 0 = 0 := by rw [isub64] <;> omega
    have e1 : isub .i64 1 0 = 1 := by rw [isub64] <;> omega
    have e2 : imul .i64 0 0 = 0 := by rw [imul64] <;> omega
    have e3 : imul .i64 1 1 = 1 := by rw [imul64] <;> omega
    rw [e0, e1, e2, e3, e1, igt_t]
    omega
  rw [h]
  rfl
theorem awakeP : P_lw_awake := by
  refine ⟨fairP3 ?_ ?_ ?_ ?_ ?_ ?_, cond_intro (fun _ => checkP ?_ ?_ ?_ ?_) (fun _ => trivial)⟩ <;> exact i64_small (by omega) (by omega)
theorem awake_true : F_lw_awake_0 = true := by
  unfold F_lw_awake_0
  rw [side_pos]
  have h := grow_sd 0 0 1 1 2
  rw [if_pos (by unfold boxIn; omega)] at h
  simp only [Prod.mk.injEq] at h
  obtain ⟨h1, h2, h3, h4⟩ := h
  rw [h1, h2, h3, h4]
  simp only [Bool.cond_eq_ite, ieq_t, if_true, Bool.and_eq_true]
  omega
theorem join_congr {n : Nat} {a b c d a' b' c' d' : Nat → Int} (h : ∀ k, k < n → a k = a' k ∧ b k = b' k ∧ c k = c' k ∧ d k = d' k) :
    F_sd_Join_0 n a b c d = F_r3_Join_0 n a' b' c' d' ∧ F_sd_Join_1 n a b c d = F_r3_Join_1 n a' b' c' d' ∧ F_sd_Join_2 n a b c d = F_r3_Join_2 n a' b' c' d' ∧ F_sd_Join_3 n a b c d = F_r3_Join_3 n a' b' c' d' := by
  have hok : ok_sd_Join n a b c d = ok_r3_Join n a' b' c' d' := bool_eq ok_sd_Join_iff ok_r3_Join_iff (by
    constructor
    · intro g k hk
      obtain ⟨h1, h2, h3, h4⟩ := h k hk
      rw [← check_eq, ← h1, ← h2, ← h3, ← h4]
      exact g k hk
    · intro g k hk
      obtain ⟨h1, h2, h3, h4⟩ := h k hk
      rw [check_eq, h1, h2, h3, h4]
      exact g k hk)
  unfold F_sd_Join_0 F_sd_Join_1 F_sd_Join_2 F_sd_Join_3 F_r3_Join_0 F_r3_Join_1 F_r3_Join_2 F_r3_Join_3
  rw [hok, minF_congr (f := a) (g := a') n (fun k hk => (h k hk).1), minF_congr (f := b) (g := b') n (fun k hk => (h k hk).2.1), maxF_congr (f := c) (g := c') n (fun k hk => (h k hk).2.2.1), maxF_congr (f := d) (g := d') n (fun k hk => (h k hk).2.2.2)]
  exact ⟨rfl, rfl, rfl, rfl⟩
def P_lw_SolidBoxes (a0a : Int) (a0b : Int) (a0c : Int) (a0d : Int) (a1a : Int) (a1b : Int) (a1c : Int) (a1d : Int) (a2a : Int) (a2b : Int) (a3 : Int) (a4n : Nat) (a4a : Nat → Int) (a4b : Nat → Int) (a4c : Nat → Int) (a4d : Nat → Int) : Prop :=
  (I64 a0a ∧ I64 a0b ∧ I64 a0c ∧ I64 a0d) ∧ (I64 a1a ∧ I64 a1b ∧ I64 a1c ∧ I64 a1d) ∧ (I64 a2a ∧ I64 a2b ∧ I64 a3) ∧ ∀ k, k < a4n → I64 (a4a k) ∧ I64 (a4b k) ∧ I64 (a4c k) ∧ I64 (a4d k)
def F_lw_SolidBoxes_0 (a0a : Int) (a0b : Int) (a0c : Int) (a0d : Int) (a1a : Int) (a1b : Int) (a1c : Int) (a1d : Int) (a2a : Int) (a2b : Int) (a3 : Int) (a4n : Nat) (a4a : Nat → Int) (a4b : Nat → Int) (a4c : Nat → Int) (a4d : Nat → Int) : Bool := true
section
variable {a0a a0b a0c a0d a1a a1b a1c a1d a2a a2b a3 : Int} {n : Nat} {a b c d : Nat → Int}
theorem pushF_lt {n k : Nat} (f : Nat → Int) (x : Int) (h : k < n) : pushF n f x k = f k := by
  unfold pushF
  rw [show Nat.blt k n = true by rw [Nat.blt_eq]; exact h]
  rfl
theorem pushF_at (n : Nat) (f : Nat → Int) (x : Int) : pushF n f x n = x := by
  unfold pushF
  rw [show Nat.blt n n = false by cases h : Nat.blt n n with | false => rfl | true => (rw [Nat.blt_eq] at h; omega)]
  rfl
def same4 (i : Nat) (a b c d a' b' c' d' : Nat → Int) : Prop := ∀ k, k < i → a' k = a k ∧ b' k = b k ∧ c' k = c k ∧ d' k = d k
theorem same4.push {i : Nat} {a b c d a' b' c' d' : Nat → Int} (h : same4 i a b c d a' b' c' d') : same4 (i + 1) a b c d (pushF i a' (a i)) (pushF i b' (b i)) (pushF i c' (c i)) (pushF i d' (d i)) := by
  intro k hk
  by_cases hki : k = i
  · subst hki; rw [pushF_at, pushF_at, pushF_at, pushF_at]; exact ⟨rfl, rfl, rfl, rfl⟩
  · rw [pushF_lt _ _ (by omega), pushF_lt _ _ (by omega), pushF_lt _ _ (by omega), pushF_lt _ _ (by omega)]; exact h k (by omega)
theorem W_lw_SolidBoxes_0_ok (hn : n ≤ 12) {x0 : Bool → Int → Nat → (Nat → Int) → (Nat → Int) → (Nat → Int) → (Nat → Int) → Prop} (hx : ∀ q v a' b' c' d', same4 n a b c d a' b' c' d' → x0 q v n a' b' c' d') : ∀ (f i : Nat) (q : Bool) (a' b' c' d' : Nat → Int), i ≤ n → n < f + i → same4 i a b c d a' b' c' d' →
    W_lw_SolidBoxes_0 a0a a0b a0c a0d a1a a1b a1c a1d a2a a2b a3 n a b c d f q i i a' b' c' d' x0
  | 0, i, _, _, _, _, _, h1, h2, _ => by omega
  | f + 1, i, q, a', b', c', d', h1, h2, hs => by
    show B_lw_SolidBoxes_0 a0a a0b a0c a0d a1a a1b a1c a1d a2a a2b a3 n a b c d q i i a' b' c' d' _ _
    unfold B_lw_SolidBoxes_0
    simp only [Ts_iff, true_and, Int.toNat_natCast, Nat.zero_add]
    refine cond_intro (fun hc => ?_) (fun hc => ?_)
    · rw [ilt_t] at hc
      rw [iadd64 (by omega) (by omega)]
      exact ⟨⟨by omega, hc⟩, ⟨by omega, by omega⟩, W_lw_SolidBoxes_0_ok hn hx f (i + 1) _ _ _ _ _ (by omega) (by omega) hs.push⟩
    · rw [ilt_f] at hc
      have : i = n := by omega
      subst this
      exact hx _ _ _ _ _ _ hs
theorem W_lw_SolidBoxes_1_ok (hn : n ≤ 12) {x0 x1 : Nat → Bool → (Nat → Int) → (Nat → Int) → (Nat → Int) → (Nat → Int) → Int → Prop} {a' b' c' d' : Nat → Int} {q : Bool} (hs : same4 n a b c d a' b' c' d') (hx : ∀ v, x0 n q a' b' c' d' v) : ∀ (f i : Nat), i ≤ n → n < f + i →
    W_lw_SolidBoxes_1 a0a a0b a0c a0d a1a a1b a1c a1d a2a a2b a3 n a b c d f n q a' b' c' d' i x0 x1
  | 0, i, h1, h2 => by omega
  | f + 1, i, h1, h2 => by
    show B_lw_SolidBoxes_1 a0a a0b a0c a0d a1a a1b a1c a1d a2a a2b a3 n a b c d n q a' b' c' d' i _ _ _
    unfold B_lw_SolidBoxes_1
    simp only [Ts_iff, true_and, Int.toNat_natCast, Nat.zero_add]
    refine cond_intro (fun hc => ?_) (fun hc => ?_)
    · rw [ilt_t] at hc
      refine ⟨⟨by omega, hc⟩, ⟨by omega, hc⟩, ?_⟩
      obtain ⟨e1, e2, e3, e4⟩ := hs i (by omega)
      rw [ieq_t.2 e1, ieq_t.2 e2, ieq_t.2 e3, ieq_t.2 e4, iadd64 (by omega) (by omega)]
      exact W_lw_SolidBoxes_1_ok hn hs hx f (i + 1) (by omega) (by omega)
    · exact hx _
end
theorem beq_self {x y : Bool} (h : x = y) : (!(beqB x y)) = false := by subst h; rw [beqB_eq]; simp
theorem H_lw_SolidBoxes (a0a : Int) (a0b : Int) (a0c : Int) (a0d : Int) (a1a : Int) (a1b : Int) (a1c : Int) (a1d : Int) (a2a : Int) (a2b : Int) (a3 : Int) (a4n : Nat) (a4a : Nat → Int) (a4b : Nat → Int) (a4c : Nat → Int) (a4d : Nat → Int) {K0 : Bool → Prop} (h : P_lw_SolidBoxes a0a a0b a0c a0d a1a a1b a1c a1d a2a a2b a3 a4n a4a a4b a4c a4d) (hK : K0 (F_lw_SolidBoxes_0 a0a a0b a0c a0d a1a a1b a1c a1d a2a a2b a3 a4n a4a a4b a4c a4d)) : B_lw_SolidBoxes a0a a0b a0c a0d a1a a1b a1c a1d a2a a2b a3 a4n a4a a4b a4c a4d K0 (W_lw_SolidBoxes_0 a0a a0b a0c a0d a1a a1b a1c a1d a2a a2b a3 a4n a4a a4b a4c a4d fuel) (W_lw_SolidBoxes_1 a0a a0b a0c a0d a1a a1b a1c a1d a2a a2b a3 a4n a4a a4b a4c a4d fuel) := by
  obtain ⟨⟨p1, p2, p3, p4⟩, ⟨p5, p6, p7, p8⟩, ⟨p9, p10, p11⟩, p12⟩ := h
  have hK : K0 true := hK
  unfold B_lw_SolidBoxes
  simp only [Ts_iff, true_and]
  refine cond_intro (fun hc => ?_) (fun hc => ?_)
  · exact ⟨awakeP, by rw [awake_true]; exact hK⟩
  · rw [igt_f] at hc
    have hn : a4n ≤ 12 := by omega
    refine W_lw_SolidBoxes_0_ok hn (fun q v a' b' c' d' hs => ?_) fuel 0 true _ _ _ _ (Nat.zero_le _) (by rw [fuel_eq]; omega) (fun k hk => by omega)
    have hc1 : ine (F_sd_CheckBox_0 a0a a0b a0c a0d) (F_r3_CheckBox_0 a0a a0b a0c a0d) = false := by rw [ine_f, check_eq]
    have hc2 := beq_self (bool_eq (meets_sd a0a a0b a0c a0d a1a a1b a1c a1d) (meets_r3 a0a a0b a0c a0d a1a a1b a1c a1d) Iff.rfl)
    have hc3 := beq_self (bool_eq (within_sd a0a a0b a0c a0d a2a a2b p9 p10) (within_r3 a0a a0b a0c a0d a2a a2b) Iff.rfl)
    obtain ⟨j1, j2, j3, j4⟩ := join_congr hs
    obtain ⟨g1, g2, g3, g4⟩ := grow_eq a0a a0b a0c a0d a3 p11
    refine ⟨checkP p1 p2 p3 p4, trivial, ?_⟩
    rw [hc1, cond_false]
    refine ⟨⟨checkP p1 p2 p3 p4, cond_intro (fun _ => trivial) (fun _ => checkP p5 p6 p7 p8)⟩, trivial, ?_⟩
    rw [hc2, cond_false]
    unfold I64 at p9 p10
    refine ⟨⟨checkP p1 p2 p3 p4, cond_intro (fun _ => trivial) (fun _ => ?_)⟩, trivial, ?_⟩
    · unfold F_sd_grown_0 F_sd_grown_1 F_sd_grown_2 F_sd_grown_3
      rw [isub64 (by omega) (by omega), isub64 (by omega) (by omega), iadd64 (by omega) (by omega), iadd64 (by omega) (by omega)]
      refine checkP ?_ ?_ ?_ ?_ <;> unfold I64 <;> omega
    · rw [hc3, cond_false]
      refine ⟨⟨by omega, fun k hk => ?_⟩, (by show a4n ≤ 1000000; omega), ?_⟩
      · obtain ⟨e1, e2, e3, e4⟩ := hs k hk
        obtain ⟨q1, q2, q3, q4⟩ := p12 k hk
        rw [e1, e2, e3, e4]
        exact checkP q1 q2 q3 q4
      · rw [ieq_t.2 j1, ieq_t.2 j2, ieq_t.2 j3, ieq_t.2 j4]
        refine ⟨checkP p1 p2 p3 p4, trivial, ?_⟩
        rw [ieq_t.2 g1, ieq_t.2 g2, ieq_t.2 g3, ieq_t.2 g4]
        exact W_lw_SolidBoxes_1_ok hn hs (fun v => ⟨awakeP, by rw [awake_true]; exact hK⟩) fuel 0 (Nat.zero_le _) (by rw [fuel_eq]; omega)
/-! ### bagatelle/bagatellekit.Spot -/
def B_kt_Spot (a0 : Int) (a1 : Int) (a2 : Int) (K0 : Int → Int → Prop)  : Prop := Ts 4 ((((iadd .i64 a2 1) ≠ 0) ∧ Ts 3 ((((iadd .i64 a2 1) ≠ 0) ∧ Ts 2 ((true = true ∧ Ts 1 (K0 (irem .i64 a0 (iadd .i64 a2 1)) (irem .i64 a1 (iadd .i64 a2 1)))))))))
def P_kt_Spot (a0 : Int) (a1 : Int) (a2 : Int) : Prop := (((iadd .i64 a2 1) ≠ 0) ∧ ((iadd .i64 a2 1) ≠ 0))
def F_kt_Spot_0 (a0 : Int) (a1 : Int) (a2 : Int) : Int := (irem .i64 a0 (iadd .i64 a2 1))
def F_kt_Spot_1 (a0 : Int) (a1 : Int) (a2 : Int) : Int := (irem .i64 a1 (iadd .i64 a2 1))
theorem H_kt_Spot (a0 : Int) (a1 : Int) (a2 : Int) {K0 : Int → Int → Prop} (h : P_kt_Spot a0 a1 a2) (hK : K0 (F_kt_Spot_0 a0 a1 a2) (F_kt_Spot_1 a0 a1 a2)) : B_kt_Spot a0 a1 a2 K0  := by
  unfold B_kt_Spot P_kt_Spot F_kt_Spot_0 F_kt_Spot_1 at *
  simp only [Ts_iff, true_and]
  try simp only [Ts_iff, true_and] at h
  repeat' first
    | exact hK
    | (refine cond_intro (fun hc => ?_) (fun hc => ?_) <;> (try simp only [hc, cond_true, cond_false] at h) <;> (try simp only [hc, cond_true, cond_false] at hK) <;> (try simp only [hc, cond_true, cond_false]))
    | (refine ⟨rfl, ?_⟩)
    | (refine ⟨trivial, ?_⟩)
    | (refine ⟨by decide, ?_⟩)
    | (refine ⟨h.1, ?_⟩; replace h := h.2)
    | (refine ⟨h, ?_⟩)
    | (refine ⟨fun _ _ => rfl, ?_⟩)
/-! ### bagatelle/bagatellekit.Box -/
def B_kt_Box (a0 : Int) (a1 : Int) (a2 : Int) (a3 : Int) (a4 : Int) (K0 : Int → Int → Int → Int → Prop)  : Prop := Ts 4 (((P_kt_Spot a0 a1 a4) ∧ Ts 3 (((P_kt_Spot a2 a3 a4) ∧ Ts 27 (K0 (imin (F_kt_Spot_0 a0 a1 a4) (F_kt_Spot_0 a2 a3 a4)) (imin (F_kt_Spot_1 a0 a1 a4) (F_kt_Spot_1 a2 a3 a4)) (imax (F_kt_Spot_0 a0 a1 a4) (F_kt_Spot_0 a2 a3 a4)) (imax (F_kt_Spot_1 a0 a1 a4) (F_kt_Spot_1 a2 a3 a4)))))))
def P_kt_Box (a0 : Int) (a1 : Int) (a2 : Int) (a3 : Int) (a4 : Int) : Prop := ((P_kt_Spot a0 a1 a4) ∧ (P_kt_Spot a2 a3 a4))
def F_kt_Box_0 (a0 : Int) (a1 : Int) (a2 : Int) (a3 : Int) (a4 : Int) : Int := (imin (F_kt_Spot_0 a0 a1 a4) (F_kt_Spot_0 a2 a3 a4))
def F_kt_Box_1 (a0 : Int) (a1 : Int) (a2 : Int) (a3 : Int) (a4 : Int) : Int := (imin (F_kt_Spot_1 a0 a1 a4) (F_kt_Spot_1 a2 a3 a4))
def F_kt_Box_2 (a0 : Int) (a1 : Int) (a2 : Int) (a3 : Int) (a4 : Int) : Int := (imax (F_kt_Spot_0 a0 a1 a4) (F_kt_Spot_0 a2 a3 a4))
def F_kt_Box_3 (a0 : Int) (a1 : Int) (a2 : Int) (a3 : Int) (a4 : Int) : Int := (imax (F_kt_Spot_1 a0 a1 a4) (F_kt_Spot_1 a2 a3 a4))
theorem H_kt_Box (a0 : Int) (a1 : Int) (a2 : Int) (a3 : Int) (a4 : Int) {K0 : Int → Int → Int → Int → Prop} (h : P_kt_Box a0 a1 a2 a3 a4) (hK : K0 (F_kt_Box_0 a0 a1 a2 a3 a4) (F_kt_Box_1 a0 a1 a2 a3 a4) (F_kt_Box_2 a0 a1 a2 a3 a4) (F_kt_Box_3 a0 a1 a2 a3 a4)) : B_kt_Box a0 a1 a2 a3 a4 K0  := by
  unfold B_kt_Box P_kt_Box F_kt_Box_0 F_kt_Box_1 F_kt_Box_2 F_kt_Box_3 at *
  simp only [Ts_iff, true_and]
  try simp only [Ts_iff, true_and] at h
  repeat' first
    | exact hK
    | (refine cond_intro (fun hc => ?_) (fun hc => ?_) <;> (try simp only [hc, cond_true, cond_false] at h) <;> (try simp only [hc, cond_true, cond_false] at hK) <;> (try simp only [hc, cond_true, cond_false]))
    | (refine ⟨rfl, ?_⟩)
    | (refine ⟨trivial, ?_⟩)
    | (refine ⟨by decide, ?_⟩)
    | (refine ⟨h.1, ?_⟩; replace h := h.2)
    | (refine ⟨h, ?_⟩)
    | (refine ⟨fun _ _ => rfl, ?_⟩)
/-! ### bagatelle/bagatellekit.Mod -/
def B_kt_Mod (a0 : Int) (a1 : Int) (K0 : Int → Prop)  : Prop := Ts 3 (((a1 ≠ 0) ∧ Ts 3 (cond (ilt (irem .i64 a0 a1) 0) (Ts 6 (K0 (iadd .i64 (irem .i64 a0 a1) a1))) (Ts 2 (K0 (irem .i64 a0 a1))))))
def P_kt_Mod (a0 : Int) (a1 : Int) : Prop := (a1 ≠ 0)
def F_kt_Mod_0 (a0 : Int) (a1 : Int) : Int := (cond (ilt (irem .i64 a0 a1) 0) (iadd .i64 (irem .i64 a0 a1) a1) (irem .i64 a0 a1))
theorem H_kt_Mod (a0 : Int) (a1 : Int) {K0 : Int → Prop} (h : P_kt_Mod a0 a1) (hK : K0 (F_kt_Mod_0 a0 a1)) : B_kt_Mod a0 a1 K0  := by
  unfold B_kt_Mod P_kt_Mod F_kt_Mod_0 at *
  simp only [Ts_iff, true_and]
  try simp only [Ts_iff, true_and] at h
  repeat' first
    | exact hK
    | (refine cond_intro (fun hc => ?_) (fun hc => ?_) <;> (try simp only [hc, cond_true, cond_false] at h) <;> (try simp only [hc, cond_true, cond_false] at hK) <;> (try simp only [hc, cond_true, cond_false]))
    | (refine ⟨rfl, ?_⟩)
    | (refine ⟨trivial, ?_⟩)
    | (refine ⟨by decide, ?_⟩)
    | (refine ⟨h.1, ?_⟩; replace h := h.2)
    | (refine ⟨h, ?_⟩)
    | (refine ⟨fun _ _ => rfl, ?_⟩)
/-! ### bagatelle/bagatellelaw03.SolidJoins -/
def B_lw_SolidJoins (a0a : Int) (a0b : Int) (a0c : Int) (a0d : Int) (a1a : Int) (a1b : Int) (a1c : Int) (a1d : Int) (a2a : Int) (a2b : Int) (a2c : Int) (a2d : Int) (a3 : Int) (a4 : Int) (K0 : Bool → Prop)  : Prop := Ts 4 (((0 ≤ (0 : Int) ∧ (0 : Int) < ((4 : Nat) : Int)) ∧ Ts 1 (((0 ≤ (1 : Int) ∧ (1 : Int) < ((4 : Nat) : Int)) ∧ Ts 1 (((0 ≤ (2 : Int) ∧ (2 : Int) < ((4 : Nat) : Int)) ∧ Ts 1 (((0 ≤ (3 : Int) ∧ (3 : Int) < ((4 : Nat) : Int)) ∧ Ts 1 (((P_kt_Box a0a a0b a0c a0d 5000) ∧ ((0 ≤ (0 : Int) ∧ (0 : Int) < ((4 : Nat) : Int)) ∧ Ts 1 (((0 ≤ (1 : Int) ∧ (1 : Int) < ((4 : Nat) : Int)) ∧ Ts 1 (((0 ≤ (2 : Int) ∧ (2 : Int) < ((4 : Nat) : Int)) ∧ Ts 1 (((0 ≤ (3 : Int) ∧ (3 : Int) < ((4 : Nat) : Int)) ∧ Ts 1 (((P_kt_Box a1a a1b a1c a1d 5000) ∧ ((0 ≤ (0 : Int) ∧ (0 : Int) < ((4 : Nat) : Int)) ∧ Ts 1 (((0 ≤ (1 : Int) ∧ (1 : Int) < ((4 : Nat) : Int)) ∧ Ts 1 (((0 ≤ (2 : Int) ∧ (2 : Int) < ((4 : Nat) : Int)) ∧ Ts 1 (((0 ≤ (3 : Int) ∧ (3 : Int) < ((4 : Nat) : Int)) ∧ Ts 1 (((P_kt_Box a2a a2b a2c a2d 5000) ∧ Ts 6 ((true = true ∧ Ts 3 (((P_sd_Join 2 (pushF 1 (fun _ => (F_kt_Box_0 a0a a0b a0c a0d 5000)) (F_kt_Box_0 a1a a1b a1c a1d 5000)) (pushF 1 (fun _ => (F_kt_Box_1 a0a a0b a0c a0d 5000)) (F_kt_Box_1 a1a a1b a1c a1d 5000)) (pushF 1 (fun _ => (F_kt_Box_2 a0a a0b a0c a0d 5000)) (F_kt_Box_2 a1a a1b a1c a1d 5000)) (pushF 1 (fun _ => (F_kt_Box_3 a0a a0b a0c a0d 5000)) (F_kt_Box_3 a1a a1b a1c a1d 5000))) ∧ Ts 3 (((P_sd_CheckBox (F_sd_Join_0 2 (pushF 1 (fun _ => (F_kt_Box_0 a0a a0b a0c a0d 5000)) (F_kt_Box_0 a1a a1b a1c a1d 5000)) (pushF 1 (fun _ => (F_kt_Box_1 a0a a0b a0c a0d 5000)) (F_kt_Box_1 a1a a1b a1c a1d 5000)) (pushF 1 (fun _ => (F_kt_Box_2 a0a a0b a0c a0d 5000)) (F_kt_Box_2 a1a a1b a1c a1d 5000)) (pushF 1 (fun _ => (F_kt_Box_3 a0a a0b a0c a0d 5000)) (F_kt_Box_3 a1a a1b a1c a1d 5000))) (F_sd_Join_1 2 (pushF 1 (fun _ => (F_kt_Box_0 a0a a0b a0c a0d 5000)) (F_kt_Box_0 a1a a1b a1c a1d 5000)) (pushF 1 (fun _ => (F_kt_Box_1 a0a a0b a0c a0d 5000)) (F_kt_Box_1 a1a a1b a1c a1d 5000)) (pushF 1 (fun _ => (F_kt_Box_2 a0a a0b a0c a0d 5000)) (F_kt_Box_2 a1a a1b a1c a1d 5000)) (pushF 1 (fun _ => (F_kt_Box_3 a0a a0b a0c a0d 5000)) (F_kt_Box_3 a1a a1b a1c a1d 5000))) (F_sd_Join_2 2 (pushF 1 (fun _ => (F_kt_Box_0 a0a a0b a0c a0d 5000)) (F_kt_Box_0 a1a a1b a1c a1d 5000)) (pushF 1 (fun _ => (F_kt_Box_1 a0a a0b a0c a0d 5000)) (F_kt_Box_1 a1a a1b a1c a1d 5000)) (pushF 1 (fun _ => (F_kt_Box_2 a0a a0b a0c a0d 5000)) (F_kt_Box_2 a1a a1b a1c a1d 5000)) (pushF 1 (fun _ => (F_kt_Box_3 a0a a0b a0c a0d 5000)) (F_kt_Box_3 a1a a1b a1c a1d 5000))) (F_sd_Join_3 2 (pushF 1 (fun _ => (F_kt_Box_0 a0a a0b a0c a0d 5000)) (F_kt_Box_0 a1a a1b a1c a1d 5000)) (pushF 1 (fun _ => (F_kt_Box_1 a0a a0b a0c a0d 5000)) (F_kt_Box_1 a1a a1b a1c a1d 5000)) (pushF 1 (fun _ => (F_kt_Box_2 a0a a0b a0c a0d 5000)) (F_kt_Box_2 a1a a1b a1c a1d 5000)) (pushF 1 (fun _ => (F_kt_Box_3 a0a a0b a0c a0d 5000)) (F_kt_Box_3 a1a a1b a1c a1d 5000)))) ∧ Ts 2 (cond (ine (F_sd_CheckBox_0 (F_sd_Join_0 2 (pushF 1 (fun _ => (F_kt_Box_0 a0a a0b a0c a0d 5000)) (F_kt_Box_0 a1a a1b a1c a1d 5000)) (pushF 1 (fun _ => (F_kt_Box_1 a0a a0b a0c a0d 5000)) (F_kt_Box_1 a1a a1b a1c a1d 5000)) (pushF 1 (fun _ => (F_kt_Box_2 a0a a0b a0c a0d 5000)) (F_kt_Box_2 a1a a1b a1c a1d 5000)) (pushF 1 (fun _ => (F_kt_Box_3 a0a a0b a0c a0d 5000)) (F_kt_Box_3 a1a a1b a1c a1d 5000))) (F_sd_Join_1 2 (pushF 1 (fun _ => (F_kt_Box_0 a0a a0b a0c a0d 5000)) (F_kt_Box_0 a1a a1b a1c a1d 5000)) (pushF 1 (fun _ => (F_kt_Box_1 a0a a0b a0c a0d 5000)) (F_kt_Box_1 a1a a1b a1c a1d 5000)) (pushF 1 (fun _ => (F_kt_Box_2 a0a a0b a0c a0d 5000)) (F_kt_Box_2 a1a a1b a1c a1d 5000)) (pushF 1 (fun _ => (F_kt_Box_3 a0a a0b a0c a0d 5000)) (F_kt_Box_3 a1a a1b a1c a1d 5000))) (F_sd_Join_2 2 (pushF 1 (fun _ => (F_kt_Box_0 a0a a0b a0c a0d 5000)) (F_kt_Box_0 a1a a1b a1c a1d 5000)) (pushF 1 (fun _ => (F_kt_Box_1 a0a a0b a0c a0d 5000)) (F_kt_Box_1 a1a a1b a1c a1d 5000)) (pushF 1 (fun _ => (F_kt_Box_2 a0a a0b a0c a0d 5000)) (F_kt_Box_2 a1a a1b a1c a1d 5000)) (pushF 1 (fun _ => (F_kt_Box_3 a0a a0b a0c a0d 5000)) (F_kt_Box_3 a1a a1b a1c a1d 5000))) (F_sd_Join_3 2 (pushF 1 (fun _ => (F_kt_Box_0 a0a a0b a0c a0d 5000)) (F_kt_Box_0 a1a a1b a1c a1d 5000)) (pushF 1 (fun _ => (F_kt_Box_1 a0a a0b a0c a0d 5000)) (F_kt_Box_1 a1a a1b a1c a1d 5000)) (pushF 1 (fun _ => (F_kt_Box_2 a0a a0b a0c a0d 5000)) (F_kt_Box_2 a1a a1b a1c a1d 5000)) (pushF 1 (fun _ => (F_kt_Box_3 a0a a0b a0c a0d 5000)) (F_kt_Box_3 a1a a1b a1c a1d 5000)))) 0) (Ts 7 ((true = true ∧ Ts 1 (K0 false)))) (Ts 4 (((P_sd_Join 2 (pushF 1 (fun _ => (F_kt_Box_0 a1a a1b a1c a1d 5000)) (F_kt_Box_0 a0a a0b a0c a0d 5000)) (pushF 1 (fun _ => (F_kt_Box_1 a1a a1b a1c a1d 5000)) (F_kt_Box_1 a0a a0b a0c a0d 5000)) (pushF 1 (fun _ => (F_kt_Box_2 a1a a1b a1c a1d 5000)) (F_kt_Box_2 a0a a0b a0c a0d 5000)) (pushF 1 (fun _ => (F_kt_Box_3 a1a a1b a1c a1d 5000)) (F_kt_Box_3 a0a a0b a0c a0d 5000))) ∧ Ts 3 (cond (!((ieq (F_sd_Join_0 2 (pushF 1 (fun _ => (F_kt_Box_0 a0a a0b a0c a0d 5000)) (F_kt_Box_0 a1a a1b a1c a1d 5000)) (pushF 1 (fun _ => (F_kt_Box_1 a0a a0b a0c a0d 5000)) (F_kt_Box_1 a1a a1b a1c a1d 5000)) (pushF 1 (fun _ => (F_kt_Box_2 a0a a0b a0c a0d 5000)) (F_kt_Box_2 a1a a1b a1c a1d 5000)) (pushF 1 (fun _ => (F_kt_Box_3 a0a a0b a0c a0d 5000)) (F_kt_Box_3 a1a a1b a1c a1d 5000))) (F_sd_Join_0 2 (pushF 1 (fun _ => (F_kt_Box_0 a1a a1b a1c a1d 5000)) (F_kt_Box_0 a0a a0b a0c a0d 5000)) (pushF 1 (fun _ => (F_kt_Box_1 a1a a1b a1c a1d 5000)) (F_kt_Box_1 a0a a0b a0c a0d 5000)) (pushF 1 (fun _ => (F_kt_Box_2 a1a a1b a1c a1d 5000)) (F_kt_Box_2 a0a a0b a0c a0d 5000)) (pushF 1 (fun _ => (F_kt_Box_3 a1a a1b a1c a1d 5000)) (F_kt_Box_3 a0a a0b a0c a0d 5000)))) && ((ieq (F_sd_Join_1 2 (pushF 1 (fun _ => (F_kt_Box_0 a0a a0b a0c a0d 5000)) (F_kt_Box_0 a1a a1b a1c a1d 5000)) (pushF 1 (fun _ => (F_kt_Box_1 a0a a0b a0c a0d 5000)) (F_kt_Box_1 a1a a1b a1c a1d 5000)) (pushF 1 (fun _ => (F_kt_Box_2 a0a a0b a0c a0d 5000)) (F_kt_Box_2 a1a a1b a1c a1d 5000)) (pushF 1 (fun _ => (F_kt_Box_3 a0a a0b a0c a0d 5000)) (F_kt_Box_3 a1a a1b a1c a1d 5000))) (F_sd_Join_1 2 (pushF 1 (fun _ => (F_kt_Box_0 a1a a1b a1c a1d 5000)) (F_kt_Box_0 a0a a0b a0c a0d 5000)) (pushF 1 (fun _ => (F_kt_Box_1 a1a a1b a1c a1d 5000)) (F_kt_Box_1 a0a a0b a0c a0d 5000)) (pushF 1 (fun _ => (F_kt_Box_2 a1a a1b a1c a1d 5000)) (F_kt_Box_2 a0a a0b a0c a0d 5000)) (pushF 1 (fun _ => (F_kt_Box_3 a1a a1b a1c a1d 5000)) (F_kt_Box_3 a0a a0b a0c a0d 5000)))) && ((ieq (F_sd_Join_2 2 (pushF 1 (fun _ => (F_kt_Box_0 a0a a0b a0c a0d 5000)) (F_kt_Box_0 a1a a1b a1c a1d 5000)) (pushF 1 (fun _ => (F_kt_Box_1 a0a a0b a0c a0d 5000)) (F_kt_Box_1 a1a a1b a1c a1d 5000)) (pushF 1 (fun _ => (F_kt_Box_2 a0a a0b a0c a0d 5000)) (F_kt_Box_2 a1a a1b a1c a1d 5000)) (pushF 1 (fun _ => (F_kt_Box_3 a0a a0b a0c a0d 5000)) (F_kt_Box_3 a1a a1b a1c a1d 5000))) (F_sd_Join_2 2 (pushF 1 (fun _ => (F_kt_Box_0 a1a a1b a1c a1d 5000)) (F_kt_Box_0 a0a a0b a0c a0d 5000)) (pushF 1 (fun _ => (F_kt_Box_1 a1a a1b a1c a1d 5000)) (F_kt_Box_1 a0a a0b a0c a0d 5000)) (pushF 1 (fun _ => (F_kt_Box_2 a1a a1b a1c a1d 5000)) (F_kt_Box_2 a0a a0b a0c a0d 5000)) (pushF 1 (fun _ => (F_kt_Box_3 a1a a1b a1c a1d 5000)) (F_kt_Box_3 a0a a0b a0c a0d 5000)))) && (ieq (F_sd_Join_3 2 (pushF 1 (fun _ => (F_kt_Box_0 a0a a0b a0c a0d 5000)) (F_kt_Box_0 a1a a1b a1c a1d 5000)) (pushF 1 (fun _ => (F_kt_Box_1 a0a a0b a0c a0d 5000)) (F_kt_Box_1 a1a a1b a1c a1d 5000)) (pushF 1 (fun _ => (F_kt_Box_2 a0a a0b a0c a0d 5000)) (F_kt_Box_2 a1a a1b a1c a1d 5000)) (pushF 1 (fun _ => (F_kt_Box_3 a0a a0b a0c a0d 5000)) (F_kt_Box_3 a1a a1b a1c a1d 5000))) (F_sd_Join_3 2 (pushF 1 (fun _ => (F_kt_Box_0 a1a a1b a1c a1d 5000)) (F_kt_Box_0 a0a a0b a0c a0d 5000)) (pushF 1 (fun _ => (F_kt_Box_1 a1a a1b a1c a1d 5000)) (F_kt_Box_1 a0a a0b a0c a0d 5000)) (pushF 1 (fun _ => (F_kt_Box_2 a1a a1b a1c a1d 5000)) (F_kt_Box_2 a0a a0b a0c a0d 5000)) (pushF 1 (fun _ => (F_kt_Box_3 a1a a1b a1c a1d 5000)) (F_kt_Box_3 a0a a0b a0c a0d 5000)))))))) (Ts 5 ((true = true ∧ Ts 1 (K0 false)))) (Ts 4 (((P_sd_Join 2 (pushF 1 (fun _ => (F_sd_Join_0 2 (pushF 1 (fun _ => (F_kt_Box_0 a0a a0b a0c a0d 5000)) (F_kt_Box_0 a1a a1b a1c a1d 5000)) (pushF 1 (fun _ => (F_kt_Box_1 a0a a0b a0c a0d 5000)) (F_kt_Box_1 a1a a1b a1c a1d 5000)) (pushF 1 (fun _ => (F_kt_Box_2 a0a a0b a0c a0d 5000)) (F_kt_Box_2 a1a a1b a1c a1d 5000)) (pushF 1 (fun _ => (F_kt_Box_3 a0a a0b a0c a0d 5000)) (F_kt_Box_3 a1a a1b a1c a1d 5000)))) (F_kt_Box_0 a0a a0b a0c a0d 5000)) (pushF 1 (fun _ => (F_sd_Join_1 2 (pushF 1 (fun _ => (F_kt_Box_0 a0a a0b a0c a0d 5000)) (F_kt_Box_0 a1a a1b a1c a1d 5000)) (pushF 1 (fun _ => (F_kt_Box_1 a0a a0b a0c a0d 5000)) (F_kt_Box_1 a1a a1b a1c a1d 5000)) (pushF 1 (fun _ => (F_kt_Box_2 a0a a0b a0c a0d 5000)) (F_kt_Box_2 a1a a1b a1c a1d 5000)) (pushF 1 (fun _ => (F_kt_Box_3 a0a a0b a0c a0d 5000)) (F_kt_Box_3 a1a a1b a1c a1d 5000)))) (F_kt_Box_1 a0a a0b a0c a0d 5000)) (pushF 1 (fun _ => (F_sd_Join_2 2 (pushF 1 (fun _ => (F_kt_Box_0 a0a a0b a0c a0d 5000)) (F_kt_Box_0 a1a a1b a1c a1d 5000)) (pushF 1 (fun _ => (F_kt_Box_1 a0a a0b a0c a0d 5000)) (F_kt_Box_1 a1a a1b a1c a1d 5000)) (pushF 1 (fun _ => (F_kt_Box_2 a0a a0b a0c a0d 5000)) (F_kt_Box_2 a1a a1b a1c a1d 5000)) (pushF 1 (fun _ => (F_kt_Box_3 a0a a0b a0c a0d 5000)) (F_kt_Box_3 a1a a1b a1c a1d 5000)))) (F_kt_Box_2 a0a a0b a0c a0d 5000)) (pushF 1 (fun _ => (F_sd_Join_3 2 (pushF 1 (fun _ => (F_kt_Box_0 a0a a0b a0c a0d 5000)) (F_kt_Box_0 a1a a1b a1c a1d 5000)) (pushF 1 (fun _ => (F_kt_Box_1 a0a a0b a0c a0d 5000)) (F_kt_Box_1 a1a a1b a1c a1d 5000)) (pushF 1 (fun _ => (F_kt_Box_2 a0a a0b a0c a0d 5000)) (F_kt_Box_2 a1a a1b a1c a1d 5000)) (pushF 1 (fun _ => (F_kt_Box_3 a0a a0b a0c a0d 5000)) (F_kt_Box_3 a1a a1b a1c a1d 5000)))) (F_kt_Box_3 a0a a0b a0c a0d 5000))) ∧ Ts 3 (cond (!((ieq (F_sd_Join_0 2 (pushF 1 (fun _ => (F_kt_Box_0 a0a a0b a0c a0d 5000)) (F_kt_Box_0 a1a a1b a1c a1d 5000)) (pushF 1 (fun _ => (F_kt_Box_1 a0a a0b a0c a0d 5000)) (F_kt_Box_1 a1a a1b a1c a1d 5000)) (pushF 1 (fun _ => (F_kt_Box_2 a0a a0b a0c a0d 5000)) (F_kt_Box_2 a1a a1b a1c a1d 5000)) (pushF 1 (fun _ => (F_kt_Box_3 a0a a0b a0c a0d 5000)) (F_kt_Box_3 a1a a1b a1c a1d 5000))) (F_sd_Join_0 2 (pushF 1 (fun _ => (F_sd_Join_0 2 (pushF 1 (fun _ => (F_kt_Box_0 a0a a0b a0c a0d 5000)) (F_kt_Box_0 a1a a1b a1c a1d 5000)) (pushF 1 (fun _ => (F_kt_Box_1 a0a a0b a0c a0d 5000)) (F_kt_Box_1 a1a a1b a1c a1d 5000)) (pushF 1 (fun _ => (F_kt_Box_2 a0a a0b a0c a0d 5000)) (F_kt_Box_2 a1a a1b a1c a1d 5000)) (pushF 1 (fun _ => (F_kt_Box_3 a0a a0b a0c a0d 5000)) (F_kt_Box_3 a1a a1b a1c a1d 5000)))) (F_kt_Box_0 a0a a0b a0c a0d 5000)) (pushF 1 (fun _ => (F_sd_Join_1 2 (pushF 1 (fun _ => (F_kt_Box_0 a0a a0b a0c a0d 5000)) (F_kt_Box_0 a1a a1b a1c a1d 5000)) (pushF 1 (fun _ => (F_kt_Box_1 a0a a0b a0c a0d 5000)) (F_kt_Box_1 a1a a1b a1c a1d 5000)) (pushF 1 (fun _ => (F_kt_Box_2 a0a a0b a0c a0d 5000)) (F_kt_Box_2 a1a a1b a1c a1d 5000)) (pushF 1 (fun _ => (F_kt_Box_3 a0a a0b a0c a0d 5000)) (F_kt_Box_3 a1a a1b a1c a1d 5000)))) (F_kt_Box_1 a0a a0b a0c a0d 5000)) (pushF 1 (fun _ => (F_sd_Join_2 2 (pushF 1 (fun _ => (F_kt_Box_0 a0a a0b a0c a0d 5000)) (F_kt_Box_0 a1a a1b a1c a1d 5000)) (pushF 1 (fun _ => (F_kt_Box_1 a0a a0b a0c a0d 5000)) (F_kt_Box_1 a1a a1b a1c a1d 5000)) (pushF 1 (fun _ => (F_kt_Box_2 a0a a0b a0c a0d 5000)) (F_kt_Box_2 a1a a1b a1c a1d 5000)) (pushF 1 (fun _ => (F_kt_Box_3 a0a a0b a0c a0d 5000)) (F_kt_Box_3 a1a a1b a1c a1d 5000)))) (F_kt_Box_2 a0a a0b a0c a0d 5000)) (pushF 1 (fun _ => (F_sd_Join_3 2 (pushF 1 (fun _ => (F_kt_Box_0 a0a a0b a0c a0d 5000)) (F_kt_Box_0 a1a a1b a1c a1d 5000)) (pushF 1 (fun _ => (F_kt_Box_1 a0a a0b a0c a0d 5000)) (F_kt_Box_1 a1a a1b a1c a1d 5000)) (pushF 1 (fun _ => (F_kt_Box_2 a0a a0b a0c a0d 5000)) (F_kt_Box_2 a1a a1b a1c a1d 5000)) (pushF 1 (fun _ => (F_kt_Box_3 a0a a0b a0c a0d 5000)) (F_kt_Box_3 a1a a1b a1c a1d 5000)))) (F_kt_Box_3 a0a a0b a0c a0d 5000)))) && ((ieq (F_sd_Join_1 2 (pushF 1 (fun _ => (F_kt_Box_0 a0a a0b a0c a0d 5000)) (F_kt_Box_0 a1a a1b a1c a1d 5000)) (pushF 1 (fun _ => (F_kt_Box_1 a0a a0b a0c a0d 5000)) (F_kt_Box_1 a1a a1b a1c a1d 5000)) (pushF 1 (fun _ => (F_kt_Box_2 a0a a0b a0c a0d 5000)) (F_kt_Box_2 a1a a1b a1c a1d 5000)) (pushF 1 (fun _ => (F_kt_Box_3 a0a a0b a0c a0d 5000)) (F_kt_Box_3 a1a a1b a1c a1d 5000))) (F_sd_Join_1 2 (pushF 1 (fun _ => (F_sd_Join_0 2 (pushF 1 (fun _ => (F_kt_Box_0 a0a a0b a0c a0d 5000)) (F_kt_Box_0 a1a a1b a1c a1d 5000)) (pushF 1 (fun _ => (F_kt_Box_1 a0a a0b a0c a0d 5000)) (F_kt_Box_1 a1a a1b a1c a1d 5000)) (pushF 1 (fun _ => (F_kt_Box_2 a0a a0b a0c a0d 5000)) (F_kt_Box_2 a1a a1b a1c a1d 5000)) (pushF 1 (fun _ => (F_kt_Box_3 a0a a0b a0c a0d 5000)) (F_kt_Box_3 a1a a1b a1c a1d 5000)))) (F_kt_Box_0 a0a a0b a0c a0d 5000)) (pushF 1 (fun _ => (F_sd_Join_1 2 (pushF 1 (fun _ => (F_kt_Box_0 a0a a0b a0c a0d 5000)) (F_kt_Box_0 a1a a1b a1c a1d 5000)) (pushF 1 (fun _ => (F_kt_Box_1 a0a a0b a0c a0d 5000)) (F_kt_Box_1 a1a a1b a1c a1d 5000)) (pushF 1 (fun _ => (F_kt_Box_2 a0a a0b a0c a0d 5000)) (F_kt_Box_2 a1a a1b a1c a1d 5000)) (pushF 1 (fun _ => (F_kt_Box_3 a0a a0b a0c a0d 5000)) (F_kt_Box_3 a1a a1b a1c a1d 5000)))) (F_kt_Box_1 a0a a0b a0c a0d 5000)) (pushF 1 (fun _ => (F_sd_Join_2 2 (pushF 1 (fun _ => (F_kt_Box_0 a0a a0b a0c a0d 5000)) (F_kt_Box_0 a1a a1b a1c a1d 5000)) (pushF 1 (fun _ => (F_kt_Box_1 a0a a0b a0c a0d 5000)) (F_kt_Box_1 a1a a1b a1c a1d 5000)) (pushF 1 (fun _ => (F_kt_Box_2 a0a a0b a0c a0d 5000)) (F_kt_Box_2 a1a a1b a1c a1d 5000)) (pushF 1 (fun _ => (F_kt_Box_3 a0a a0b a0c a0d 5000)) (F_kt_Box_3 a1a a1b a1c a1d 5000)))) (F_kt_Box_2 a0a a0b a0c a0d 5000)) (pushF 1 (fun _ => (F_sd_Join_3 2 (pushF 1 (fun _ => (F_kt_Box_0 a0a a0b a0c a0d 5000)) (F_kt_Box_0 a1a a1b a1c a1d 5000)) (pushF 1 (fun _ => (F_kt_Box_1 a0a a0b a0c a0d 5000)) (F_kt_Box_1 a1a a1b a1c a1d 5000)) (pushF 1 (fun _ => (F_kt_Box_2 a0a a0b a0c a0d 5000)) (F_kt_Box_2 a1a a1b a1c a1d 5000)) (pushF 1 (fun _ => (F_kt_Box_3 a0a a0b a0c a0d 5000)) (F_kt_Box_3 a1a a1b a1c a1d 5000)))) (F_kt_Box_3 a0a a0b a0c a0d 5000)))) && ((ieq (F_sd_Join_2 2 (pushF 1 (fun _ => (F_kt_Box_0 a0a a0b a0c a0d 5000)) (F_kt_Box_0 a1a a1b a1c a1d 5000)) (pushF 1 (fun _ => (F_kt_Box_1 a0a a0b a0c a0d 5000)) (F_kt_Box_1 a1a a1b a1c a1d 5000)) (pushF 1 (fun _ => (F_kt_Box_2 a0a a0b a0c a0d 5000)) (F_kt_Box_2 a1a a1b a1c a1d 5000)) (pushF 1 (fun _ => (F_kt_Box_3 a0a a0b a0c a0d 5000)) (F_kt_Box_3 a1a a1b a1c a1d 5000))) (F_sd_Join_2 2 (pushF 1 (fun _ => (F_sd_Join_0 2 (pushF 1 (fun _ => (F_kt_Box_0 a0a a0b a0c a0d 5000)) (F_kt_Box_0 a1a a1b a1c a1d 5000)) (pushF 1 (fun _ => (F_kt_Box_1 a0a a0b a0c a0d 5000)) (F_kt_Box_1 a1a a1b a1c a1d 5000)) (pushF 1 (fun _ => (F_kt_Box_2 a0a a0b a0c a0d 5000)) (F_kt_Box_2 a1a a1b a1c a1d 5000)) (pushF 1 (fun _ => (F_kt_Box_3 a0a a0b a0c a0d 5000)) (F_kt_Box_3 a1a a1b a1c a1d 5000)))) (F_kt_Box_0 a0a a0b a0c a0d 5000)) (pushF 1 (fun _ => (F_sd_Join_1 2 (pushF 1 (fun _ => (F_kt_Box_0 a0a a0b a0c a0d 5000)) (F_kt_Box_0 a1a a1b a1c a1d 5000)) (pushF 1 (fun _ => (F_kt_Box_1 a0a a0b a0c a0d 5000)) (F_kt_Box_1 a1a a1b a1c a1d 5000)) (pushF 1 (fun _ => (F_kt_Box_2 a0a a0b a0c a0d 5000)) (F_kt_Box_2 a1a a1b a1c a1d 5000)) (pushF 1 (fun _ => (F_kt_Box_3 a0a a0b a0c a0d 5000)) (F_kt_Box_3 a1a a1b a1c a1d 5000)))) (F_kt_Box_1 a0a a0b a0c a0d 5000)) (pushF 1 (fun _ => (F_sd_Join_2 2 (pushF 1 (fun _ => (F_kt_Box_0 a0a a0b a0c a0d 5000)) (F_kt_Box_0 a1a a1b a1c a1d 5000)) (pushF 1 (fun _ => (F_kt_Box_1 a0a a0b a0c a0d 5000)) (F_kt_Box_1 a1a a1b a1c a1d 5000)) (pushF 1 (fun _ => (F_kt_Box_2 a0a a0b a0c a0d 5000)) (F_kt_Box_2 a1a a1b a1c a1d 5000)) (pushF 1 (fun _ => (F_kt_Box_3 a0a a0b a0c a0d 5000)) (F_kt_Box_3 a1a a1b a1c a1d 5000)))) (F_kt_Box_2 a0a a0b a0c a0d 5000)) (pushF 1 (fun _ => (F_sd_Join_3 2 (pushF 1 (fun _ => (F_kt_Box_0 a0a a0b a0c a0d 5000)) (F_kt_Box_0 a1a a1b a1c a1d 5000)) (pushF 1 (fun _ => (F_kt_Box_1 a0a a0b a0c a0d 5000)) (F_kt_Box_1 a1a a1b a1c a1d 5000)) (pushF 1 (fun _ => (F_kt_Box_2 a0a a0b a0c a0d 5000)) (F_kt_Box_2 a1a a1b a1c a1d 5000)) (pushF 1 (fun _ => (F_kt_Box_3 a0a a0b a0c a0d 5000)) (F_kt_Box_3 a1a a1b a1c a1d 5000)))) (F_kt_Box_3 a0a a0b a0c a0d 5000)))) && (ieq (F_sd_Join_3 2 (pushF 1 (fun _ => (F_kt_Box_0 a0a a0b a0c a0d 5000)) (F_kt_Box_0 a1a a1b a1c a1d 5000)) (pushF 1 (fun _ => (F_kt_Box_1 a0a a0b a0c a0d 5000)) (F_kt_Box_1 a1a a1b a1c a1d 5000)) (pushF 1 (fun _ => (F_kt_Box_2 a0a a0b a0c a0d 5000)) (F_kt_Box_2 a1a a1b a1c a1d 5000)) (pushF 1 (fun _ => (F_kt_Box_3 a0a a0b a0c a0d 5000)) (F_kt_Box_3 a1a a1b a1c a1d 5000))) (F_sd_Join_3 2 (pushF 1 (fun _ => (F_sd_Join_0 2 (pushF 1 (fun _ => (F_kt_Box_0 a0a a0b a0c a0d 5000)) (F_kt_Box_0 a1a a1b a1c a1d 5000)) (pushF 1 (fun _ => (F_kt_Box_1 a0a a0b a0c a0d 5000)) (F_kt_Box_1 a1a a1b a1c a1d 5000)) (pushF 1 (fun _ => (F_kt_Box_2 a0a a0b a0c a0d 5000)) (F_kt_Box_2 a1a a1b a1c a1d 5000)) (pushF 1 (fun _ => (F_kt_Box_3 a0a a0b a0c a0d 5000)) (F_kt_Box_3 a1a a1b a1c a1d 5000)))) (F_kt_Box_0 a0a a0b a0c a0d 5000)) (pushF 1 (fun _ => (F_sd_Join_1 2 (pushF 1 (fun _ => (F_kt_Box_0 a0a a0b a0c a0d 5000)) (F_kt_Box_0 a1a a1b a1c a1d 5000)) (pushF 1 (fun _ => (F_kt_Box_1 a0a a0b a0c a0d 5000)) (F_kt_Box_1 a1a a1b a1c a1d 5000)) (pushF 1 (fun _ => (F_kt_Box_2 a0a a0b a0c a0d 5000)) (F_kt_Box_2 a1a a1b a1c a1d 5000)) (pushF 1 (fun _ => (F_kt_Box_3 a0a a0b a0c a0d 5000)) (F_kt_Box_3 a1a a1b a1c a1d 5000)))) (F_kt_Box_1 a0a a0b a0c a0d 5000)) (pushF 1 (fun _ => (F_sd_Join_2 2 (pushF 1 (fun _ => (F_kt_Box_0 a0a a0b a0c a0d 5000)) (F_kt_Box_0 a1a a1b a1c a1d 5000)) (pushF 1 (fun _ => (F_kt_Box_1 a0a a0b a0c a0d 5000)) (F_kt_Box_1 a1a a1b a1c a1d 5000)) (pushF 1 (fun _ => (F_kt_Box_2 a0a a0b a0c a0d 5000)) (F_kt_Box_2 a1a a1b a1c a1d 5000)) (pushF 1 (fun _ => (F_kt_Box_3 a0a a0b a0c a0d 5000)) (F_kt_Box_3 a1a a1b a1c a1d 5000)))) (F_kt_Box_2 a0a a0b a0c a0d 5000)) (pushF 1 (fun _ => (F_sd_Join_3 2 (pushF 1 (fun _ => (F_kt_Box_0 a0a a0b a0c a0d 5000)) (F_kt_Box_0 a1a a1b a1c a1d 5000)) (pushF 1 (fun _ => (F_kt_Box_1 a0a a0b a0c a0d 5000)) (F_kt_Box_1 a1a a1b a1c a1d 5000)) (pushF 1 (fun _ => (F_kt_Box_2 a0a a0b a0c a0d 5000)) (F_kt_Box_2 a1a a1b a1c a1d 5000)) (pushF 1 (fun _ => (F_kt_Box_3 a0a a0b a0c a0d 5000)) (F_kt_Box_3 a1a a1b a1c a1d 5000)))) (F_kt_Box_3 a0a a0b a0c a0d 5000)))))))) (Ts 3 ((true = true ∧ Ts 1 (K0 false)))) (Ts 6 (((P_sd_Within (F_sd_Join_0 2 (pushF 1 (fun _ => (F_kt_Box_0 a0a a0b a0c a0d 5000)) (F_kt_Box_0 a1a a1b a1c a1d 5000)) (pushF 1 (fun _ => (F_kt_Box_1 a0a a0b a0c a0d 5000)) (F_kt_Box_1 a1a a1b a1c a1d 5000)) (pushF 1 (fun _ => (F_kt_Box_2 a0a a0b a0c a0d 5000)) (F_kt_Box_2 a1a a1b a1c a1d 5000)) (pushF 1 (fun _ => (F_kt_Box_3 a0a a0b a0c a0d 5000)) (F_kt_Box_3 a1a a1b a1c a1d 5000))) (F_sd_Join_1 2 (pushF 1 (fun _ => (F_kt_Box_0 a0a a0b a0c a0d 5000)) (F_kt_Box_0 a1a a1b a1c a1d 5000)) (pushF 1 (fun _ => (F_kt_Box_1 a0a a0b a0c a0d 5000)) (F_kt_Box_1 a1a a1b a1c a1d 5000)) (pushF 1 (fun _ => (F_kt_Box_2 a0a a0b a0c a0d 5000)) (F_kt_Box_2 a1a a1b a1c a1d 5000)) (pushF 1 (fun _ => (F_kt_Box_3 a0a a0b a0c a0d 5000)) (F_kt_Box_3 a1a a1b a1c a1d 5000))) (F_sd_Join_2 2 (pushF 1 (fun _ => (F_kt_Box_0 a0a a0b a0c a0d 5000)) (F_kt_Box_0 a1a a1b a1c a1d 5000)) (pushF 1 (fun _ => (F_kt_Box_1 a0a a0b a0c a0d 5000)) (F_kt_Box_1 a1a a1b a1c a1d 5000)) (pushF 1 (fun _ => (F_kt_Box_2 a0a a0b a0c a0d 5000)) (F_kt_Box_2 a1a a1b a1c a1d 5000)) (pushF 1 (fun _ => (F_kt_Box_3 a0a a0b a0c a0d 5000)) (F_kt_Box_3 a1a a1b a1c a1d 5000))) (F_sd_Join_3 2 (pushF 1 (fun _ => (F_kt_Box_0 a0a a0b a0c a0d 5000)) (F_kt_Box_0 a1a a1b a1c a1d 5000)) (pushF 1 (fun _ => (F_kt_Box_1 a0a a0b a0c a0d 5000)) (F_kt_Box_1 a1a a1b a1c a1d 5000)) (pushF 1 (fun _ => (F_kt_Box_2 a0a a0b a0c a0d 5000)) (F_kt_Box_2 a1a a1b a1c a1d 5000)) (pushF 1 (fun _ => (F_kt_Box_3 a0a a0b a0c a0d 5000)) (F_kt_Box_3 a1a a1b a1c a1d 5000))) (F_kt_Box_0 a0a a0b a0c a0d 5000) (F_kt_Box_3 a0a a0b a0c a0d 5000)) ∧ Ts 3 (cond (!(F_sd_Within_0 (F_sd_Join_0 2 (pushF 1 (fun _ => (F_kt_Box_0 a0a a0b a0c a0d 5000)) (F_kt_Box_0 a1a a1b a1c a1d 5000)) (pushF 1 (fun _ => (F_kt_Box_1 a0a a0b a0c a0d 5000)) (F_kt_Box_1 a1a a1b a1c a1d 5000)) (pushF 1 (fun _ => (F_kt_Box_2 a0a a0b a0c a0d 5000)) (F_kt_Box_2 a1a a1b a1c a1d 5000)) (pushF 1 (fun _ => (F_kt_Box_3 a0a a0b a0c a0d 5000)) (F_kt_Box_3 a1a a1b a1c a1d 5000))) (F_sd_Join_1 2 (pushF 1 (fun _ => (F_kt_Box_0 a0a a0b a0c a0d 5000)) (F_kt_Box_0 a1a a1b a1c a1d 5000)) (pushF 1 (fun _ => (F_kt_Box_1 a0a a0b a0c a0d 5000)) (F_kt_Box_1 a1a a1b a1c a1d 5000)) (pushF 1 (fun _ => (F_kt_Box_2 a0a a0b a0c a0d 5000)) (F_kt_Box_2 a1a a1b a1c a1d 5000)) (pushF 1 (fun _ => (F_kt_Box_3 a0a a0b a0c a0d 5000)) (F_kt_Box_3 a1a a1b a1c a1d 5000))) (F_sd_Join_2 2 (pushF 1 (fun _ => (F_kt_Box_0 a0a a0b a0c a0d 5000)) (F_kt_Box_0 a1a a1b a1c a1d 5000)) (pushF 1 (fun _ => (F_kt_Box_1 a0a a0b a0c a0d 5000)) (F_kt_Box_1 a1a a1b a1c a1d 5000)) (pushF 1 (fun _ => (F_kt_Box_2 a0a a0b a0c a0d 5000)) (F_kt_Box_2 a1a a1b a1c a1d 5000)) (pushF 1 (fun _ => (F_kt_Box_3 a0a a0b a0c a0d 5000)) (F_kt_Box_3 a1a a1b a1c a1d 5000))) (F_sd_Join_3 2 (pushF 1 (fun _ => (F_kt_Box_0 a0a a0b a0c a0d 5000)) (F_kt_Box_0 a1a a1b a1c a1d 5000)) (pushF 1 (fun _ => (F_kt_Box_1 a0a a0b a0c a0d 5000)) (F_kt_Box_1 a1a a1b a1c a1d 5000)) (pushF 1 (fun _ => (F_kt_Box_2 a0a a0b a0c a0d 5000)) (F_kt_Box_2 a1a a1b a1c a1d 5000)) (pushF 1 (fun _ => (F_kt_Box_3 a0a a0b a0c a0d 5000)) (F_kt_Box_3 a1a a1b a1c a1d 5000))) (F_kt_Box_0 a0a a0b a0c a0d 5000) (F_kt_Box_3 a0a a0b a0c a0d 5000))) (Ts 1 ((true = true ∧ Ts 1 (K0 false)))) (Ts 6 (((P_sd_Within (F_sd_Join_0 2 (pushF 1 (fun _ => (F_kt_Box_0 a0a a0b a0c a0d 5000)) (F_kt_Box_0 a1a a1b a1c a1d 5000)) (pushF 1 (fun _ => (F_kt_Box_1 a0a a0b a0c a0d 5000)) (F_kt_Box_1 a1a a1b a1c a1d 5000)) (pushF 1 (fun _ => (F_kt_Box_2 a0a a0b a0c a0d 5000)) (F_kt_Box_2 a1a a1b a1c a1d 5000)) (pushF 1 (fun _ => (F_kt_Box_3 a0a a0b a0c a0d 5000)) (F_kt_Box_3 a1a a1b a1c a1d 5000))) (F_sd_Join_1 2 (pushF 1 (fun _ => (F_kt_Box_0 a0a a0b a0c a0d 5000)) (F_kt_Box_0 a1a a1b a1c a1d 5000)) (pushF 1 (fun _ => (F_kt_Box_1 a0a a0b a0c a0d 5000)) (F_kt_Box_1 a1a a1b a1c a1d 5000)) (pushF 1 (fun _ => (F_kt_Box_2 a0a a0b a0c a0d 5000)) (F_kt_Box_2 a1a a1b a1c a1d 5000)) (pushF 1 (fun _ => (F_kt_Box_3 a0a a0b a0c a0d 5000)) (F_kt_Box_3 a1a a1b a1c a1d 5000))) (F_sd_Join_2 2 (pushF 1 (fun _ => (F_kt_Box_0 a0a a0b a0c a0d 5000)) (F_kt_Box_0 a1a a1b a1c a1d 5000)) (pushF 1 (fun _ => (F_kt_Box_1 a0a a0b a0c a0d 5000)) (F_kt_Box_1 a1a a1b a1c a1d 5000)) (pushF 1 (fun _ => (F_kt_Box_2 a0a a0b a0c a0d 5000)) (F_kt_Box_2 a1a a1b a1c a1d 5000)) (pushF 1 (fun _ => (F_kt_Box_3 a0a a0b a0c a0d 5000)) (F_kt_Box_3 a1a a1b a1c a1d 5000))) (F_sd_Join_3 2 (pushF 1 (fun _ => (F_kt_Box_0 a0a a0b a0c a0d 5000)) (F_kt_Box_0 a1a a1b a1c a1d 5000)) (pushF 1 (fun _ => (F_kt_Box_1 a0a a0b a0c a0d 5000)) (F_kt_Box_1 a1a a1b a1c a1d 5000)) (pushF 1 (fun _ => (F_kt_Box_2 a0a a0b a0c a0d 5000)) (F_kt_Box_2 a1a a1b a1c a1d 5000)) (pushF 1 (fun _ => (F_kt_Box_3 a0a a0b a0c a0d 5000)) (F_kt_Box_3 a1a a1b a1c a1d 5000))) (F_kt_Box_2 a1a a1b a1c a1d 5000) (F_kt_Box_1 a1a a1b a1c a1d 5000)) ∧ Ts 2 ((true = true ∧ cond (!(F_sd_Within_0 (F_sd_Join_0 2 (pushF 1 (fun _ => (F_kt_Box_0 a0a a0b a0c a0d 5000)) (F_kt_Box_0 a1a a1b a1c a1d 5000)) (pushF 1 (fun _ => (F_kt_Box_1 a0a a0b a0c a0d 5000)) (F_kt_Box_1 a1a a1b a1c a1d 5000)) (pushF 1 (fun _ => (F_kt_Box_2 a0a a0b a0c a0d 5000)) (F_kt_Box_2 a1a a1b a1c a1d 5000)) (pushF 1 (fun _ => (F_kt_Box_3 a0a a0b a0c a0d 5000)) (F_kt_Box_3 a1a a1b a1c a1d 5000))) (F_sd_Join_1 2 (pushF 1 (fun _ => (F_kt_Box_0 a0a a0b a0c a0d 5000)) (F_kt_Box_0 a1a a1b a1c a1d 5000)) (pushF 1 (fun _ => (F_kt_Box_1 a0a a0b a0c a0d 5000)) (F_kt_Box_1 a1a a1b a1c a1d 5000)) (pushF 1 (fun _ => (F_kt_Box_2 a0a a0b a0c a0d 5000)) (F_kt_Box_2 a1a a1b a1c a1d 5000)) (pushF 1 (fun _ => (F_kt_Box_3 a0a a0b a0c a0d 5000)) (F_kt_Box_3 a1a a1b a1c a1d 5000))) (F_sd_Join_2 2 (pushF 1 (fun _ => (F_kt_Box_0 a0a a0b a0c a0d 5000)) (F_kt_Box_0 a1a a1b a1c a1d 5000)) (pushF 1 (fun _ => (F_kt_Box_1 a0a a0b a0c a0d 5000)) (F_kt_Box_1 a1a a1b a1c a1d 5000)) (pushF 1 (fun _ => (F_kt_Box_2 a0a a0b a0c a0d 5000)) (F_kt_Box_2 a1a a1b a1c a1d 5000)) (pushF 1 (fun _ => (F_kt_Box_3 a0a a0b a0c a0d 5000)) (F_kt_Box_3 a1a a1b a1c a1d 5000))) (F_sd_Join_3 2 (pushF 1 (fun _ => (F_kt_Box_0 a0a a0b a0c a0d 5000)) (F_kt_Box_0 a1a a1b a1c a1d 5000)) (pushF 1 (fun _ => (F_kt_Box_1 a0a a0b a0c a0d 5000)) (F_kt_Box_1 a1a a1b a1c a1d 5000)) (pushF 1 (fun _ => (F_kt_Box_2 a0a a0b a0c a0d 5000)) (F_kt_Box_2 a1a a1b a1c a1d 5000)) (pushF 1 (fun _ => (F_kt_Box_3 a0a a0b a0c a0d 5000)) (F_kt_Box_3 a1a a1b a1c a1d 5000))) (F_kt_Box_2 a1a a1b a1c a1d 5000) (F_kt_Box_1 a1a a1b a1c a1d 5000))) (Ts 1 (K0 false)) (Ts 2 (((P_sd_Meets (F_kt_Box_0 a0a a0b a0c a0d 5000) (F_kt_Box_1 a0a a0b a0c a0d 5000) (F_kt_Box_2 a0a a0b a0c a0d 5000) (F_kt_Box_3 a0a a0b a0c a0d 5000) (F_kt_Box_0 a2a a2b a2c a2d 5000) (F_kt_Box_1 a2a a2b a2c a2d 5000) (F_kt_Box_2 a2a a2b a2c a2d 5000) (F_kt_Box_3 a2a a2b a2c a2d 5000)) ∧ Ts 1 (cond (F_sd_Meets_0 (F_kt_Box_0 a0a a0b a0c a0d 5000) (F_kt_Box_1 a0a a0b a0c a0d 5000) (F_kt_Box_2 a0a a0b a0c a0d 5000) (F_kt_Box_3 a0a a0b a0c a0d 5000) (F_kt_Box_0 a2a a2b a2c a2d 5000) (F_kt_Box_1 a2a a2b a2c a2d 5000) (F_kt_Box_2 a2a a2b a2c a2d 5000) (F_kt_Box_3 a2a a2b a2c a2d 5000)) (Ts 4 (((P_sd_Meets (F_sd_Join_0 2 (pushF 1 (fun _ => (F_kt_Box_0 a0a a0b a0c a0d 5000)) (F_kt_Box_0 a1a a1b a1c a1d 5000)) (pushF 1 (fun _ => (F_kt_Box_1 a0a a0b a0c a0d 5000)) (F_kt_Box_1 a1a a1b a1c a1d 5000)) (pushF 1 (fun _ => (F_kt_Box_2 a0a a0b a0c a0d 5000)) (F_kt_Box_2 a1a a1b a1c a1d 5000)) (pushF 1 (fun _ => (F_kt_Box_3 a0a a0b a0c a0d 5000)) (F_kt_Box_3 a1a a1b a1c a1d 5000))) (F_sd_Join_1 2 (pushF 1 (fun _ => (F_kt_Box_0 a0a a0b a0c a0d 5000)) (F_kt_Box_0 a1a a1b a1c a1d 5000)) (pushF 1 (fun _ => (F_kt_Box_1 a0a a0b a0c a0d 5000)) (F_kt_Box_1 a1a a1b a1c a1d 5000)) (pushF 1 (fun _ => (F_kt_Box_2 a0a a0b a0c a0d 5000)) (F_kt_Box_2 a1a a1b a1c a1d 5000)) (pushF 1 (fun _ => (F_kt_Box_3 a0a a0b a0c a0d 5000)) (F_kt_Box_3 a1a a1b a1c a1d 5000))) (F_sd_Join_2 2 (pushF 1 (fun _ => (F_kt_Box_0 a0a a0b a0c a0d 5000)) (F_kt_Box_0 a1a a1b a1c a1d 5000)) (pushF 1 (fun _ => (F_kt_Box_1 a0a a0b a0c a0d 5000)) (F_kt_Box_1 a1a a1b a1c a1d 5000)) (pushF 1 (fun _ => (F_kt_Box_2 a0a a0b a0c a0d 5000)) (F_kt_Box_2 a1a a1b a1c a1d 5000)) (pushF 1 (fun _ => (F_kt_Box_3 a0a a0b a0c a0d 5000)) (F_kt_Box_3 a1a a1b a1c a1d 5000))) (F_sd_Join_3 2 (pushF 1 (fun _ => (F_kt_Box_0 a0a a0b a0c a0d 5000)) (F_kt_Box_0 a1a a1b a1c a1d 5000)) (pushF 1 (fun _ => (F_kt_Box_1 a0a a0b a0c a0d 5000)) (F_kt_Box_1 a1a a1b a1c a1d 5000)) (pushF 1 (fun _ => (F_kt_Box_2 a0a a0b a0c a0d 5000)) (F_kt_Box_2 a1a a1b a1c a1d 5000)) (pushF 1 (fun _ => (F_kt_Box_3 a0a a0b a0c a0d 5000)) (F_kt_Box_3 a1a a1b a1c a1d 5000))) (F_kt_Box_0 a2a a2b a2c a2d 5000) (F_kt_Box_1 a2a a2b a2c a2d 5000) (F_kt_Box_2 a2a a2b a2c a2d 5000) (F_kt_Box_3 a2a a2b a2c a2d 5000)) ∧ Ts 3 (cond (!(F_sd_Meets_0 (F_sd_Join_0 2 (pushF 1 (fun _ => (F_kt_Box_0 a0a a0b a0c a0d 5000)) (F_kt_Box_0 a1a a1b a1c a1d 5000)) (pushF 1 (fun _ => (F_kt_Box_1 a0a a0b a0c a0d 5000)) (F_kt_Box_1 a1a a1b a1c a1d 5000)) (pushF 1 (fun _ => (F_kt_Box_2 a0a a0b a0c a0d 5000)) (F_kt_Box_2 a1a a1b a1c a1d 5000)) (pushF 1 (fun _ => (F_kt_Box_3 a0a a0b a0c a0d 5000)) (F_kt_Box_3 a1a a1b a1c a1d 5000))) (F_sd_Join_1 2 (pushF 1 (fun _ => (F_kt_Box_0 a0a a0b a0c a0d 5000)) (F_kt_Box_0 a1a a1b a1c a1d 5000)) (pushF 1 (fun _ => (F_kt_Box_1 a0a a0b a0c a0d 5000)) (F_kt_Box_1 a1a a1b a1c a1d 5000)) (pushF 1 (fun _ => (F_kt_Box_2 a0a a0b a0c a0d 5000)) (F_kt_Box_2 a1a a1b a1c a1d 5000)) (pushF 1 (fun _ => (F_kt_Box_3 a0a a0b a0c a0d 5000)) (F_kt_Box_3 a1a a1b a1c a1d 5000))) (F_sd_Join_2 2 (pushF 1 (fun _ => (F_kt_Box_0 a0a a0b a0c a0d 5000)) (F_kt_Box_0 a1a a1b a1c a1d 5000)) (pushF 1 (fun _ => (F_kt_Box_1 a0a a0b a0c a0d 5000)) (F_kt_Box_1 a1a a1b a1c a1d 5000)) (pushF 1 (fun _ => (F_kt_Box_2 a0a a0b a0c a0d 5000)) (F_kt_Box_2 a1a a1b a1c a1d 5000)) (pushF 1 (fun _ => (F_kt_Box_3 a0a a0b a0c a0d 5000)) (F_kt_Box_3 a1a a1b a1c a1d 5000))) (F_sd_Join_3 2 (pushF 1 (fun _ => (F_kt_Box_0 a0a a0b a0c a0d 5000)) (F_kt_Box_0 a1a a1b a1c a1d 5000)) (pushF 1 (fun _ => (F_kt_Box_1 a0a a0b a0c a0d 5000)) (F_kt_Box_1 a1a a1b a1c a1d 5000)) (pushF 1 (fun _ => (F_kt_Box_2 a0a a0b a0c a0d 5000)) (F_kt_Box_2 a1a a1b a1c a1d 5000)) (pushF 1 (fun _ => (F_kt_Box_3 a0a a0b a0c a0d 5000)) (F_kt_Box_3 a1a a1b a1c a1d 5000))) (F_kt_Box_0 a2a a2b a2c a2d 5000) (F_kt_Box_1 a2a a2b a2c a2d 5000) (F_kt_Box_2 a2a a2b a2c a2d 5000) (F_kt_Box_3 a2a a2b a2c a2d 5000))) (Ts 3 ((true = true ∧ Ts 1 (K0 false)))) (Ts 2 (((P_sd_Meets (F_kt_Box_0 a0a a0b a0c a0d 5000) (F_kt_Box_1 a0a a0b a0c a0d 5000) (F_kt_Box_2 a0a a0b a0c a0d 5000) (F_kt_Box_3 a0a a0b a0c a0d 5000) (F_kt_Box_0 a1a a1b a1c a1d 5000) (F_kt_Box_1 a1a a1b a1c a1d 5000) (F_kt_Box_2 a1a a1b a1c a1d 5000) (F_kt_Box_3 a1a a1b a1c a1d 5000)) ∧ Ts 2 (((P_sd_Meets (F_kt_Box_0 a1a a1b a1c a1d 5000) (F_kt_Box_1 a1a a1b a1c a1d 5000) (F_kt_Box_2 a1a a1b a1c a1d 5000) (F_kt_Box_3 a1a a1b a1c a1d 5000) (F_kt_Box_0 a0a a0b a0c a0d 5000) (F_kt_Box_1 a0a a0b a0c a0d 5000) (F_kt_Box_2 a0a a0b a0c a0d 5000) (F_kt_Box_3 a0a a0b a0c a0d 5000)) ∧ Ts 3 (cond (!(beqB (F_sd_Meets_0 (F_kt_Box_0 a0a a0b a0c a0d 5000) (F_kt_Box_1 a0a a0b a0c a0d 5000) (F_kt_Box_2 a0a a0b a0c a0d 5000) (F_kt_Box_3 a0a a0b a0c a0d 5000) (F_kt_Box_0 a1a a1b a1c a1d 5000) (F_kt_Box_1 a1a a1b a1c a1d 5000) (F_kt_Box_2 a1a a1b a1c a1d 5000) (F_kt_Box_3 a1a a1b a1c a1d 5000)) (F_sd_Meets_0 (F_kt_Box_0 a1a a1b a1c a1d 5000) (F_kt_Box_1 a1a a1b a1c a1d 5000) (F_kt_Box_2 a1a a1b a1c a1d 5000) (F_kt_Box_3 a1a a1b a1c a1d 5000) (F_kt_Box_0 a0a a0b a0c a0d 5000) (F_kt_Box_1 a0a a0b a0c a0d 5000) (F_kt_Box_2 a0a a0b a0c a0d 5000) (F_kt_Box_3 a0a a0b a0c a0d 5000)))) (Ts 1 ((true = true ∧ Ts 1 (K0 false)))) (Ts 2 (((P_sd_Meets (F_kt_Box_0 a0a a0b a0c a0d 5000) (F_kt_Box_1 a0a a0b a0c a0d 5000) (F_kt_Box_2 a0a a0b a0c a0d 5000) (F_kt_Box_3 a0a a0b a0c a0d 5000) (F_kt_Box_0 a0a a0b a0c a0d 5000) (F_kt_Box_1 a0a a0b a0c a0d 5000) (F_kt_Box_2 a0a a0b a0c a0d 5000) (F_kt_Box_3 a0a a0b a0c a0d 5000)) ∧ Ts 2 ((true = true ∧ cond (!(F_sd_Meets_0 (F_kt_Box_0 a0a a0b a0c a0d 5000) (F_kt_Box_1 a0a a0b a0c a0d 5000) (F_kt_Box_2 a0a a0b a0c a0d 5000) (F_kt_Box_3 a0a a0b a0c a0d 5000) (F_kt_Box_0 a0a a0b a0c a0d 5000) (F_kt_Box_1 a0a a0b a0c a0d 5000) (F_kt_Box_2 a0a a0b a0c a0d 5000) (F_kt_Box_3 a0a a0b a0c a0d 5000))) (Ts 1 (K0 false)) (Ts 1 (((P_kt_Mod a3 100001) ∧ Ts 1 (((P_kt_Mod a4 100001) ∧ Ts 4 (((P_sd_Grow (F_kt_Box_0 a0a a0b a0c a0d 5000) (F_kt_Box_1 a0a a0b a0c a0d 5000) (F_kt_Box_2 a0a a0b a0c a0d 5000) (F_kt_Box_3 a0a a0b a0c a0d 5000) (F_kt_Mod_0 a3 100001)) ∧ Ts 1 (((P_sd_Grow (F_sd_Grow_0 (F_kt_Box_0 a0a a0b a0c a0d 5000) (F_kt_Box_1 a0a a0b a0c a0d 5000) (F_kt_Box_2 a0a a0b a0c a0d 5000) (F_kt_Box_3 a0a a0b a0c a0d 5000) (F_kt_Mod_0 a3 100001)) (F_sd_Grow_1 (F_kt_Box_0 a0a a0b a0c a0d 5000) (F_kt_Box_1 a0a a0b a0c a0d 5000) (F_kt_Box_2 a0a a0b a0c a0d 5000) (F_kt_Box_3 a0a a0b a0c a0d 5000) (F_kt_Mod_0 a3 100001)) (F_sd_Grow_2 (F_kt_Box_0 a0a a0b a0c a0d 5000) (F_kt_Box_1 a0a a0b a0c a0d 5000) (F_kt_Box_2 a0a a0b a0c a0d 5000) (F_kt_Box_3 a0a a0b a0c a0d 5000) (F_kt_Mod_0 a3 100001)) (F_sd_Grow_3 (F_kt_Box_0 a0a a0b a0c a0d 5000) (F_kt_Box_1 a0a a0b a0c a0d 5000) (F_kt_Box_2 a0a a0b a0c a0d 5000) (F_kt_Box_3 a0a a0b a0c a0d 5000) (F_kt_Mod_0 a3 100001)) (F_kt_Mod_0 a4 100001)) ∧ Ts 4 (((P_sd_Grow (F_kt_Box_0 a0a a0b a0c a0d 5000) (F_kt_Box_1 a0a a0b a0c a0d 5000) (F_kt_Box_2 a0a a0b a0c a0d 5000) (F_kt_Box_3 a0a a0b a0c a0d 5000) (iadd .i64 (F_kt_Mod_0 a3 100001) (F_kt_Mod_0 a4 100001))) ∧ Ts 2 (cond ((ieq (F_sd_Grow_0 (F_sd_Grow_0 (F_kt_Box_0 a0a a0b a0c a0d 5000) (F_kt_Box_1 a0a a0b a0c a0d 5000) (F_kt_Box_2 a0a a0b a0c a0d 5000) (F_kt_Box_3 a0a a0b a0c a0d 5000) (F_kt_Mod_0 a3 100001)) (F_sd_Grow_1 (F_kt_Box_0 a0a a0b a0c a0d 5000) (F_kt_Box_1 a0a a0b a0c a0d 5000) (F_kt_Box_2 a0a a0b a0c a0d 5000) (F_kt_Box_3 a0a a0b a0c a0d 5000) (F_kt_Mod_0 a3 100001)) (F_sd_Grow_2 (F_kt_Box_0 a0a a0b a0c a0d 5000) (F_kt_Box_1 a0a a0b a0c a0d 5000) (F_kt_Box_2 a0a a0b a0c a0d 5000) (F_kt_Box_3 a0a a0b a0c a0d 5000) (F_kt_Mod_0 a3 100001)) (F_sd_Grow_3 (F_kt_Box_0 a0a a0b a0c a0d 5000) (F_kt_Box_1 a0a a0b a0c a0d 5000) (F_kt_Box_2 a0a a0b a0c a0d 5000) (F_kt_Box_3 a0a a0b a0c a0d 5000) (F_kt_Mod_0 a3 100001)) (F_kt_Mod_0 a4 100001)) (F_sd_Grow_0 (F_kt_Box_0 a0a a0b a0c a0d 5000) (F_kt_Box_1 a0a a0b a0c a0d 5000) (F_kt_Box_2 a0a a0b a0c a0d 5000) (F_kt_Box_3 a0a a0b a0c a0d 5000) (iadd .i64 (F_kt_Mod_0 a3 100001) (F_kt_Mod_0 a4 100001)))) && ((ieq (F_sd_Grow_1 (F_sd_Grow_0 (F_kt_Box_0 a0a a0b a0c a0d 5000) (F_kt_Box_1 a0a a0b a0c a0d 5000) (F_kt_Box_2 a0a a0b a0c a0d 5000) (F_kt_Box_3 a0a a0b a0c a0d 5000) (F_kt_Mod_0 a3 100001)) (F_sd_Grow_1 (F_kt_Box_0 a0a a0b a0c a0d 5000) (F_kt_Box_1 a0a a0b a0c a0d 5000) (F_kt_Box_2 a0a a0b a0c a0d 5000) (F_kt_Box_3 a0a a0b a0c a0d 5000) (F_kt_Mod_0 a3 100001)) (F_sd_Grow_2 (F_kt_Box_0 a0a a0b a0c a0d 5000) (F_kt_Box_1 a0a a0b a0c a0d 5000) (F_kt_Box_2 a0a a0b a0c a0d 5000) (F_kt_Box_3 a0a a0b a0c a0d 5000) (F_kt_Mod_0 a3 100001)) (F_sd_Grow_3 (F_kt_Box_0 a0a a0b a0c a0d 5000) (F_kt_Box_1 a0a a0b a0c a0d 5000) (F_kt_Box_2 a0a a0b a0c a0d 5000) (F_kt_Box_3 a0a a0b a0c a0d 5000) (F_kt_Mod_0 a3 100001)) (F_kt_Mod_0 a4 100001)) (F_sd_Grow_1 (F_kt_Box_0 a0a a0b a0c a0d 5000) (F_kt_Box_1 a0a a0b a0c a0d 5000) (F_kt_Box_2 a0a a0b a0c a0d 5000) (F_kt_Box_3 a0a a0b a0c a0d 5000) (iadd .i64 (F_kt_Mod_0 a3 100001) (F_kt_Mod_0 a4 100001)))) && ((ieq (F_sd_Grow_2 (F_sd_Grow_0 (F_kt_Box_0 a0a a0b a0c a0d 5000) (F_kt_Box_1 a0a a0b a0c a0d 5000) (F_kt_Box_2 a0a a0b a0c a0d 5000) (F_kt_Box_3 a0a a0b a0c a0d 5000) (F_kt_Mod_0 a3 100001)) (F_sd_Grow_1 (F_kt_Box_0 a0a a0b a0c a0d 5000) (F_kt_Box_1 a0a a0b a0c a0d 5000) (F_kt_Box_2 a0a a0b a0c a0d 5000) (F_kt_Box_3 a0a a0b a0c a0d 5000) (F_kt_Mod_0 a3 100001)) (F_sd_Grow_2 (F_kt_Box_0 a0a a0b a0c a0d 5000) (F_kt_Box_1 a0a a0b a0c a0d 5000) (F_kt_Box_2 a0a a0b a0c a0d 5000) (F_kt_Box_3 a0a a0b a0c a0d 5000) (F_kt_Mod_0 a3 100001)) (F_sd_Grow_3 (F_kt_Box_0 a0a a0b a0c a0d 5000) (F_kt_Box_1 a0a a0b a0c a0d 5000) (F_kt_Box_2 a0a a0b a0c a0d 5000) (F_kt_Box_3 a0a a0b a0c a0d 5000) (F_kt_Mod_0 a3 100001)) (F_kt_Mod_0 a4 100001)) (F_sd_Grow_2 (F_kt_Box_0 a0a a0b a0c a0d 5000) (F_kt_Box_1 a0a a0b a0c a0d 5000) (F_kt_Box_2 a0a a0b a0c a0d 5000) (F_kt_Box_3 a0a a0b a0c a0d 5000) (iadd .i64 (F_kt_Mod_0 a3 100001) (F_kt_Mod_0 a4 100001)))) && (ieq (F_sd_Grow_3 (F_sd_Grow_0 (F_kt_Box_0 a0a a0b a0c a0d 5000) (F_kt_Box_1 a0a a0b a0c a0d 5000) (F_kt_Box_2 a0a a0b a0c a0d 5000) (F_kt_Box_3 a0a a0b a0c a0d 5000) (F_kt_Mod_0 a3 100001)) (F_sd_Grow_1 (F_kt_Box_0 a0a a0b a0c a0d 5000) (F_kt_Box_1 a0a a0b a0c a0d 5000) (F_kt_Box_2 a0a a0b a0c a0d 5000) (F_kt_Box_3 a0a a0b a0c a0d 5000) (F_kt_Mod_0 a3 100001)) (F_sd_Grow_2 (F_kt_Box_0 a0a a0b a0c a0d 5000) (F_kt_Box_1 a0a a0b a0c a0d 5000) (F_kt_Box_2 a0a a0b a0c a0d 5000) (F_kt_Box_3 a0a a0b a0c a0d 5000) (F_kt_Mod_0 a3 100001)) (F_sd_Grow_3 (F_kt_Box_0 a0a a0b a0c a0d 5000) (F_kt_Box_1 a0a a0b a0c a0d 5000) (F_kt_Box_2 a0a a0b a0c a0d 5000) (F_kt_Box_3 a0a a0b a0c a0d 5000) (F_kt_Mod_0 a3 100001)) (F_kt_Mod_0 a4 100001)) (F_sd_Grow_3 (F_kt_Box_0 a0a a0b a0c a0d 5000) (F_kt_Box_1 a0a a0b a0c a0d 5000) (F_kt_Box_2 a0a a0b a0c a0d 5000) (F_kt_Box_3 a0a a0b a0c a0d 5000) (iadd .i64 (F_kt_Mod_0 a3 100001) (F_kt_Mod_0 a4 100001))))))) (((P_lw_awake ) ∧ Ts 2 ((true = true ∧ K0 F_lw_awake_0)))) (Ts 2 ((true = true ∧ K0 false)))))))))))))))))))))))))))))) (Ts 2 (((P_sd_Meets (F_kt_Box_0 a1a a1b a1c a1d 5000) (F_kt_Box_1 a1a a1b a1c a1d 5000) (F_kt_Box_2 a1a a1b a1c a1d 5000) (F_kt_Box_3 a1a a1b a1c a1d 5000) (F_kt_Box_0 a2a a2b a2c a2d 5000) (F_kt_Box_1 a2a a2b a2c a2d 5000) (F_kt_Box_2 a2a a2b a2c a2d 5000) (F_kt_Box_3 a2a a2b a2c a2d 5000)) ∧ Ts 2 (cond (F_sd_Meets_0 (F_kt_Box_0 a1a a1b a1c a1d 5000) (F_kt_Box_1 a1a a1b a1c a1d 5000) (F_kt_Box_2 a1a a1b a1c a1d 5000) (F_kt_Box_3 a1a a1b a1c a1d 5000) (F_kt_Box_0 a2a a2b a2c a2d 5000) (F_kt_Box_1 a2a a2b a2c a2d 5000) (F_kt_Box_2 a2a a2b a2c a2d 5000) (F_kt_Box_3 a2a a2b a2c a2d 5000)) (Ts 2 (((P_sd_Meets (F_sd_Join_0 2 (pushF 1 (fun _ => (F_kt_Box_0 a0a a0b a0c a0d 5000)) (F_kt_Box_0 a1a a1b a1c a1d 5000)) (pushF 1 (fun _ => (F_kt_Box_1 a0a a0b a0c a0d 5000)) (F_kt_Box_1 a1a a1b a1c a1d 5000)) (pushF 1 (fun _ => (F_kt_Box_2 a0a a0b a0c a0d 5000)) (F_kt_Box_2 a1a a1b a1c a1d 5000)) (pushF 1 (fun _ => (F_kt_Box_3 a0a a0b a0c a0d 5000)) (F_kt_Box_3 a1a a1b a1c a1d 5000))) (F_sd_Join_1 2 (pushF 1 (fun _ => (F_kt_Box_0 a0a a0b a0c a0d 5000)) (F_kt_Box_0 a1a a1b a1c a1d 5000)) (pushF 1 (fun _ => (F_kt_Box_1 a0a a0b a0c a0d 5000)) (F_kt_Box_1 a1a a1b a1c a1d 5000)) (pushF 1 (fun _ => (F_kt_Box_2 a0a a0b a0c a0d 5000)) (F_kt_Box_2 a1a a1b a1c a1d 5000)) (pushF 1 (fun _ => (F_kt_Box_3 a0a a0b a0c a0d 5000)) (F_kt_Box_3 a1a a1b a1c a1d 5000))) (F_sd_Join_2 2 (pushF 1 (fun _ => (F_kt_Box_0 a0a a0b a0c a0d 5000)) (F_kt_Box_0 a1a a1b a1c a1d 5000)) (pushF 1 (fun _ => (F_kt_Box_1 a0a a0b a0c a0d 5000)) (F_kt_Box_1 a1a a1b a1c a1d 5000)) (pushF 1 (fun _ => (F_kt_Box_2 a0a a0b a0c a0d 5000)) (F_kt_Box_2 a1a a1b a1c a1d 5000)) (pushF 1 (fun _ => (F_kt_Box_3 a0a a0b a0c a0d 5000)) (F_kt_Box_3 a1a a1b a1c a1d 5000))) (F_sd_Join_3 2 (pushF 1 (fun _ => (F_kt_Box_0 a0a a0b a0c a0d 5000)) (F_kt_Box_0 a1a a1b a1c a1d 5000)) (pushF 1 (fun _ => (F_kt_Box_1 a0a a0b a0c a0d 5000)) (F_kt_Box_1 a1a a1b a1c a1d 5000)) (pushF 1 (fun _ => (F_kt_Box_2 a0a a0b a0c a0d 5000)) (F_kt_Box_2 a1a a1b a1c a1d 5000)) (pushF 1 (fun _ => (F_kt_Box_3 a0a a0b a0c a0d 5000)) (F_kt_Box_3 a1a a1b a1c a1d 5000))) (F_kt_Box_0 a2a a2b a2c a2d 5000) (F_kt_Box_1 a2a a2b a2c a2d 5000) (F_kt_Box_2 a2a a2b a2c a2d 5000) (F_kt_Box_3 a2a a2b a2c a2d 5000)) ∧ Ts 3 (cond (!(F_sd_Meets_0 (F_sd_Join_0 2 (pushF 1 (fun _ => (F_kt_Box_0 a0a a0b a0c a0d 5000)) (F_kt_Box_0 a1a a1b a1c a1d 5000)) (pushF 1 (fun _ => (F_kt_Box_1 a0a a0b a0c a0d 5000)) (F_kt_Box_1 a1a a1b a1c a1d 5000)) (pushF 1 (fun _ => (F_kt_Box_2 a0a a0b a0c a0d 5000)) (F_kt_Box_2 a1a a1b a1c a1d 5000)) (pushF 1 (fun _ => (F_kt_Box_3 a0a a0b a0c a0d 5000)) (F_kt_Box_3 a1a a1b a1c a1d 5000))) (F_sd_Join_1 2 (pushF 1 (fun _ => (F_kt_Box_0 a0a a0b a0c a0d 5000)) (F_kt_Box_0 a1a a1b a1c a1d 5000)) (pushF 1 (fun _ => (F_kt_Box_1 a0a a0b a0c a0d 5000)) (F_kt_Box_1 a1a a1b a1c a1d 5000)) (pushF 1 (fun _ => (F_kt_Box_2 a0a a0b a0c a0d 5000)) (F_kt_Box_2 a1a a1b a1c a1d 5000)) (pushF 1 (fun _ => (F_kt_Box_3 a0a a0b a0c a0d 5000)) (F_kt_Box_3 a1a a1b a1c a1d 5000))) (F_sd_Join_2 2 (pushF 1 (fun _ => (F_kt_Box_0 a0a a0b a0c a0d 5000)) (F_kt_Box_0 a1a a1b a1c a1d 5000)) (pushF 1 (fun _ => (F_kt_Box_1 a0a a0b a0c a0d 5000)) (F_kt_Box_1 a1a a1b a1c a1d 5000)) (pushF 1 (fun _ => (F_kt_Box_2 a0a a0b a0c a0d 5000)) (F_kt_Box_2 a1a a1b a1c a1d 5000)) (pushF 1 (fun _ => (F_kt_Box_3 a0a a0b a0c a0d 5000)) (F_kt_Box_3 a1a a1b a1c a1d 5000))) (F_sd_Join_3 2 (pushF 1 (fun _ => (F_kt_Box_0 a0a a0b a0c a0d 5000)) (F_kt_Box_0 a1a a1b a1c a1d 5000)) (pushF 1 (fun _ => (F_kt_Box_1 a0a a0b a0c a0d 5000)) (F_kt_Box_1 a1a a1b a1c a1d 5000)) (pushF 1 (fun _ => (F_kt_Box_2 a0a a0b a0c a0d 5000)) (F_kt_Box_2 a1a a1b a1c a1d 5000)) (pushF 1 (fun _ => (F_kt_Box_3 a0a a0b a0c a0d 5000)) (F_kt_Box_3 a1a a1b a1c a1d 5000))) (F_kt_Box_0 a2a a2b a2c a2d 5000) (F_kt_Box_1 a2a a2b a2c a2d 5000) (F_kt_Box_2 a2a a2b a2c a2d 5000) (F_kt_Box_3 a2a a2b a2c a2d 5000))) (Ts 3 ((true = true ∧ Ts 1 (K0 false)))) (Ts 2 (((P_sd_Meets (F_kt_Box_0 a0a a0b a0c a0d 5000) (F_kt_Box_1 a0a a0b a0c a0d 5000) (F_kt_Box_2 a0a a0b a0c a0d 5000) (F_kt_Box_3 a0a a0b a0c a0d 5000) (F_kt_Box_0 a1a a1b a1c a1d 5000) (F_kt_Box_1 a1a a1b a1c a1d 5000) (F_kt_Box_2 a1a a1b a1c a1d 5000) (F_kt_Box_3 a1a a1b a1c a1d 5000)) ∧ Ts 2 (((P_sd_Meets (F_kt_Box_0 a1a a1b a1c a1d 5000) (F_kt_Box_1 a1a a1b a1c a1d 5000) (F_kt_Box_2 a1a a1b a1c a1d 5000) (F_kt_Box_3 a1a a1b a1c a1d 5000) (F_kt_Box_0 a0a a0b a0c a0d 5000) (F_kt_Box_1 a0a a0b a0c a0d 5000) (F_kt_Box_2 a0a a0b a0c a0d 5000) (F_kt_Box_3 a0a a0b a0c a0d 5000)) ∧ Ts 3 (cond (!(beqB (F_sd_Meets_0 (F_kt_Box_0 a0a a0b a0c a0d 5000) (F_kt_Box_1 a0a a0b a0c a0d 5000) (F_kt_Box_2 a0a a0b a0c a0d 5000) (F_kt_Box_3 a0a a0b a0c a0d 5000) (F_kt_Box_0 a1a a1b a1c a1d 5000) (F_kt_Box_1 a1a a1b a1c a1d 5000) (F_kt_Box_2 a1a a1b a1c a1d 5000) (F_kt_Box_3 a1a a1b a1c a1d 5000)) (F_sd_Meets_0 (F_kt_Box_0 a1a a1b a1c a1d 5000) (F_kt_Box_1 a1a a1b a1c a1d 5000) (F_kt_Box_2 a1a a1b a1c a1d 5000) (F_kt_Box_3 a1a a1b a1c a1d 5000) (F_kt_Box_0 a0a a0b a0c a0d 5000) (F_kt_Box_1 a0a a0b a0c a0d 5000) (F_kt_Box_2 a0a a0b a0c a0d 5000) (F_kt_Box_3 a0a a0b a0c a0d 5000)))) (Ts 1 ((true = true ∧ Ts 1 (K0 false)))) (Ts 2 (((P_sd_Meets (F_kt_Box_0 a0a a0b a0c a0d 5000) (F_kt_Box_1 a0a a0b a0c a0d 5000) (F_kt_Box_2 a0a a0b a0c a0d 5000) (F_kt_Box_3 a0a a0b a0c a0d 5000) (F_kt_Box_0 a0a a0b a0c a0d 5000) (F_kt_Box_1 a0a a0b a0c a0d 5000) (F_kt_Box_2 a0a a0b a0c a0d 5000) (F_kt_Box_3 a0a a0b a0c a0d 5000)) ∧ Ts 2 ((true = true ∧ cond (!(F_sd_Meets_0 (F_kt_Box_0 a0a a0b a0c a0d 5000) (F_kt_Box_1 a0a a0b a0c a0d 5000) (F_kt_Box_2 a0a a0b a0c a0d 5000) (F_kt_Box_3 a0a a0b a0c a0d 5000) (F_kt_Box_0 a0a a0b a0c a0d 5000) (F_kt_Box_1 a0a a0b a0c a0d 5000) (F_kt_Box_2 a0a a0b a0c a0d 5000) (F_kt_Box_3 a0a a0b a0c a0d 5000))) (Ts 1 (K0 false)) (Ts 1 (((P_kt_Mod a3 100001) ∧ Ts 1 (((P_kt_Mod a4 100001) ∧ Ts 4 (((P_sd_Grow (F_kt_Box_0 a0a a0b a0c a0d 5000) (F_kt_Box_1 a0a a0b a0c a0d 5000) (F_kt_Box_2 a0a a0b a0c a0d 5000) (F_kt_Box_3 a0a a0b a0c a0d 5000) (F_kt_Mod_0 a3 100001)) ∧ Ts 1 (((P_sd_Grow (F_sd_Grow_0 (F_kt_Box_0 a0a a0b a0c a0d 5000) (F_kt_Box_1 a0a a0b a0c a0d 5000) (F_kt_Box_2 a0a a0b a0c a0d 5000) (F_kt_Box_3 a0a a0b a0c a0d 5000) (F_kt_Mod_0 a3 100001)) (F_sd_Grow_1 (F_kt_Box_0 a0a a0b a0c a0d 5000) (F_kt_Box_1 a0a a0b a0c a0d 5000) (F_kt_Box_2 a0a a0b a0c a0d 5000) (F_kt_Box_3 a0a a0b a0c a0d 5000) (F_kt_Mod_0 a3 100001)) (F_sd_Grow_2 (F_kt_Box_0 a0a a0b a0c a0d 5000) (F_kt_Box_1 a0a a0b a0c a0d 5000) (F_kt_Box_2 a0a a0b a0c a0d 5000) (F_kt_Box_3 a0a a0b a0c a0d 5000) (F_kt_Mod_0 a3 100001)) (F_sd_Grow_3 (F_kt_Box_0 a0a a0b a0c a0d 5000) (F_kt_Box_1 a0a a0b a0c a0d 5000) (F_kt_Box_2 a0a a0b a0c a0d 5000) (F_kt_Box_3 a0a a0b a0c a0d 5000) (F_kt_Mod_0 a3 100001)) (F_kt_Mod_0 a4 100001)) ∧ Ts 4 (((P_sd_Grow (F_kt_Box_0 a0a a0b a0c a0d 5000) (F_kt_Box_1 a0a a0b a0c a0d 5000) (F_kt_Box_2 a0a a0b a0c a0d 5000) (F_kt_Box_3 a0a a0b a0c a0d 5000) (iadd .i64 (F_kt_Mod_0 a3 100001) (F_kt_Mod_0 a4 100001))) ∧ Ts 2 (cond ((ieq (F_sd_Grow_0 (F_sd_Grow_0 (F_kt_Box_0 a0a a0b a0c a0d 5000) (F_kt_Box_1 a0a a0b a0c a0d 5000) (F_kt_Box_2 a0a a0b a0c a0d 5000) (F_kt_Box_3 a0a a0b a0c a0d 5000) (F_kt_Mod_0 a3 100001)) (F_sd_Grow_1 (F_kt_Box_0 a0a a0b a0c a0d 5000) (F_kt_Box_1 a0a a0b a0c a0d 5000) (F_kt_Box_2 a0a a0b a0c a0d 5000) (F_kt_Box_3 a0a a0b a0c a0d 5000) (F_kt_Mod_0 a3 100001)) (F_sd_Grow_2 (F_kt_Box_0 a0a a0b a0c a0d 5000) (F_kt_Box_1 a0a a0b a0c a0d 5000) (F_kt_Box_2 a0a a0b a0c a0d 5000) (F_kt_Box_3 a0a a0b a0c a0d 5000) (F_kt_Mod_0 a3 100001)) (F_sd_Grow_3 (F_kt_Box_0 a0a a0b a0c a0d 5000) (F_kt_Box_1 a0a a0b a0c a0d 5000) (F_kt_Box_2 a0a a0b a0c a0d 5000) (F_kt_Box_3 a0a a0b a0c a0d 5000) (F_kt_Mod_0 a3 100001)) (F_kt_Mod_0 a4 100001)) (F_sd_Grow_0 (F_kt_Box_0 a0a a0b a0c a0d 5000) (F_kt_Box_1 a0a a0b a0c a0d 5000) (F_kt_Box_2 a0a a0b a0c a0d 5000) (F_kt_Box_3 a0a a0b a0c a0d 5000) (iadd .i64 (F_kt_Mod_0 a3 100001) (F_kt_Mod_0 a4 100001)))) && ((ieq (F_sd_Grow_1 (F_sd_Grow_0 (F_kt_Box_0 a0a a0b a0c a0d 5000) (F_kt_Box_1 a0a a0b a0c a0d 5000) (F_kt_Box_2 a0a a0b a0c a0d 5000) (F_kt_Box_3 a0a a0b a0c a0d 5000) (F_kt_Mod_0 a3 100001)) (F_sd_Grow_1 (F_kt_Box_0 a0a a0b a0c a0d 5000) (F_kt_Box_1 a0a a0b a0c a0d 5000) (F_kt_Box_2 a0a a0b a0c a0d 5000) (F_kt_Box_3 a0a a0b a0c a0d 5000) (F_kt_Mod_0 a3 100001)) (F_sd_Grow_2 (F_kt_Box_0 a0a a0b a0c a0d 5000) (F_kt_Box_1 a0a a0b a0c a0d 5000) (F_kt_Box_2 a0a a0b a0c a0d 5000) (F_kt_Box_3 a0a a0b a0c a0d 5000) (F_kt_Mod_0 a3 100001)) (F_sd_Grow_3 (F_kt_Box_0 a0a a0b a0c a0d 5000) (F_kt_Box_1 a0a a0b a0c a0d 5000) (F_kt_Box_2 a0a a0b a0c a0d 5000) (F_kt_Box_3 a0a a0b a0c a0d 5000) (F_kt_Mod_0 a3 100001)) (F_kt_Mod_0 a4 100001)) (F_sd_Grow_1 (F_kt_Box_0 a0a a0b a0c a0d 5000) (F_kt_Box_1 a0a a0b a0c a0d 5000) (F_kt_Box_2 a0a a0b a0c a0d 5000) (F_kt_Box_3 a0a a0b a0c a0d 5000) (iadd .i64 (F_kt_Mod_0 a3 100001) (F_kt_Mod_0 a4 100001)))) && ((ieq (F_sd_Grow_2 (F_sd_Grow_0 (F_kt_Box_0 a0a a0b a0c a0d 5000) (F_kt_Box_1 a0a a0b a0c a0d 5000) (F_kt_Box_2 a0a a0b a0c a0d 5000) (F_kt_Box_3 a0a a0b a0c a0d 5000) (F_kt_Mod_0 a3 100001)) (F_sd_Grow_1 (F_kt_Box_0 a0a a0b a0c a0d 5000) (F_kt_Box_1 a0a a0b a0c a0d 5000) (F_kt_Box_2 a0a a0b a0c a0d 5000) (F_kt_Box_3 a0a a0b a0c a0d 5000) (F_kt_Mod_0 a3 100001)) (F_sd_Grow_2 (F_kt_Box_0 a0a a0b a0c a0d 5000) (F_kt_Box_1 a0a a0b a0c a0d 5000) (F_kt_Box_2 a0a a0b a0c a0d 5000) (F_kt_Box_3 a0a a0b a0c a0d 5000) (F_kt_Mod_0 a3 100001)) (F_sd_Grow_3 (F_kt_Box_0 a0a a0b a0c a0d 5000) (F_kt_Box_1 a0a a0b a0c a0d 5000) (F_kt_Box_2 a0a a0b a0c a0d 5000) (F_kt_Box_3 a0a a0b a0c a0d 5000) (F_kt_Mod_0 a3 100001)) (F_kt_Mod_0 a4 100001)) (F_sd_Grow_2 (F_kt_Box_0 a0a a0b a0c a0d 5000) (F_kt_Box_1 a0a a0b a0c a0d 5000) (F_kt_Box_2 a0a a0b a0c a0d 5000) (F_kt_Box_3 a0a a0b a0c a0d 5000) (iadd .i64 (F_kt_Mod_0 a3 100001) (F_kt_Mod_0 a4 100001)))) && (ieq (F_sd_Grow_3 (F_sd_Grow_0 (F_kt_Box_0 a0a a0b a0c a0d 5000) (F_kt_Box_1 a0a a0b a0c a0d 5000) (F_kt_Box_2 a0a a0b a0c a0d 5000) (F_kt_Box_3 a0a a0b a0c a0d 5000) (F_kt_Mod_0 a3 100001)) (F_sd_Grow_1 (F_kt_Box_0 a0a a0b a0c a0d 5000) (F_kt_Box_1 a0a a0b a0c a0d 5000) (F_kt_Box_2 a0a a0b a0c a0d 5000) (F_kt_Box_3 a0a a0b a0c a0d 5000) (F_kt_Mod_0 a3 100001)) (F_sd_Grow_2 (F_kt_Box_0 a0a a0b a0c a0d 5000) (F_kt_Box_1 a0a a0b a0c a0d 5000) (F_kt_Box_2 a0a a0b a0c a0d 5000) (F_kt_Box_3 a0a a0b a0c a0d 5000) (F_kt_Mod_0 a3 100001)) (F_sd_Grow_3 (F_kt_Box_0 a0a a0b a0c a0d 5000) (F_kt_Box_1 a0a a0b a0c a0d 5000) (F_kt_Box_2 a0a a0b a0c a0d 5000) (F_kt_Box_3 a0a a0b a0c a0d 5000) (F_kt_Mod_0 a3 100001)) (F_kt_Mod_0 a4 100001)) (F_sd_Grow_3 (F_kt_Box_0 a0a a0b a0c a0d 5000) (F_kt_Box_1 a0a a0b a0c a0d 5000) (F_kt_Box_2 a0a a0b a0c a0d 5000) (F_kt_Box_3 a0a a0b a0c a0d 5000) (iadd .i64 (F_kt_Mod_0 a3 100001) (F_kt_Mod_0 a4 100001))))))) (((P_lw_awake ) ∧ Ts 2 ((true = true ∧ K0 F_lw_awake_0)))) (Ts 2 ((true = true ∧ K0 false)))))))))))))))))))))))))))))) (Ts 4 (((P_sd_Meets (F_kt_Box_0 a0a a0b a0c a0d 5000) (F_kt_Box_1 a0a a0b a0c a0d 5000) (F_kt_Box_2 a0a a0b a0c a0d 5000) (F_kt_Box_3 a0a a0b a0c a0d 5000) (F_kt_Box_0 a1a a1b a1c a1d 5000) (F_kt_Box_1 a1a a1b a1c a1d 5000) (F_kt_Box_2 a1a a1b a1c a1d 5000) (F_kt_Box_3 a1a a1b a1c a1d 5000)) ∧ Ts 2 (((P_sd_Meets (F_kt_Box_0 a1a a1b a1c a1d 5000) (F_kt_Box_1 a1a a1b a1c a1d 5000) (F_kt_Box_2 a1a a1b a1c a1d 5000) (F_kt_Box_3 a1a a1b a1c a1d 5000) (F_kt_Box_0 a0a a0b a0c a0d 5000) (F_kt_Box_1 a0a a0b a0c a0d 5000) (F_kt_Box_2 a0a a0b a0c a0d 5000) (F_kt_Box_3 a0a a0b a0c a0d 5000)) ∧ Ts 3 (cond (!(beqB (F_sd_Meets_0 (F_kt_Box_0 a0a a0b a0c a0d 5000) (F_kt_Box_1 a0a a0b a0c a0d 5000) (F_kt_Box_2 a0a a0b a0c a0d 5000) (F_kt_Box_3 a0a a0b a0c a0d 5000) (F_kt_Box_0 a1a a1b a1c a1d 5000) (F_kt_Box_1 a1a a1b a1c a1d 5000) (F_kt_Box_2 a1a a1b a1c a1d 5000) (F_kt_Box_3 a1a a1b a1c a1d 5000)) (F_sd_Meets_0 (F_kt_Box_0 a1a a1b a1c a1d 5000) (F_kt_Box_1 a1a a1b a1c a1d 5000) (F_kt_Box_2 a1a a1b a1c a1d 5000) (F_kt_Box_3 a1a a1b a1c a1d 5000) (F_kt_Box_0 a0a a0b a0c a0d 5000) (F_kt_Box_1 a0a a0b a0c a0d 5000) (F_kt_Box_2 a0a a0b a0c a0d 5000) (F_kt_Box_3 a0a a0b a0c a0d 5000)))) (Ts 1 ((true = true ∧ Ts 1 (K0 false)))) (Ts 2 (((P_sd_Meets (F_kt_Box_0 a0a a0b a0c a0d 5000) (F_kt_Box_1 a0a a0b a0c a0d 5000) (F_kt_Box_2 a0a a0b a0c a0d 5000) (F_kt_Box_3 a0a a0b a0c a0d 5000) (F_kt_Box_0 a0a a0b a0c a0d 5000) (F_kt_Box_1 a0a a0b a0c a0d 5000) (F_kt_Box_2 a0a a0b a0c a0d 5000) (F_kt_Box_3 a0a a0b a0c a0d 5000)) ∧ Ts 2 ((true = true ∧ cond (!(F_sd_Meets_0 (F_kt_Box_0 a0a a0b a0c a0d 5000) (F_kt_Box_1 a0a a0b a0c a0d 5000) (F_kt_Box_2 a0a a0b a0c a0d 5000) (F_kt_Box_3 a0a a0b a0c a0d 5000) (F_kt_Box_0 a0a a0b a0c a0d 5000) (F_kt_Box_1 a0a a0b a0c a0d 5000) (F_kt_Box_2 a0a a0b a0c a0d 5000) (F_kt_Box_3 a0a a0b a0c a0d 5000))) (Ts 1 (K0 false)) (Ts 1 (((P_kt_Mod a3 100001) ∧ Ts 1 (((P_kt_Mod a4 100001) ∧ Ts 4 (((P_sd_Grow (F_kt_Box_0 a0a a0b a0c a0d 5000) (F_kt_Box_1 a0a a0b a0c a0d 5000) (F_kt_Box_2 a0a a0b a0c a0d 5000) (F_kt_Box_3 a0a a0b a0c a0d 5000) (F_kt_Mod_0 a3 100001)) ∧ Ts 1 (((P_sd_Grow (F_sd_Grow_0 (F_kt_Box_0 a0a a0b a0c a0d 5000) (F_kt_Box_1 a0a a0b a0c a0d 5000) (F_kt_Box_2 a0a a0b a0c a0d 5000) (F_kt_Box_3 a0a a0b a0c a0d 5000) (F_kt_Mod_0 a3 100001)) (F_sd_Grow_1 (F_kt_Box_0 a0a a0b a0c a0d 5000) (F_kt_Box_1 a0a a0b a0c a0d 5000) (F_kt_Box_2 a0a a0b a0c a0d 5000) (F_kt_Box_3 a0a a0b a0c a0d 5000) (F_kt_Mod_0 a3 100001)) (F_sd_Grow_2 (F_kt_Box_0 a0a a0b a0c a0d 5000) (F_kt_Box_1 a0a a0b a0c a0d 5000) (F_kt_Box_2 a0a a0b a0c a0d 5000) (F_kt_Box_3 a0a a0b a0c a0d 5000) (F_kt_Mod_0 a3 100001)) (F_sd_Grow_3 (F_kt_Box_0 a0a a0b a0c a0d 5000) (F_kt_Box_1 a0a a0b a0c a0d 5000) (F_kt_Box_2 a0a a0b a0c a0d 5000) (F_kt_Box_3 a0a a0b a0c a0d 5000) (F_kt_Mod_0 a3 100001)) (F_kt_Mod_0 a4 100001)) ∧ Ts 4 (((P_sd_Grow (F_kt_Box_0 a0a a0b a0c a0d 5000) (F_kt_Box_1 a0a a0b a0c a0d 5000) (F_kt_Box_2 a0a a0b a0c a0d 5000) (F_kt_Box_3 a0a a0b a0c a0d 5000) (iadd .i64 (F_kt_Mod_0 a3 100001) (F_kt_Mod_0 a4 100001))) ∧ Ts 2 (cond ((ieq (F_sd_Grow_0 (F_sd_Grow_0 (F_kt_Box_0 a0a a0b a0c a0d 5000) (F_kt_Box_1 a0a a0b a0c a0d 5000) (F_kt_Box_2 a0a a0b a0c a0d 5000) (F_kt_Box_3 a0a a0b a0c a0d 5000) (F_kt_Mod_0 a3 100001)) (F_sd_Grow_1 (F_kt_Box_0 a0a a0b a0c a0d 5000) (F_kt_Box_1 a0a a0b a0c a0d 5000) (F_kt_Box_2 a0a a0b a0c a0d 5000) (F_kt_Box_3 a0a a0b a0c a0d 5000) (F_kt_Mod_0 a3 100001)) (F_sd_Grow_2 (F_kt_Box_0 a0a a0b a0c a0d 5000) (F_kt_Box_1 a0a a0b a0c a0d 5000) (F_kt_Box_2 a0a a0b a0c a0d 5000) (F_kt_Box_3 a0a a0b a0c a0d 5000) (F_kt_Mod_0 a3 100001)) (F_sd_Grow_3 (F_kt_Box_0 a0a a0b a0c a0d 5000) (F_kt_Box_1 a0a a0b a0c a0d 5000) (F_kt_Box_2 a0a a0b a0c a0d 5000) (F_kt_Box_3 a0a a0b a0c a0d 5000) (F_kt_Mod_0 a3 100001)) (F_kt_Mod_0 a4 100001)) (F_sd_Grow_0 (F_kt_Box_0 a0a a0b a0c a0d 5000) (F_kt_Box_1 a0a a0b a0c a0d 5000) (F_kt_Box_2 a0a a0b a0c a0d 5000) (F_kt_Box_3 a0a a0b a0c a0d 5000) (iadd .i64 (F_kt_Mod_0 a3 100001) (F_kt_Mod_0 a4 100001)))) && ((ieq (F_sd_Grow_1 (F_sd_Grow_0 (F_kt_Box_0 a0a a0b a0c a0d 5000) (F_kt_Box_1 a0a a0b a0c a0d 5000) (F_kt_Box_2 a0a a0b a0c a0d 5000) (F_kt_Box_3 a0a a0b a0c a0d 5000) (F_kt_Mod_0 a3 100001)) (F_sd_Grow_1 (F_kt_Box_0 a0a a0b a0c a0d 5000) (F_kt_Box_1 a0a a0b a0c a0d 5000) (F_kt_Box_2 a0a a0b a0c a0d 5000) (F_kt_Box_3 a0a a0b a0c a0d 5000) (F_kt_Mod_0 a3 100001)) (F_sd_Grow_2 (F_kt_Box_0 a0a a0b a0c a0d 5000) (F_kt_Box_1 a0a a0b a0c a0d 5000) (F_kt_Box_2 a0a a0b a0c a0d 5000) (F_kt_Box_3 a0a a0b a0c a0d 5000) (F_kt_Mod_0 a3 100001)) (F_sd_Grow_3 (F_kt_Box_0 a0a a0b a0c a0d 5000) (F_kt_Box_1 a0a a0b a0c a0d 5000) (F_kt_Box_2 a0a a0b a0c a0d 5000) (F_kt_Box_3 a0a a0b a0c a0d 5000) (F_kt_Mod_0 a3 100001)) (F_kt_Mod_0 a4 100001)) (F_sd_Grow_1 (F_kt_Box_0 a0a a0b a0c a0d 5000) (F_kt_Box_1 a0a a0b a0c a0d 5000) (F_kt_Box_2 a0a a0b a0c a0d 5000) (F_kt_Box_3 a0a a0b a0c a0d 5000) (iadd .i64 (F_kt_Mod_0 a3 100001) (F_kt_Mod_0 a4 100001)))) && ((ieq (F_sd_Grow_2 (F_sd_Grow_0 (F_kt_Box_0 a0a a0b a0c a0d 5000) (F_kt_Box_1 a0a a0b a0c a0d 5000) (F_kt_Box_2 a0a a0b a0c a0d 5000) (F_kt_Box_3 a0a a0b a0c a0d 5000) (F_kt_Mod_0 a3 100001)) (F_sd_Grow_1 (F_kt_Box_0 a0a a0b a0c a0d 5000) (F_kt_Box_1 a0a a0b a0c a0d 5000) (F_kt_Box_2 a0a a0b a0c a0d 5000) (F_kt_Box_3 a0a a0b a0c a0d 5000) (F_kt_Mod_0 a3 100001)) (F_sd_Grow_2 (F_kt_Box_0 a0a a0b a0c a0d 5000) (F_kt_Box_1 a0a a0b a0c a0d 5000) (F_kt_Box_2 a0a a0b a0c a0d 5000) (F_kt_Box_3 a0a a0b a0c a0d 5000) (F_kt_Mod_0 a3 100001)) (F_sd_Grow_3 (F_kt_Box_0 a0a a0b a0c a0d 5000) (F_kt_Box_1 a0a a0b a0c a0d 5000) (F_kt_Box_2 a0a a0b a0c a0d 5000) (F_kt_Box_3 a0a a0b a0c a0d 5000) (F_kt_Mod_0 a3 100001)) (F_kt_Mod_0 a4 100001)) (F_sd_Grow_2 (F_kt_Box_0 a0a a0b a0c a0d 5000) (F_kt_Box_1 a0a a0b a0c a0d 5000) (F_kt_Box_2 a0a a0b a0c a0d 5000) (F_kt_Box_3 a0a a0b a0c a0d 5000) (iadd .i64 (F_kt_Mod_0 a3 100001) (F_kt_Mod_0 a4 100001)))) && (ieq (F_sd_Grow_3 (F_sd_Grow_0 (F_kt_Box_0 a0a a0b a0c a0d 5000) (F_kt_Box_1 a0a a0b a0c a0d 5000) (F_kt_Box_2 a0a a0b a0c a0d 5000) (F_kt_Box_3 a0a a0b a0c a0d 5000) (F_kt_Mod_0 a3 100001)) (F_sd_Grow_1 (F_kt_Box_0 a0a a0b a0c a0d 5000) (F_kt_Box_1 a0a a0b a0c a0d 5000) (F_kt_Box_2 a0a a0b a0c a0d 5000) (F_kt_Box_3 a0a a0b a0c a0d 5000) (F_kt_Mod_0 a3 100001)) (F_sd_Grow_2 (F_kt_Box_0 a0a a0b a0c a0d 5000) (F_kt_Box_1 a0a a0b a0c a0d 5000) (F_kt_Box_2 a0a a0b a0c a0d 5000) (F_kt_Box_3 a0a a0b a0c a0d 5000) (F_kt_Mod_0 a3 100001)) (F_sd_Grow_3 (F_kt_Box_0 a0a a0b a0c a0d 5000) (F_kt_Box_1 a0a a0b a0c a0d 5000) (F_kt_Box_2 a0a a0b a0c a0d 5000) (F_kt_Box_3 a0a a0b a0c a0d 5000) (F_kt_Mod_0 a3 100001)) (F_kt_Mod_0 a4 100001)) (F_sd_Grow_3 (F_kt_Box_0 a0a a0b a0c a0d 5000) (F_kt_Box_1 a0a a0b a0c a0d 5000) (F_kt_Box_2 a0a a0b a0c a0d 5000) (F_kt_Box_3 a0a a0b a0c a0d 5000) (iadd .i64 (F_kt_Mod_0 a3 100001) (F_kt_Mod_0 a4 100001))))))) (((P_lw_awake ) ∧ Ts 2 ((true = true ∧ K0 F_lw_awake_0)))) (Ts 2 ((true = true ∧ K0 false))))))))))))))))))))))))))))))))))))))))))))))))))))))))))))))))))))))))))))))))))))))
theorem cond_f {b : Bool} {p q : Prop} (h : b = false) (hq : q) : cond b p q := by subst h; exact hq
theorem cond_t {b : Bool} {p q : Prop} (h : b = true) (hp : p) : cond b p q := by subst h; exact hp
theorem not_f {b : Bool} (h : b = true) : (!b) = false := by subst h; rfl
theorem join2 {a b c d e f g h : Int} (h1 : okBox a b c d) (h2 : okBox e f g h) : F_sd_Join_0 2 (pushF 1 (fun _ => a) e) (pushF 1 (fun _ => b) f) (pushF 1 (fun _ => c) g) (pushF 1 (fun _ => d) h) = min a e ∧
    F_sd_Join_1 2 (pushF 1 (fun _ => a) e) (pushF 1 (fun _ => b) f) (pushF 1 (fun _ => c) g) (pushF 1 (fun _ => d) h) = min b f ∧ F_sd_Join_2 2 (pushF 1 (fun _ => a) e) (pushF 1 (fun _ => b) f) (pushF 1 (fun _ => c) g) (pushF 1 (fun _ => d) h) = max c g ∧
    F_sd_Join_3 2 (pushF 1 (fun _ => a) e) (pushF 1 (fun _ => b) f) (pushF 1 (fun _ => c) g) (pushF 1 (fun _ => d) h) = max d h := by
  have hok : ok_sd_Join 2 (pushF 1 (fun _ => a) e) (pushF 1 (fun _ => b) f) (pushF 1 (fun _ => c) g) (pushF 1 (fun _ => d) h) = true := ok_sd_Join_iff.2 fun k hk => by
    have : k = 0 ∨ k = 1 := by omega
    rcases this with rfl | rfl
    · exact (check_0 a b c d).2 h1
    · exact (check_0 e f g h).2 h2
  unfold F_sd_Join_0 F_sd_Join_1 F_sd_Join_2 F_sd_Join_3
  rw [hok]
  exact ⟨rfl, rfl, rfl, rfl⟩
theorem okP {a b c d : Int} (h1 : okBox a b c d) : P_sd_CheckBox a b c d := by
  unfold okBox boxIn at h1
  exact checkP (i64_small (by omega) (by omega)) (i64_small (by omega) (by omega)) (i64_small (by omega) (by omega)) (i64_small (by omega) (by omega))
theorem joinP2 {a b c d e f g h : Int} (h1 : okBox a b c d) (h2 : okBox e f g h) : P_sd_Join 2 (pushF 1 (fun _ => a) e) (pushF 1 (fun _ => b) f) (pushF 1 (fun _ => c) g) (pushF 1 (fun _ => d) h) := by
  refine ⟨by omega, fun k hk => ?_⟩
  have : k = 0 ∨ k = 1 := by omega
  rcases this with rfl | rfl
  · exact (okP h1 : P_sd_CheckBox a b c d)
  · exact (okP h2 : P_sd_CheckBox e f g h)
theorem boxM {a b c d e f g h : Int} (h1 : okBox a b c d) (h2 : okBox e f g h) : P_sd_Meets a b c d e f g h := ⟨okP h1, cond_intro (fun _ => trivial) (fun _ => okP h2)⟩
theorem okW {a b c d x y : Int} (h1 : okBox a b c d) (hx : -2097152 ≤ x ∧ x ≤ 2097152) (hy : -2097152 ≤ y ∧ y ≤ 2097152) : P_sd_Within a b c d x y := by
  refine ⟨okP h1, cond_intro (fun _ => trivial) (fun _ => ?_)⟩
  unfold F_sd_grown_0 F_sd_grown_1 F_sd_grown_2 F_sd_grown_3
  rw [isub64 (by omega) (by omega), isub64 (by omega) (by omega), iadd64 (by omega) (by omega), iadd64 (by omega) (by omega)]
  exact checkP (i64_small (by omega) (by omega)) (i64_small (by omega) (by omega)) (i64_small (by omega) (by omega)) (i64_small (by omega) (by omega))
theorem growOk {a b c d : Int} (r : Int) (h1 : okBox a b c d) : F_sd_Grow_0 a b c d r = max (a - max 0 (min r 4194304)) (-2097152) ∧ F_sd_Grow_1 a b c d r = max (b - max 0 (min r 4194304)) (-2097152) ∧ F_sd_Grow_2 a b c d r = min (c + max 0 (min r 4194304)) 2097152 ∧ F_sd_Grow_3 a b c d r = min (d + max 0 (min r 4194304)) 2097152 := by
  have := grow_sd a b c d r
  unfold okBox at h1
  rw [if_pos h1] at this
  simpa only [Prod.mk.injEq] using this
theorem mod_in (x : Int) : P_kt_Mod x 100001 ∧ 0 ≤ F_kt_Mod_0 x 100001 ∧ F_kt_Mod_0 x 100001 ≤ 100000 := by
  have h1 := Int.tmod_lt_of_pos x (show (0 : Int) < 100001 by omega)
  have h2 : -100001 < x.tmod 100001 := by
    have := Int.tmod_lt_of_pos (-x) (show (0 : Int) < 100001 by omega)
    rw [Int.neg_tmod] at this
    omega
  refine ⟨by unfold P_kt_Mod; omega, ?_⟩
  unfold F_kt_Mod_0
  rw [irem_eq]
  cases h : ilt (x.tmod 100001) 0 with
  | true => rw [ilt_t] at h; simp only [cond_true]; rw [iadd64 (by omega) (by omega)]; omega
  | false => rw [ilt_f] at h; simp only [cond_false]; omega
theorem spot_in (x y : Int) : P_kt_Spot x y 5000 ∧ (-5000 ≤ F_kt_Spot_0 x y 5000 ∧ F_kt_Spot_0 x y 5000 ≤ 5000) ∧ (-5000 ≤ F_kt_Spot_1 x y 5000 ∧ F_kt_Spot_1 x y 5000 ≤ 5000) := by
  have key : ∀ x : Int, -5000 ≤ x.tmod 5001 ∧ x.tmod 5001 ≤ 5000 := by
    intro x
    have h1 := Int.tmod_lt_of_pos x (show (0 : Int) < 5001 by omega)
    have h2 : -5001 < x.tmod 5001 := by
      have := Int.tmod_lt_of_pos (-x) (show (0 : Int) < 5001 by omega)
      rw [Int.neg_tmod] at this
      omega
    omega
  have e : iadd .i64 5000 1 = 5001 := by rw [iadd64] <;> omega
  unfold P_kt_Spot F_kt_Spot_0 F_kt_Spot_1
  rw [e, irem_eq]
  exact ⟨⟨by omega, by omega⟩, key x, key y⟩
theorem box_in (a b c d : Int) : P_kt_Box a b c d 5000 ∧ -5000 ≤ F_kt_Box_0 a b c d 5000 ∧ F_kt_Box_0 a b c d 5000 ≤ F_kt_Box_2 a b c d 5000 ∧ F_kt_Box_2 a b c d 5000 ≤ 5000 ∧ -5000 ≤ F_kt_Box_1 a b c d 5000 ∧ F_kt_Box_1 a b c d 5000 ≤ F_kt_Box_3 a b c d 5000 ∧ F_kt_Box_3 a b c d 5000 ≤ 5000 := by
  obtain ⟨p1, q1, r1⟩ := spot_in a b
  obtain ⟨p2, q2, r2⟩ := spot_in c d
  unfold P_kt_Box F_kt_Box_0 F_kt_Box_1 F_kt_Box_2 F_kt_Box_3
  rw [imin_m, imin_m, imax_m, imax_m]
  exact ⟨⟨p1, p2⟩, by omega, by omega, by omega, by omega, by omega, by omega⟩
def P_lw_SolidJoins (a0a : Int) (a0b : Int) (a0c : Int) (a0d : Int) (a1a : Int) (a1b : Int) (a1c : Int) (a1d : Int) (a2a : Int) (a2b : Int) (a2c : Int) (a2d : Int) (a3 : Int) (a4 : Int) : Prop := True
def F_lw_SolidJoins_0 (a0a : Int) (a0b : Int) (a0c : Int) (a0d : Int) (a1a : Int) (a1b : Int) (a1c : Int) (a1d : Int) (a2a : Int) (a2b : Int) (a2c : Int) (a2d : Int) (a3 : Int) (a4 : Int) : Bool := true
theorem H_lw_SolidJoins (a0a : Int) (a0b : Int) (a0c : Int) (a0d : Int) (a1a : Int) (a1b : Int) (a1c : Int) (a1d : Int) (a2a : Int) (a2b : Int) (a2c : Int) (a2d : Int) (a3 : Int) (a4 : Int) {K0 : Bool → Prop} (h : P_lw_SolidJoins a0a a0b a0c a0d a1a a1b a1c a1d a2a a2b a2c a2d a3 a4) (hK : K0 (F_lw_SolidJoins_0 a0a a0b a0c a0d a1a a1b a1c a1d a2a a2b a2c a2d a3 a4)) : B_lw_SolidJoins a0a a0b a0c a0d a1a a1b a1c a1d a2a a2b a2c a2d a3 a4 K0 := by
  have hK : K0 true := hK
  unfold B_lw_SolidJoins
  simp only [Ts_iff, true_and]
  obtain ⟨pA, hA⟩ := box_in a0a a0b a0c a0d
  obtain ⟨pB, hB⟩ := box_in a1a a1b a1c a1d
  obtain ⟨pC, hC⟩ := box_in a2a a2b a2c a2d
  obtain ⟨pM, hM⟩ := mod_in a3
  obtain ⟨pN, hN⟩ := mod_in a4
  repeat' first | refine ⟨by decide, ?_⟩ | fail
  refine ⟨pA, ?_⟩
  repeat' first | refine ⟨by decide, ?_⟩ | fail
  refine ⟨pB, ?_⟩
  repeat' first | refine ⟨by decide, ?_⟩ | fail
  refine ⟨pC, ?_⟩
  clear pA pB pC
  generalize F_kt_Box_0 a0a a0b a0c a0d 5000 = A0 at *
  generalize F_kt_Box_1 a0a a0b a0c a0d 5000 = A1 at *
  generalize F_kt_Box_2 a0a a0b a0c a0d 5000 = A2 at *
  generalize F_kt_Box_3 a0a a0b a0c a0d 5000 = A3 at *
  generalize F_kt_Box_0 a1a a1b a1c a1d 5000 = B0 at *
  generalize F_kt_Box_1 a1a a1b a1c a1d 5000 = B1 at *
  generalize F_kt_Box_2 a1a a1b a1c a1d 5000 = B2 at *
  generalize F_kt_Box_3 a1a a1b a1c a1d 5000 = B3 at *
  generalize F_kt_Box_0 a2a a2b a2c a2d 5000 = C0 at *
  generalize F_kt_Box_1 a2a a2b a2c a2d 5000 = C1 at *
  generalize F_kt_Box_2 a2a a2b a2c a2d 5000 = C2 at *
  generalize F_kt_Box_3 a2a a2b a2c a2d 5000 = C3 at *
  generalize F_kt_Mod_0 a3 100001 = M at *
  generalize F_kt_Mod_0 a4 100001 = N at *
  have oA : okBox A0 A1 A2 A3 := by unfold okBox boxIn; omega
  have oB : okBox B0 B1 B2 B3 := by unfold okBox boxIn; omega
  have oC : okBox C0 C1 C2 C3 := by unfold okBox boxIn; omega
  have oJ : okBox (min A0 B0) (min A1 B1) (max A2 B2) (max A3 B3) := by unfold okBox boxIn; omega
  obtain ⟨j0, j1, j2, j3⟩ := join2 oA oB
  obtain ⟨k0, k1, k2, k3⟩ := join2 oB oA
  obtain ⟨l0, l1, l2, l3⟩ := join2 oJ oA
  refine ⟨joinP2 oA oB, ?_⟩
  simp only [j0, j1, j2, j3]
  clear j0 j1 j2 j3
  refine ⟨okP oJ, ?_⟩
  refine cond_f (by rw [ine_f]; exact (check_0 _ _ _ _).2 oJ) ?_
  refine ⟨joinP2 oB oA, ?_⟩
  simp only [k0, k1, k2, k3]
  clear k0 k1 k2 k3
  refine cond_f (not_f (by rw [ieq_t.2 (show min A0 B0 = min B0 A0 by omega), ieq_t.2 (show min A1 B1 = min B1 A1 by omega), ieq_t.2 (show max A2 B2 = max B2 A2 by omega), ieq_t.2 (show max A3 B3 = max B3 A3 by omega)]; rfl)) ?_
  refine ⟨joinP2 oJ oA, ?_⟩
  simp only [l0, l1, l2, l3]
  clear l0 l1 l2 l3
  refine cond_f (not_f (by rw [ieq_t.2 (show min A0 B0 = min (min A0 B0) A0 by omega), ieq_t.2 (show min A1 B1 = min (min A1 B1) A1 by omega), ieq_t.2 (show max A2 B2 = max (max A2 B2) A2 by omega), ieq_t.2 (show max A3 B3 = max (max A3 B3) A3 by omega)]; rfl)) ?_
  refine ⟨okW oJ (by omega) (by omega), ?_⟩
  refine cond_f (not_f ((within_sd _ _ _ _ _ _ (i64_small (by omega) (by omega)) (i64_small (by omega) (by omega))).2 ⟨oJ, by omega, by omega, by omega, by omega⟩)) ?_
  refine ⟨okW oJ (by omega) (by omega), ?_⟩
  refine cond_f (not_f ((within_sd _ _ _ _ _ _ (i64_small (by omega) (by omega)) (i64_small (by omega) (by omega))).2 ⟨oJ, by omega, by omega, by omega, by omega⟩)) ?_
  refine ⟨boxM oA oC, ?_⟩
  have oG : okBox (A0 - M) (A1 - M) (A2 + M) (A3 + M) := by unfold okBox boxIn; omega
  have aMN : iadd .i64 M N = M + N := iadd64 (by omega) (by omega)
  have g0 : F_sd_Grow_0 A0 A1 A2 A3 M = A0 - M := by rw [(growOk M oA).1]; omega
  have g1 : F_sd_Grow_1 A0 A1 A2 A3 M = A1 - M := by rw [(growOk M oA).2.1]; omega
  have g2 : F_sd_Grow_2 A0 A1 A2 A3 M = A2 + M := by rw [(growOk M oA).2.2.1]; omega
  have g3 : F_sd_Grow_3 A0 A1 A2 A3 M = A3 + M := by rw [(growOk M oA).2.2.2]; omega
  have e0 : F_sd_Grow_0 (A0 - M) (A1 - M) (A2 + M) (A3 + M) N = F_sd_Grow_0 A0 A1 A2 A3 (M + N) := by rw [(growOk _ oA).1, (growOk _ oG).1]; omega
  have e1 : F_sd_Grow_1 (A0 - M) (A1 - M) (A2 + M) (A3 + M) N = F_sd_Grow_1 A0 A1 A2 A3 (M + N) := by rw [(growOk _ oA).2.1, (growOk _ oG).2.1]; omega
  have e2 : F_sd_Grow_2 (A0 - M) (A1 - M) (A2 + M) (A3 + M) N = F_sd_Grow_2 A0 A1 A2 A3 (M + N) := by rw [(growOk _ oA).2.2.1, (growOk _ oG).2.2.1]; omega
  have e3 : F_sd_Grow_3 (A0 - M) (A1 - M) (A2 + M) (A3 + M) N = F_sd_Grow_3 A0 A1 A2 A3 (M + N) := by rw [(growOk _ oA).2.2.2, (growOk _ oG).2.2.2]; omega
  have mAB : (!(beqB (F_sd_Meets_0 A0 A1 A2 A3 B0 B1 B2 B3) (F_sd_Meets_0 B0 B1 B2 B3 A0 A1 A2 A3))) = false := beq_self (bool_eq (meets_sd _ _ _ _ _ _ _ _) (meets_sd _ _ _ _ _ _ _ _) ⟨fun ⟨h1, h2, h3, h4, h5, h6⟩ => ⟨h2, h1, h4, h3, h6, h5⟩, fun ⟨h1, h2, h3, h4, h5, h6⟩ => ⟨h2, h1, h4, h3, h6, h5⟩⟩)
  have mAA : (!(F_sd_Meets_0 A0 A1 A2 A3 A0 A1 A2 A3)) = false := not_f ((meets_sd _ _ _ _ _ _ _ _).2 ⟨oA, oA, by omega, by omega, by omega, by omega⟩)
  simp only [aMN, g0, g1, g2, g3, e0, e1, e2, e3, mAB, mAA, cond_false, ieq_t.2, Bool.and_self, cond_true, joinP2, boxM oA oB, boxM oB oA, boxM oA oA, true_and, pM, pN, show P_sd_Grow A0 A1 A2 A3 M from okP oA, show P_sd_Grow (A0 - M) (A1 - M) (A2 + M) (A3 + M) N from okP oG, show P_sd_Grow A0 A1 A2 A3 (M + N) from okP oA, awakeP, awake_true, hK, boxM oB oC, boxM oJ oC]
  refine cond_intro (fun hc => ?_) (fun hc => cond_intro (fun hc => ?_) (fun hc => trivial))
  · rw [meets_sd] at hc
    refine cond_f (not_f ((meets_sd _ _ _ _ _ _ _ _).2 ⟨oJ, oC, by omega, by omega, by omega, by omega⟩)) trivial
  · rw [meets_sd] at hc
    refine cond_f (not_f ((meets_sd _ _ _ _ _ _ _ _).2 ⟨oJ, oC, by omega, by omega, by omega, by omega⟩)) trivial
end
end Go.Ag
