import Derived.Test.YtbcegholicnflaaBgV
set_option linter.unusedVariables false
set_option linter.unusedSimpArgs false
set_option maxRecDepth 100000
namespace Go.Ag
open Go.RowKit
noncomputable section
/-! ### bagatelle/solid.fair -/
def B_sd_fair_0 (a0n : Nat) (a0a : Nat → Int) (a0b : Nat → Int) (v0t7 : Int) (c : Int → Prop) (x0 : Int → Prop) (x1 : Int → Prop)  : Prop := Ts 1 (cond (ilt v0t7 ((a0n : Nat) : Int)) (((0 ≤ v0t7 ∧ v0t7 < ((a0n : Nat) : Int)) ∧ Ts 16 (cond (igt (imax (imax (imax (a0a (Int.toNat v0t7)) (ineg .i64 (a0a (Int.toNat v0t7)))) (a0b (Int.toNat v0t7))) (ineg .i64 (a0b (Int.toNat v0t7)))) 2097152) (Ts 4 (x1 v0t7)) (Ts 5 (cond (ilt (a0a (Int.toNat v0t7)) (-2097152)) (Ts 2 (x1 v0t7)) (Ts 4 (cond (ilt (a0b (Int.toNat v0t7)) (-2097152)) (Ts 1 (x1 v0t7)) (Ts 2 (c (iadd .i64 v0t7 1)))))))))) (x0 v0t7))
def W_sd_fair_0 (a0n : Nat) (a0a : Nat → Int) (a0b : Nat → Int) : Nat → Int → (Int → Prop) → (Int → Prop) → Prop
  | 0, _, _, _ => False
  | f + 1, w0, x0, x1 => B_sd_fair_0 a0n a0a a0b w0 (fun u0 => W_sd_fair_0 a0n a0a a0b f u0 x0 x1) x0 x1 
theorem BM_sd_fair_0 (a0n : Nat) (a0a : Nat → Int) (a0b : Nat → Int) (v0t7 : Int) {c c' : Int → Prop} {x0 y0 : Int → Prop} {x1 y1 : Int → Prop} (hc : ∀ w0, c w0 → c' w0) (h0 : ∀ o0, x0 o0 → y0 o0) (h1 : ∀ o0, x1 o0 → y1 o0) : B_sd_fair_0 a0n a0a a0b v0t7 c x0 x1  → B_sd_fair_0 a0n a0a a0b v0t7 c' y0 y1  := by
  unfold B_sd_fair_0
  repeat' first
    | exact hc _
    | exact h0 _
    | exact h1 _
    | refine Ts_imp ?_
    | refine cond_imp ?_ ?_
    | refine and_imp' ?_
theorem WM_sd_fair_0 (a0n : Nat) (a0a : Nat → Int) (a0b : Nat → Int) {x0 y0 : Int → Prop} {x1 y1 : Int → Prop} (h0 : ∀ o0, x0 o0 → y0 o0) (h1 : ∀ o0, x1 o0 → y1 o0) : ∀ (f : Nat) (v0t7 : Int), W_sd_fair_0 a0n a0a a0b f v0t7 x0 x1 → W_sd_fair_0 a0n a0a a0b f v0t7 y0 y1
  | 0, w0 => fun h => h
  | f + 1, w0 => BM_sd_fair_0 a0n a0a a0b w0 (fun u0 => WM_sd_fair_0 a0n a0a a0b h0 h1 f u0) h0 h1
def B_sd_fair (a0n : Nat) (a0a : Nat → Int) (a0b : Nat → Int) (K0 : Bool → Prop) (l0 : Int → (Int → Prop) → (Int → Prop) → Prop) : Prop := Ts 4 ((l0 0 (fun o0t7 => Ts 1 (K0 true)) (fun o0t7 => K0 false)))
def spotsOK (n : Nat) (x y : Nat → Int) : Bool := (List.range n).all fun k => spotOK (x k) (y k)
theorem spotsOK_iff {n : Nat} {x y : Nat → Int} : spotsOK n x y = true ↔ ∀ k, k < n → spotOK (x k) (y k) = true := by
  unfold spotsOK
  rw [List.all_eq_true]
  exact ⟨fun h k hk => h k (List.mem_range.2 hk), fun h k hk => h k (List.mem_range.1 hk)⟩
def P_sd_fair (n : Nat) (x : Nat → Int) (y : Nat → Int) : Prop := n ≤ 1000000 ∧ ∀ k, k < n → I64 (x k) ∧ I64 (y k)
def F_sd_fair_0 (n : Nat) (x : Nat → Int) (y : Nat → Int) : Bool := spotsOK n x y
theorem W_sd_fair_ok {n : Nat} {x y : Nat → Int} (hp : P_sd_fair n x y) {x0 x1 : Int → Prop} : ∀ (f i : Nat), i ≤ n → n < f + i → ((∀ k, i ≤ k → k < n → spotOK (x k) (y k) = true) → ∀ v, x0 v) → (∀ k, k < n → spotOK (x k) (y k) = false → ∀ v, x1 v) → W_sd_fair_0 n x y f i x0 x1
  | 0, i, h1, h2, _, _ => by omega
  | f + 1, i, h1, h2, h3, h4 => by
    show B_sd_fair_0 n x y i _ _ _
    unfold B_sd_fair_0
    simp only [Ts_iff, true_and, Int.toNat_natCast, Nat.zero_add]
    refine cond_intro (fun hc => ?_) (fun hc => ?_)
    · rw [ilt_t] at hc
      have hi : i < n := by omega
      refine ⟨⟨by omega, hc⟩, ?_⟩
      obtain ⟨⟨hx1, hx2⟩, ⟨hy1, hy2⟩⟩ := hp.2 i hi
      have key : spotOK (x i) (y i) = false → ∀ v, x1 v := h4 i hi
      have nk : ¬ (-2097152 ≤ x i ∧ x i ≤ 2097152 ∧ -2097152 ≤ y i ∧ y i ≤ 2097152) → ∀ v, x1 v := fun h => key (by rw [← Bool.not_eq_true, spotOK_iff]; exact h)
      have hnx : ineg .i64 (x i) = -(x i) ∨ (x i = -9223372036854775808 ∧ ineg .i64 (x i) = -9223372036854775808) := by
        by_cases h : x i = -9223372036854775808
        · exact .inr ⟨h, by rw [h, ineg64_min]⟩
        · exact .inl (ineg64 (by omega) hx2)
      have hny : ineg .i64 (y i) = -(y i) ∨ (y i = -9223372036854775808 ∧ ineg .i64 (y i) = -9223372036854775808) := by
        by_cases h : y i = -9223372036854775808
        · exact .inr ⟨h, by rw [h, ineg64_min]⟩
        · exact .inl (ineg64 (by omega) hy2)
      refine cond_intro (fun hc => ?_) (fun hc => ?_)
      · rw [igt_t, imax_m, imax_m, imax_m] at hc
        exact nk (by omega) _
      · rw [igt_f, imax_m, imax_m, imax_m] at hc
        refine cond_intro (fun hc => ?_) (fun hc => ?_)
        · rw [ilt_t] at hc
          exact nk (by omega) _
        · rw [ilt_f] at hc
          refine cond_intro (fun hc => ?_) (fun hc => ?_)
          · rw [ilt_t] at hc
            exact nk (by omega) _
          · rw [ilt_f] at hc
            have hn := hp.1
            rw [iadd64 (by omega) (by omega)]
            refine W_sd_fair_ok hp f (i + 1) (by omega) (by omega) (fun h => h3 fun k hk1 hk2 => ?_) h4
            by_cases hk : k = i
            · subst hk
              rw [spotOK_iff]
              omega
            · exact h k (by omega) hk2
    · rw [ilt_f] at hc
      exact h3 (fun k hk1 hk2 => by omega) _
theorem H_sd_fair (a0n : Nat) (a0a : Nat → Int) (a0b : Nat → Int) {K0 : Bool → Prop} (h : P_sd_fair a0n a0a a0b) (hK : K0 (F_sd_fair_0 a0n a0a a0b)) : B_sd_fair a0n a0a a0b K0 (W_sd_fair_0 a0n a0a a0b fuel) := by
  unfold B_sd_fair
  simp only [Ts_iff, true_and]
  refine W_sd_fair_ok h fuel 0 (Nat.zero_le _) (by rw [fuel_eq]; have := h.1; omega) (fun h => ?_) (fun k hk hs => ?_)
  · intro v
    have : F_sd_fair_0 a0n a0a a0b = true := spotsOK_iff.2 fun k hk => h k (Nat.zero_le _) hk
    rw [this] at hK
    exact hK
  · intro v
    have : F_sd_fair_0 a0n a0a a0b = false := by
      cases hf : F_sd_fair_0 a0n a0a a0b with
      | false => rfl
      | true => rw [spotsOK_iff.1 hf k hk] at hs; cases hs
    rw [this] at hK
    exact hK
/-! ### bagatelle/solid.CheckBox -/
def B_sd_CheckBox (a0a : Int) (a0b : Int) (a0c : Int) (a0d : Int) (K0 : Int → Prop)  : Prop := Ts 16 ((true = true ∧ Ts 3 (((P_sd_fair 2 (pushF 1 (fun _ => a0a) a0c) (pushF 1 (fun _ => a0b) a0d)) ∧ Ts 2 (cond (!(F_sd_fair_0 2 (pushF 1 (fun _ => a0a) a0c) (pushF 1 (fun _ => a0b) a0d))) (Ts 1 (K0 3)) (Ts 6 (cond (igt a0a a0c) (Ts 3 (K0 5)) (Ts 7 (cond (igt a0b a0d) (Ts 1 (K0 5)) (Ts 1 (K0 0)))))))))))
def P_sd_CheckBox (a0a : Int) (a0b : Int) (a0c : Int) (a0d : Int) : Prop := (P_sd_fair 2 (pushF 1 (fun _ => a0a) a0c) (pushF 1 (fun _ => a0b) a0d))
def F_sd_CheckBox_0 (a0a : Int) (a0b : Int) (a0c : Int) (a0d : Int) : Int := (cond (!(F_sd_fair_0 2 (pushF 1 (fun _ => a0a) a0c) (pushF 1 (fun _ => a0b) a0d))) 3 (cond (igt a0a a0c) 5 (cond (igt a0b a0d) 5 0)))
theorem H_sd_CheckBox (a0a : Int) (a0b : Int) (a0c : Int) (a0d : Int) {K0 : Int → Prop} (h : P_sd_CheckBox a0a a0b a0c a0d) (hK : K0 (F_sd_CheckBox_0 a0a a0b a0c a0d)) : B_sd_CheckBox a0a a0b a0c a0d K0  := by
  unfold B_sd_CheckBox P_sd_CheckBox F_sd_CheckBox_0 at *
  simp only [Ts_iff, true_and]
  try simp only [Ts_iff, true_and] at h
  repeat' first
    | exact hK
    | (refine cond_intro (fun hc => ?_) (fun hc => ?_) <;> (try simp only [hc, cond_true, cond_false] at h) <;> (try simp only [hc, cond_true, cond_false] at hK) <;> (try simp only [hc, cond_true, cond_false]))
    | (refine ⟨rfl, ?_⟩)
    | (refine ⟨trivial, ?_⟩)
    | (refine ⟨by decide, ?_⟩)
    | (refine ⟨h.1, ?_⟩; replace h := h.2)
    | (refine ⟨h, ?_⟩)
    | (refine ⟨fun _ _ => rfl, ?_⟩)
/-! ### bagatelle/solid.Grow -/
def B_sd_Grow (a0a : Int) (a0b : Int) (a0c : Int) (a0d : Int) (a1 : Int) (K0 : Int → Int → Int → Int → Prop)  : Prop := Ts 3 (((P_sd_CheckBox a0a a0b a0c a0d) ∧ Ts 1 (cond (ine (F_sd_CheckBox_0 a0a a0b a0c a0d) 0) (Ts 3 (K0 a0a a0b a0c a0d)) (Ts 35 (K0 (imax (isub .i64 a0a (imax 0 (imin a1 4194304))) (-2097152)) (imax (isub .i64 a0b (imax 0 (imin a1 4194304))) (-2097152)) (imin (iadd .i64 a0c (imax 0 (imin a1 4194304))) 2097152) (imin (iadd .i64 a0d (imax 0 (imin a1 4194304))) 2097152))))))
def P_sd_Grow (a0a : Int) (a0b : Int) (a0c : Int) (a0d : Int) (a1 : Int) : Prop := (P_sd_CheckBox a0a a0b a0c a0d)
def F_sd_Grow_0 (a0a : Int) (a0b : Int) (a0c : Int) (a0d : Int) (a1 : Int) : Int := (cond (ine (F_sd_CheckBox_0 a0a a0b a0c a0d) 0) a0a (imax (isub .i64 a0a (imax 0 (imin a1 4194304))) (-2097152)))
def F_sd_Grow_1 (a0a : Int) (a0b : Int) (a0c : Int) (a0d : Int) (a1 : Int) : Int := (cond (ine (F_sd_CheckBox_0 a0a a0b a0c a0d) 0) a0b (imax (isub .i64 a0b (imax 0 (imin a1 4194304))) (-2097152)))
def F_sd_Grow_2 (a0a : Int) (a0b : Int) (a0c : Int) (a0d : Int) (a1 : Int) : Int := (cond (ine (F_sd_CheckBox_0 a0a a0b a0c a0d) 0) a0c (imin (iadd .i64 a0c (imax 0 (imin a1 4194304))) 2097152))
def F_sd_Grow_3 (a0a : Int) (a0b : Int) (a0c : Int) (a0d : Int) (a1 : Int) : Int := (cond (ine (F_sd_CheckBox_0 a0a a0b a0c a0d) 0) a0d (imin (iadd .i64 a0d (imax 0 (imin a1 4194304))) 2097152))
theorem H_sd_Grow (a0a : Int) (a0b : Int) (a0c : Int) (a0d : Int) (a1 : Int) {K0 : Int → Int → Int → Int → Prop} (h : P_sd_Grow a0a a0b a0c a0d a1) (hK : K0 (F_sd_Grow_0 a0a a0b a0c a0d a1) (F_sd_Grow_1 a0a a0b a0c a0d a1) (F_sd_Grow_2 a0a a0b a0c a0d a1) (F_sd_Grow_3 a0a a0b a0c a0d a1)) : B_sd_Grow a0a a0b a0c a0d a1 K0  := by
  unfold B_sd_Grow P_sd_Grow F_sd_Grow_0 F_sd_Grow_1 F_sd_Grow_2 F_sd_Grow_3 at *
  simp only [Ts_iff, true_and]
  try simp only [Ts_iff, true_and] at h
  repeat' first
    | exact hK
    | (refine cond_intro (fun hc => ?_) (fun hc => ?_) <;> (try simp only [hc, cond_true, cond_false] at h) <;> (try simp only [hc, cond_true, cond_false] at hK) <;> (try simp only [hc, cond_true, cond_false]))
    | (refine ⟨rfl, ?_⟩)
    | (refine ⟨trivial, ?_⟩)
    | (refine ⟨by decide, ?_⟩)
    | (refine ⟨h.1, ?_⟩; replace h := h.2)
    | (refine ⟨h, ?_⟩)
    | (refine ⟨fun _ _ => rfl, ?_⟩)
/-! ### bagatelle/solid.cross -/
def B_sd_cross (a0a : Int) (a0b : Int) (a1a : Int) (a1b : Int) (K0 : Int → Prop)  : Prop := Ts 15 (K0 (isub .i64 (imul .i64 a0a a1b) (imul .i64 a0b a1a)))
def P_sd_cross (a0a : Int) (a0b : Int) (a1a : Int) (a1b : Int) : Prop := True
def F_sd_cross_0 (a0a : Int) (a0b : Int) (a1a : Int) (a1b : Int) : Int := (isub .i64 (imul .i64 a0a a1b) (imul .i64 a0b a1a))
theorem H_sd_cross (a0a : Int) (a0b : Int) (a1a : Int) (a1b : Int) {K0 : Int → Prop} (h : P_sd_cross a0a a0b a1a a1b) (hK : K0 (F_sd_cross_0 a0a a0b a1a a1b)) : B_sd_cross a0a a0b a1a a1b K0  := by
  unfold B_sd_cross P_sd_cross F_sd_cross_0 at *
  simp only [Ts_iff, true_and]
  try simp only [Ts_iff, true_and] at h
  repeat' first
    | exact hK
    | (refine cond_intro (fun hc => ?_) (fun hc => ?_) <;> (try simp only [hc, cond_true, cond_false] at h) <;> (try simp only [hc, cond_true, cond_false] at hK) <;> (try simp only [hc, cond_true, cond_false]))
    | (refine ⟨rfl, ?_⟩)
    | (refine ⟨trivial, ?_⟩)
    | (refine ⟨by decide, ?_⟩)
    | (refine ⟨h.1, ?_⟩; replace h := h.2)
    | (refine ⟨h, ?_⟩)
    | (refine ⟨fun _ _ => rfl, ?_⟩)
/-! ### bagatelle/solid.way -/
def B_sd_way (a0a : Int) (a0b : Int) (a1a : Int) (a1b : Int) (K0 : Int → Int → Prop)  : Prop := Ts 16 (K0 (isub .i64 a1a a0a) (isub .i64 a1b a0b))
def P_sd_way (a0a : Int) (a0b : Int) (a1a : Int) (a1b : Int) : Prop := True
def F_sd_way_0 (a0a : Int) (a0b : Int) (a1a : Int) (a1b : Int) : Int := (isub .i64 a1a a0a)
def F_sd_way_1 (a0a : Int) (a0b : Int) (a1a : Int) (a1b : Int) : Int := (isub .i64 a1b a0b)
theorem H_sd_way (a0a : Int) (a0b : Int) (a1a : Int) (a1b : Int) {K0 : Int → Int → Prop} (h : P_sd_way a0a a0b a1a a1b) (hK : K0 (F_sd_way_0 a0a a0b a1a a1b) (F_sd_way_1 a0a a0b a1a a1b)) : B_sd_way a0a a0b a1a a1b K0  := by
  unfold B_sd_way P_sd_way F_sd_way_0 F_sd_way_1 at *
  simp only [Ts_iff, true_and]
  try simp only [Ts_iff, true_and] at h
  repeat' first
    | exact hK
    | (refine cond_intro (fun hc => ?_) (fun hc => ?_) <;> (try simp only [hc, cond_true, cond_false] at h) <;> (try simp only [hc, cond_true, cond_false] at hK) <;> (try simp only [hc, cond_true, cond_false]))
    | (refine ⟨rfl, ?_⟩)
    | (refine ⟨trivial, ?_⟩)
    | (refine ⟨by decide, ?_⟩)
    | (refine ⟨h.1, ?_⟩; replace h := h.2)
    | (refine ⟨h, ?_⟩)
    | (refine ⟨fun _ _ => rfl, ?_⟩)
/-! ### bagatelle/solid.turn -/
def B_sd_turn (a0a : Int) (a0b : Int) (a1a : Int) (a1b : Int) (a2a : Int) (a2b : Int) (K0 : Int → Prop)  : Prop := Ts 6 (((P_sd_way a0a a0b a1a a1b) ∧ Ts 2 (((P_sd_way a0a a0b a2a a2b) ∧ ((P_sd_cross (F_sd_way_0 a0a a0b a1a a1b) (F_sd_way_1 a0a a0b a1a a1b) (F_sd_way_0 a0a a0b a2a a2b) (F_sd_way_1 a0a a0b a2a a2b)) ∧ Ts 1 ((true = true ∧ K0 (F_sd_cross_0 (F_sd_way_0 a0a a0b a1a a1b) (F_sd_way_1 a0a a0b a1a a1b) (F_sd_way_0 a0a a0b a2a a2b) (F_sd_way_1 a0a a0b a2a a2b)))))))))
def P_sd_turn (a0a : Int) (a0b : Int) (a1a : Int) (a1b : Int) (a2a : Int) (a2b : Int) : Prop := True
def F_sd_turn_0 (a0a : Int) (a0b : Int) (a1a : Int) (a1b : Int) (a2a : Int) (a2b : Int) : Int := (F_sd_cross_0 (F_sd_way_0 a0a a0b a1a a1b) (F_sd_way_1 a0a a0b a1a a1b) (F_sd_way_0 a0a a0b a2a a2b) (F_sd_way_1 a0a a0b a2a a2b))
theorem H_sd_turn (a0a : Int) (a0b : Int) (a1a : Int) (a1b : Int) (a2a : Int) (a2b : Int) {K0 : Int → Prop} (h : P_sd_turn a0a a0b a1a a1b a2a a2b) (hK : K0 (F_sd_turn_0 a0a a0b a1a a1b a2a a2b)) : B_sd_turn a0a a0b a1a a1b a2a a2b K0  := by
  unfold B_sd_turn P_sd_turn F_sd_turn_0 at *
  simp only [Ts_iff, true_and]
  try simp only [Ts_iff, true_and] at h
  repeat' first
    | exact hK
    | (refine cond_intro (fun hc => ?_) (fun hc => ?_) <;> (try simp only [hc, cond_true, cond_false] at h) <;> (try simp only [hc, cond_true, cond_false] at hK) <;> (try simp only [hc, cond_true, cond_false]))
    | (refine ⟨rfl, ?_⟩)
    | (refine ⟨trivial, ?_⟩)
    | (refine ⟨by decide, ?_⟩)
    | (refine ⟨h.1, ?_⟩; replace h := h.2)
    | (refine ⟨h, ?_⟩)
    | (refine ⟨fun _ _ => rfl, ?_⟩)
/-! ### bagatelle/solid.Side -/
def B_sd_Side (a0a : Int) (a0b : Int) (a1a : Int) (a1b : Int) (a2a : Int) (a2b : Int) (K0 : Int → Prop)  : Prop := Ts 9 (((P_sd_fair 3 (appF 1 (fun _ => a0a) (pushF 1 (fun _ => a1a) a2a)) (appF 1 (fun _ => a0b) (pushF 1 (fun _ => a1b) a2b))) ∧ cond (F_sd_fair_0 3 (appF 1 (fun _ => a0a) (pushF 1 (fun _ => a1a) a2a)) (appF 1 (fun _ => a0b) (pushF 1 (fun _ => a1b) a2b))) (Ts 3 (((P_sd_turn a0a a0b a1a a1b a2a a2b) ∧ Ts 4 (cond (igt (F_sd_turn_0 a0a a0b a1a a1b a2a a2b) 0) (Ts 1 (K0 1)) (Ts 3 (cond (ilt (F_sd_turn_0 a0a a0b a1a a1b a2a a2b) 0) (Ts 1 (K0 (-1))) (Ts 1 (K0 0)))))))) (Ts 3 (cond (igt 0 0) (Ts 1 (K0 1)) (Ts 3 (cond (ilt 0 0) (Ts 1 (K0 (-1))) (Ts 1 (K0 0))))))))
def P_sd_Side (a0a : Int) (a0b : Int) (a1a : Int) (a1b : Int) (a2a : Int) (a2b : Int) : Prop := (P_sd_fair 3 (appF 1 (fun _ => a0a) (pushF 1 (fun _ => a1a) a2a)) (appF 1 (fun _ => a0b) (pushF 1 (fun _ => a1b) a2b)))
def F_sd_Side_0 (a0a : Int) (a0b : Int) (a1a : Int) (a1b : Int) (a2a : Int) (a2b : Int) : Int := (cond (F_sd_fair_0 3 (appF 1 (fun _ => a0a) (pushF 1 (fun _ => a1a) a2a)) (appF 1 (fun _ => a0b) (pushF 1 (fun _ => a1b) a2b))) (cond (igt (F_sd_turn_0 a0a a0b a1a a1b a2a a2b) 0) 1 (cond (ilt (F_sd_turn_0 a0a a0b a1a a1b a2a a2b) 0) (-1) 0)) (cond (igt 0 0) 1 (cond (ilt 0 0) (-1) 0)))
theorem H_sd_Side (a0a : Int) (a0b : Int) (a1a : Int) (a1b : Int) (a2a : Int) (a2b : Int) {K0 : Int → Prop} (h : P_sd_Side a0a a0b a1a a1b a2a a2b) (hK : K0 (F_sd_Side_0 a0a a0b a1a a1b a2a a2b)) : B_sd_Side a0a a0b a1a a1b a2a a2b K0  := by
  unfold B_sd_Side P_sd_Side F_sd_Side_0 at *
  simp only [Ts_iff, true_and]
  try simp only [Ts_iff, true_and] at h
  repeat' first
    | exact hK
    | (refine cond_intro (fun hc => ?_) (fun hc => ?_) <;> (try simp only [hc, cond_true, cond_false] at h) <;> (try simp only [hc, cond_true, cond_false] at hK) <;> (try simp only [hc, cond_true, cond_false]))
    | (refine ⟨rfl, ?_⟩)
    | (refine ⟨trivial, ?_⟩)
    | (refine ⟨by decide, ?_⟩)
    | (refine ⟨h.1, ?_⟩; replace h := h.2)
    | (refine ⟨h, ?_⟩)
    | (refine ⟨fun _ _ => rfl, ?_⟩)
/-! ### bagatelle/bagatellelaw03.awake -/
def B_lw_awake  (K0 : Bool → Prop)  : Prop := Ts 4 (((P_sd_Side 0 0 1 0 0 1) ∧ Ts 2 (cond (ieq (F_sd_Side_0 0 0 1 0 0 1) 1) (Ts 1 (((P_sd_Grow 0 0 1 1 2) ∧ Ts 4 (K0 ((ieq (F_sd_Grow_0 0 0 1 1 2) (-2)) && ((ieq (F_sd_Grow_1 0 0 1 1 2) (-2)) && ((ieq (F_sd_Grow_2 0 0 1 1 2) 3) && (ieq (F_sd_Grow_3 0 0 1 1 2) 3)))))))) (Ts 2 (K0 false)))))
def P_lw_awake  : Prop := ((P_sd_Side 0 0 1 0 0 1) ∧ (cond (ieq (F_sd_Side_0 0 0 1 0 0 1) 1) (P_sd_Grow 0 0 1 1 2) True))
def F_lw_awake_0  : Bool := (cond (ieq (F_sd_Side_0 0 0 1 0 0 1) 1) ((ieq (F_sd_Grow_0 0 0 1 1 2) (-2)) && ((ieq (F_sd_Grow_1 0 0 1 1 2) (-2)) && ((ieq (F_sd_Grow_2 0 0 1 1 2) 3) && (ieq (F_sd_Grow_3 0 0 1 1 2) 3)))) false)
theorem H_lw_awake  {K0 : Bool → Prop} (h : P_lw_awake ) (hK : K0 F_lw_awake_0) : B_lw_awake  K0  := by
  unfold B_lw_awake P_lw_awake F_lw_awake_0 at *
  simp only [Ts_iff, true_and]
  try simp only [Ts_iff, true_and] at h
  repeat' first
    | exact hK
    | (refine cond_intro (fun hc => ?_) (fun hc => ?_) <;> (try simp only [hc, cond_true, cond_false] at h) <;> (try simp only [hc, cond_true, cond_false] at hK) <;> (try simp only [hc, cond_true, cond_false]))
    | (refine ⟨rfl, ?_⟩)
    | (refine ⟨trivial, ?_⟩)
    | (refine ⟨by decide, ?_⟩)
    | (refine ⟨h.1, ?_⟩; replace h := h.2)
    | (refine ⟨h, ?_⟩)
    | (refine ⟨fun _ _ => rfl, ?_⟩)
/-! ### Boxes in plain words -/
theorem fair2 (a b c d : Int) : F_sd_fair_0 2 (pushF 1 (fun _ => a) c) (pushF 1 (fun _ => b) d) = (spotOK a b && spotOK c d) := by
  unfold F_sd_fair_0 spotsOK
  rw [show List.range 2 = [0, 1] from rfl]
  simp only [List.all_cons, List.all_nil, Bool.and_true]
  rfl
theorem fairP2 {a b c d : Int} (h1 : I64 a) (h2 : I64 b) (h3 : I64 c) (h4 : I64 d) : P_sd_fair 2 (pushF 1 (fun _ => a) c) (pushF 1 (fun _ => b) d) := by
  refine ⟨by omega, fun k hk => ?_⟩
  have : k = 0 ∨ k = 1 := by omega
  rcases this with rfl | rfl
  · exact ⟨h1, h2⟩
  · exact ⟨h3, h4⟩
theorem fair3 (a b c d e f : Int) : F_sd_fair_0 3 (appF 1 (fun _ => a) (pushF 1 (fun _ => c) e)) (appF 1 (fun _ => b) (pushF 1 (fun _ => d) f)) = (spotOK a b && spotOK c d && spotOK e f) := by
  unfold F_sd_fair_0 spotsOK
  rw [show List.range 3 = [0, 1, 2] from rfl]
  simp only [List.all_cons, List.all_nil, Bool.and_true]
  rw [Bool.and_assoc]
  rfl
theorem fairP3 {a b c d e f : Int} (h1 : I64 a) (h2 : I64 b) (h3 : I64 c) (h4 : I64 d) (h5 : I64 e) (h6 : I64 f) : P_sd_fair 3 (appF 1 (fun _ => a) (pushF 1 (fun _ => c) e)) (appF 1 (fun _ => b) (pushF 1 (fun _ => d) f)) := by
  refine ⟨by omega, fun k hk => ?_⟩
  have : k = 0 ∨ k = 1 ∨ k = 2 := by omega
  rcases this with rfl | rfl | rfl
  · exact ⟨h1, h2⟩
  · exact ⟨h3, h4⟩
  · exact ⟨h5, h6⟩
theorem cond_tt {b x y : Bool} : (cond b x y = true) ↔ ((b = true ∧ x = true) ∨ (b = false ∧ y = true)) := by cases b <;> simp
def boxIn (a b c d : Int) : Prop := (-2097152 ≤ a ∧ a ≤ 2097152 ∧ -2097152 ≤ b ∧ b ≤ 2097152) ∧ (-2097152 ≤ c ∧ c ≤ 2097152 ∧ -2097152 ≤ d ∧ d ≤ 2097152)
instance (a b c d : Int) : Decidable (boxIn a b c d) := by unfold boxIn; infer_instance
theorem checkP {a b c d : Int} (h1 : I64 a) (h2 : I64 b) (h3 : I64 c) (h4 : I64 d) : P_sd_CheckBox a b c d := fairP2 h1 h2 h3 h4
theorem check_sd (a b c d : Int) : (F_sd_CheckBox_0 a b c d = 3 ∧ ¬ boxIn a b c d) ∨ (F_sd_CheckBox_0 a b c d = 5 ∧ boxIn a b c d ∧ (c < a ∨ d < b)) ∨ (F_sd_CheckBox_0 a b c d = 0 ∧ boxIn a b c d ∧ a ≤ c ∧ b ≤ d) := by
  unfold F_sd_CheckBox_0 boxIn
  rw [fair2]
  cases h : (spotOK a b && spotOK c d) with
  | false =>
    left
    refine ⟨rfl, fun ⟨h1, h2⟩ => ?_⟩
    rw [spotOK_iff.2 h1, spotOK_iff.2 h2] at h
    cases h
  | true =>
    right
    rw [Bool.and_eq_true, spotOK_iff, spotOK_iff] at h
    cases h1 : igt a c with
    | true => rw [igt_t] at h1; exact .inl ⟨rfl, h, .inl h1⟩
    | false =>
      rw [igt_f] at h1
      cases h2 : igt b d with
      | true => rw [igt_t] at h2; exact .inl ⟨rfl, h, .inr h2⟩
      | false => rw [igt_f] at h2; exact .inr ⟨rfl, h, h1, h2⟩
theorem check_0 (a b c d : Int) : F_sd_CheckBox_0 a b c d = 0 ↔ (boxIn a b c d ∧ a ≤ c ∧ b ≤ d) := by
  rcases check_sd a b c d with ⟨h1, h2⟩ | ⟨h1, h2, h3⟩ | ⟨h1, h2, h3⟩ <;> rw [h1]
  · exact ⟨fun h => by omega, fun h => absurd h.1 h2⟩
  · exact ⟨fun h => by omega, fun h => by omega⟩
  · exact ⟨fun _ => ⟨h2, h3⟩, fun _ => rfl⟩
theorem grow_sd (a b c d r : Int) : (F_sd_Grow_0 a b c d r, F_sd_Grow_1 a b c d r, F_sd_Grow_2 a b c d r, F_sd_Grow_3 a b c d r) =
    if boxIn a b c d ∧ a ≤ c ∧ b ≤ d then (max (a - max 0 (min r 4194304)) (-2097152), max (b - max 0 (min r 4194304)) (-2097152), min (c + max 0 (min r 4194304)) 2097152, min (d + max 0 (min r 4194304)) 2097152) else (a, b, c, d) := by
  unfold F_sd_Grow_0 F_sd_Grow_1 F_sd_Grow_2 F_sd_Grow_3
  cases h : ine (F_sd_CheckBox_0 a b c d) 0 with
  | true => rw [ine_t, check_0] at h; rw [if_neg h]; rfl
  | false =>
    rw [ine_f, check_0] at h
    rw [if_pos h]
    unfold boxIn at h
    simp only [cond_false, imax_m, imin_m]
    rw [isub64 (by omega) (by omega), isub64 (by omega) (by omega), iadd64 (by omega) (by omega), iadd64 (by omega) (by omega)]
theorem i64_small {x : Int} (h1 : -2305843009213693952 ≤ x) (h2 : x ≤ 2305843009213693952) : I64 x := by unfold I64; omega
theorem side_pos : F_sd_Side_0 0 0 1 0 0 1 = 1 := by
  unfold F_sd_Side_0
  rw [fair3]
  have h1 : spotOK 0 0 = true := by rw [spotOK_iff]; omega
  have h2 : spotOK 1 0 = true := by rw [spotOK_iff]; omega
  have h3 : spotOK 0 1 = true := by rw [spotOK_iff]; omega
  rw [h1, h2, h3]
  unfold F_sd_turn_0 F_sd_cross_0 F_sd_way_0 F_sd_way_1
  have h : igt (isub .i64 (imul .i64 (isub .i64 1 0) (isub .i64 1 0)) (imul .i64 (isub .i64 0 0) (isub .i64 0 0))) 0 = true := by
    have e0 : isub .i64 0 0 = 0 := by rw [isub64] <;> omega
    have e1 : isub .i64 1 0 = 1 := by rw [isub64] <;> omega
    have e2 : imul .i64 0 0 = 0 := by rw [imul64] <;> omega
    have e3 : imul .i64 1 1 = 1 := by rw [imul64] <;> omega
    rw [e0, e1, e2, e3, e1, igt_t]
    omega
  rw [h]
  rfl
theorem awakeP : P_lw_awake := by
  refine ⟨fairP3 ?_ ?_ ?_ ?_ ?_ ?_, cond_intro (fun _ => checkP ?_ ?_ ?_ ?_) (fun _ => trivial)⟩ <;> exact i64_small (by omega) (by omega)
theorem awake_true : F_lw_awake_0 = true := by
  unfold F_lw_awake_0
  rw [side_pos]
  have h := grow_sd 0 0 1 1 2
  rw [if_pos (by unfold boxIn; omega)] at h
  simp only [Prod.mk.injEq] at h
  obtain ⟨h1, h2, h3, h4⟩ := h
  rw [h1, h2, h3, h4]
  simp only [Bool.cond_eq_ite, ieq_t, if_true, Bool.and_eq_true]
  omega
/-! ### bagatelle/bagatellelaw03.light -/
def B_lw_light (a0a : Int) (a0ba : Int) (a0bb : Int) (a0c : Int) (a0dn : Nat) (a0da : Nat → Int) (a0db : Nat → Int) (K0 : Bool → Prop)  : Prop := Ts 7 (K0 (ile ((a0dn : Nat) : Int) 12))
def P_lw_light (a0a : Int) (a0ba : Int) (a0bb : Int) (a0c : Int) (a0dn : Nat) (a0da : Nat → Int) (a0db : Nat → Int) : Prop := True
def F_lw_light_0 (a0a : Int) (a0ba : Int) (a0bb : Int) (a0c : Int) (a0dn : Nat) (a0da : Nat → Int) (a0db : Nat → Int) : Bool := (ile ((a0dn : Nat) : Int) 12)
theorem H_lw_light (a0a : Int) (a0ba : Int) (a0bb : Int) (a0c : Int) (a0dn : Nat) (a0da : Nat → Int) (a0db : Nat → Int) {K0 : Bool → Prop} (h : P_lw_light a0a a0ba a0bb a0c a0dn a0da a0db) (hK : K0 (F_lw_light_0 a0a a0ba a0bb a0c a0dn a0da a0db)) : B_lw_light a0a a0ba a0bb a0c a0dn a0da a0db K0  := by
  unfold B_lw_light P_lw_light F_lw_light_0 at *
  simp only [Ts_iff, true_and]
  try simp only [Ts_iff, true_and] at h
  repeat' first
    | exact hK
    | (refine cond_intro (fun hc => ?_) (fun hc => ?_) <;> (try simp only [hc, cond_true, cond_false] at h) <;> (try simp only [hc, cond_true, cond_false] at hK) <;> (try simp only [hc, cond_true, cond_false]))
    | (refine ⟨rfl, ?_⟩)
    | (refine ⟨trivial, ?_⟩)
    | (refine ⟨by decide, ?_⟩)
    | (refine ⟨h.1, ?_⟩; replace h := h.2)
    | (refine ⟨h, ?_⟩)
    | (refine ⟨fun _ _ => rfl, ?_⟩)
/-! ### bagatelle/bagatellekit.Spots -/
def B_kt_Spots_0 (a0n : Nat) (a0a : Nat → Int) (a0b : Nat → Int) (v0t3q : Bool) (v0t4 : Int) (v0b0n : Nat) (v0b0c0 : (Nat → Int)) (v0b0c1 : (Nat → Int)) (c : Bool → Int → Nat → (Nat → Int) → (Nat → Int) → Prop) (x0 : Bool → Int → Nat → (Nat → Int) → (Nat → Int) → Prop)  : Prop := Ts 4 (cond (ilt v0t4 ((a0n : Nat) : Int)) (Ts 3 (((0 ≤ v0t4 ∧ v0t4 < ((a0n : Nat) : Int)) ∧ Ts 2 ((((v0b0n + 1) * 16 ≤ 1000000000000 ∧ (v0b0n + 1) ≤ 1000000000000) ∧ Ts 4 (c false (iadd .i64 v0t4 1) (v0b0n + 1) (pushF v0b0n v0b0c0 (a0a (Int.toNat v0t4))) (pushF v0b0n v0b0c1 (a0b (Int.toNat v0t4))))))))) (x0 v0t3q v0t4 v0b0n v0b0c0 v0b0c1))
def W_kt_Spots_0 (a0n : Nat) (a0a : Nat → Int) (a0b : Nat → Int) : Nat → Bool → Int → Nat → (Nat → Int) → (Nat → Int) → (Bool → Int → Nat → (Nat → Int) → (Nat → Int) → Prop) → Prop
  | 0, _, _, _, _, _, _ => False
  | f + 1, w0, w1, w2, w3, w4, x0 => B_kt_Spots_0 a0n a0a a0b w0 w1 w2 w3 w4 (fun u0 u1 u2 u3 u4 => W_kt_Spots_0 a0n a0a a0b f u0 u1 u2 u3 u4 x0) x0 
theorem BM_kt_Spots_0 (a0n : Nat) (a0a : Nat → Int) (a0b : Nat → Int) (v0t3q : Bool) (v0t4 : Int) (v0b0n : Nat) (v0b0c0 : (Nat → Int)) (v0b0c1 : (Nat → Int)) {c c' : Bool → Int → Nat → (Nat → Int) → (Nat → Int) → Prop} {x0 y0 : Bool → Int → Nat → (Nat → Int) → (Nat → Int) → Prop} (hc : ∀ w0 w1 w2 w3 w4, c w0 w1 w2 w3 w4 → c' w0 w1 w2 w3 w4) (h0 : ∀ o0 o1 o2 o3 o4, x0 o0 o1 o2 o3 o4 → y0 o0 o1 o2 o3 o4) : B_kt_Spots_0 a0n a0a a0b v0t3q v0t4 v0b0n v0b0c0 v0b0c1 c x0  → B_kt_Spots_0 a0n a0a a0b v0t3q v0t4 v0b0n v0b0c0 v0b0c1 c' y0  := by
  unfold B_kt_Spots_0
  repeat' first
    | exact hc _ _ _ _ _
    | exact h0 _ _ _ _ _
    | refine Ts_imp ?_
    | refine cond_imp ?_ ?_
    | refine and_imp' ?_
theorem WM_kt_Spots_0 (a0n : Nat) (a0a : Nat → Int) (a0b : Nat → Int) {x0 y0 : Bool → Int → Nat → (Nat → Int) → (Nat → Int) → Prop} (h0 : ∀ o0 o1 o2 o3 o4, x0 o0 o1 o2 o3 o4 → y0 o0 o1 o2 o3 o4) : ∀ (f : Nat) (v0t3q : Bool) (v0t4 : Int) (v0b0n : Nat) (v0b0c0 : (Nat → Int)) (v0b0c1 : (Nat → Int)), W_kt_Spots_0 a0n a0a a0b f v0t3q v0t4 v0b0n v0b0c0 v0b0c1 x0 → W_kt_Spots_0 a0n a0a a0b f v0t3q v0t4 v0b0n v0b0c0 v0b0c1 y0
  | 0, w0, w1, w2, w3, w4 => fun h => h
  | f + 1, w0, w1, w2, w3, w4 => BM_kt_Spots_0 a0n a0a a0b w0 w1 w2 w3 w4 (fun u0 u1 u2 u3 u4 => WM_kt_Spots_0 a0n a0a a0b h0 f u0 u1 u2 u3 u4) h0
def B_kt_Spots (a0n : Nat) (a0a : Nat → Int) (a0b : Nat → Int) (K0 : Nat → (Nat → Int) → (Nat → Int) → Prop) (l0 : Bool → Int → Nat → (Nat → Int) → (Nat → Int) → (Bool → Int → Nat → (Nat → Int) → (Nat → Int) → Prop) → Prop) : Prop := Ts 3 ((l0 true 0 0 (fun _ => 0) (fun _ => 0) (fun o0t3q o0t4 o0b0n o0b0c0 o0b0c1 => Ts 2 (K0 o0b0n o0b0c0 o0b0c1))))
def copyF (f : Nat → Int) : Nat → (Nat → Int)
  | 0 => fun _ => 0
  | k + 1 => pushF k (copyF f k) (f k)
theorem pushF_lt' {n k : Nat} (f : Nat → Int) (x : Int) (h : k < n) : pushF n f x k = f k := by
  unfold pushF
  rw [show Nat.blt k n = true by rw [Nat.blt_eq]; exact h]
  rfl
theorem pushF_at' (n : Nat) (f : Nat → Int) (x : Int) : pushF n f x n = x := by
  unfold pushF
  rw [show Nat.blt n n = false by cases h : Nat.blt n n with | false => rfl | true => (rw [Nat.blt_eq] at h; omega)]
  rfl
theorem copyF_lt (f : Nat → Int) : ∀ (n k : Nat), k < n → copyF f n k = f k
  | 0, k, h => by omega
  | n + 1, k, h => by
    unfold copyF
    by_cases hk : k = n
    · subst hk; exact pushF_at' _ _ _
    · rw [pushF_lt' _ _ (by omega)]; exact copyF_lt f n k (by omega)
def P_kt_Spots (a0n : Nat) (a0a : Nat → Int) (a0b : Nat → Int) : Prop := a0n ≤ 1000000
def F_kt_Spots_0 (a0n : Nat) (a0a : Nat → Int) (a0b : Nat → Int) : Nat := a0n
def F_kt_Spots_1 (a0n : Nat) (a0a : Nat → Int) (a0b : Nat → Int) : (Nat → Int) := copyF a0a a0n
def F_kt_Spots_2 (a0n : Nat) (a0a : Nat → Int) (a0b : Nat → Int) : (Nat → Int) := copyF a0b a0n
theorem W_kt_Spots_ok {n : Nat} {a b : Nat → Int} (hn : n ≤ 1000000) {x0 : Bool → Int → Nat → (Nat → Int) → (Nat → Int) → Prop} (hx : ∀ q v, x0 q v n (copyF a n) (copyF b n)) : ∀ (f i : Nat) (q : Bool), i ≤ n → n < f + i → W_kt_Spots_0 n a b f q i i (copyF a i) (copyF b i) x0
  | 0, i, q, h1, h2 => by omega
  | f + 1, i, q, h1, h2 => by
    show B_kt_Spots_0 n a b q i i (copyF a i) (copyF b i) _ _
    unfold B_kt_Spots_0
    simp only [Ts_iff, true_and, Int.toNat_natCast, Nat.zero_add]
    refine cond_intro (fun hc => ?_) (fun hc => ?_)
    · rw [ilt_t] at hc
      rw [iadd64 (by omega) (by omega)]
      exact ⟨⟨by omega, hc⟩, ⟨by omega, by omega⟩, W_kt_Spots_ok hn hx f (i + 1) _ (by omega) (by omega)⟩
    · rw [ilt_f] at hc
      have : i = n := by omega
      subst this
      exact hx _ _
theorem H_kt_Spots (a0n : Nat) (a0a : Nat → Int) (a0b : Nat → Int) {K0 : Nat → (Nat → Int) → (Nat → Int) → Prop} (h : P_kt_Spots a0n a0a a0b) (hK : K0 (F_kt_Spots_0 a0n a0a a0b) (F_kt_Spots_1 a0n a0a a0b) (F_kt_Spots_2 a0n a0a a0b)) : B_kt_Spots a0n a0a a0b K0 (W_kt_Spots_0 a0n a0a a0b fuel) := by
  unfold B_kt_Spots
  simp only [Ts_iff, true_and]
  have h : a0n ≤ 1000000 := h
  exact W_kt_Spots_ok h (fun q v => hK) fuel 0 true (Nat.zero_le _) (by rw [fuel_eq]; omega)
/-! ### bagatelle/bagatellekit.OwnForm -/
def B_kt_OwnForm (a0a : Int) (a0ba : Int) (a0bb : Int) (a0c : Int) (a0dn : Nat) (a0da : Nat → Int) (a0db : Nat → Int) (K0 : Int → Int → Int → Int → Nat → (Nat → Int) → (Nat → Int) → Prop)  : Prop := Ts 4 (((P_kt_Spots a0dn a0da a0db) ∧ Ts 5 (K0 a0a a0ba a0bb a0c (F_kt_Spots_0 a0dn a0da a0db) (F_kt_Spots_1 a0dn a0da a0db) (F_kt_Spots_2 a0dn a0da a0db))))
def P_kt_OwnForm (a0a : Int) (a0ba : Int) (a0bb : Int) (a0c : Int) (a0dn : Nat) (a0da : Nat → Int) (a0db : Nat → Int) : Prop := (P_kt_Spots a0dn a0da a0db)
def F_kt_OwnForm_0 (a0a : Int) (a0ba : Int) (a0bb : Int) (a0c : Int) (a0dn : Nat) (a0da : Nat → Int) (a0db : Nat → Int) : Int := a0a
def F_kt_OwnForm_1 (a0a : Int) (a0ba : Int) (a0bb : Int) (a0c : Int) (a0dn : Nat) (a0da : Nat → Int) (a0db : Nat → Int) : Int := a0ba
def F_kt_OwnForm_2 (a0a : Int) (a0ba : Int) (a0bb : Int) (a0c : Int) (a0dn : Nat) (a0da : Nat → Int) (a0db : Nat → Int) : Int := a0bb
def F_kt_OwnForm_3 (a0a : Int) (a0ba : Int) (a0bb : Int) (a0c : Int) (a0dn : Nat) (a0da : Nat → Int) (a0db : Nat → Int) : Int := a0c
def F_kt_OwnForm_4 (a0a : Int) (a0ba : Int) (a0bb : Int) (a0c : Int) (a0dn : Nat) (a0da : Nat → Int) (a0db : Nat → Int) : Nat := (F_kt_Spots_0 a0dn a0da a0db)
def F_kt_OwnForm_5 (a0a : Int) (a0ba : Int) (a0bb : Int) (a0c : Int) (a0dn : Nat) (a0da : Nat → Int) (a0db : Nat → Int) : (Nat → Int) := (F_kt_Spots_1 a0dn a0da a0db)
def F_kt_OwnForm_6 (a0a : Int) (a0ba : Int) (a0bb : Int) (a0c : Int) (a0dn : Nat) (a0da : Nat → Int) (a0db : Nat → Int) : (Nat → Int) := (F_kt_Spots_2 a0dn a0da a0db)
theorem H_kt_OwnForm (a0a : Int) (a0ba : Int) (a0bb : Int) (a0c : Int) (a0dn : Nat) (a0da : Nat → Int) (a0db : Nat → Int) {K0 : Int → Int → Int → Int → Nat → (Nat → Int) → (Nat → Int) → Prop} (h : P_kt_OwnForm a0a a0ba a0bb a0c a0dn a0da a0db) (hK : K0 (F_kt_OwnForm_0 a0a a0ba a0bb a0c a0dn a0da a0db) (F_kt_OwnForm_1 a0a a0ba a0bb a0c a0dn a0da a0db) (F_kt_OwnForm_2 a0a a0ba a0bb a0c a0dn a0da a0db) (F_kt_OwnForm_3 a0a a0ba a0bb a0c a0dn a0da a0db) (F_kt_OwnForm_4 a0a a0ba a0bb a0c a0dn a0da a0db) (F_kt_OwnForm_5 a0a a0ba a0bb a0c a0dn a0da a0db) (F_kt_OwnForm_6 a0a a0ba a0bb a0c a0dn a0da a0db)) : B_kt_OwnForm a0a a0ba a0bb a0c a0dn a0da a0db K0  := by
  unfold B_kt_OwnForm P_kt_OwnForm F_kt_OwnForm_0 F_kt_OwnForm_1 F_kt_OwnForm_2 F_kt_OwnForm_3 F_kt_OwnForm_4 F_kt_OwnForm_5 F_kt_OwnForm_6 at *
  simp only [Ts_iff, true_and]
  try simp only [Ts_iff, true_and] at h
  repeat' first
    | exact hK
    | (refine cond_intro (fun hc => ?_) (fun hc => ?_) <;> (try simp only [hc, cond_true, cond_false] at h) <;> (try simp only [hc, cond_true, cond_false] at hK) <;> (try simp only [hc, cond_true, cond_false]))
    | (refine ⟨rfl, ?_⟩)
    | (refine ⟨trivial, ?_⟩)
    | (refine ⟨by decide, ?_⟩)
    | (refine ⟨h.1, ?_⟩; replace h := h.2)
    | (refine ⟨h, ?_⟩)
    | (refine ⟨fun _ _ => rfl, ?_⟩)
/-! ### (bagatelle/solid.polygon).edges -/
def B_sd_polygon_edges (a0an : Nat) (a0aa : Nat → Int) (a0ab : Nat → Int) (K0 : Nat → (Nat → Int) → (Nat → Int) → Prop)  : Prop := Ts 4 (K0 a0an a0aa a0ab)
def P_sd_polygon_edges (a0an : Nat) (a0aa : Nat → Int) (a0ab : Nat → Int) : Prop := True
def F_sd_polygon_edges_0 (a0an : Nat) (a0aa : Nat → Int) (a0ab : Nat → Int) : Nat := a0an
def F_sd_polygon_edges_1 (a0an : Nat) (a0aa : Nat → Int) (a0ab : Nat → Int) : (Nat → Int) := a0aa
def F_sd_polygon_edges_2 (a0an : Nat) (a0aa : Nat → Int) (a0ab : Nat → Int) : (Nat → Int) := a0ab
theorem H_sd_polygon_edges (a0an : Nat) (a0aa : Nat → Int) (a0ab : Nat → Int) {K0 : Nat → (Nat → Int) → (Nat → Int) → Prop} (h : P_sd_polygon_edges a0an a0aa a0ab) (hK : K0 (F_sd_polygon_edges_0 a0an a0aa a0ab) (F_sd_polygon_edges_1 a0an a0aa a0ab) (F_sd_polygon_edges_2 a0an a0aa a0ab)) : B_sd_polygon_edges a0an a0aa a0ab K0  := by
  unfold B_sd_polygon_edges P_sd_polygon_edges F_sd_polygon_edges_0 F_sd_polygon_edges_1 F_sd_polygon_edges_2 at *
  simp only [Ts_iff, true_and]
  try simp only [Ts_iff, true_and] at h
  repeat' first
    | exact hK
    | (refine cond_intro (fun hc => ?_) (fun hc => ?_) <;> (try simp only [hc, cond_true, cond_false] at h) <;> (try simp only [hc, cond_true, cond_false] at hK) <;> (try simp only [hc, cond_true, cond_false]))
    | (refine ⟨rfl, ?_⟩)
    | (refine ⟨trivial, ?_⟩)
    | (refine ⟨by decide, ?_⟩)
    | (refine ⟨h.1, ?_⟩; replace h := h.2)
    | (refine ⟨h, ?_⟩)
    | (refine ⟨fun _ _ => rfl, ?_⟩)
/-! ### bagatelle/solid.Convex -/
def B_sd_Convex_0_0 (a0n : Nat) (a0a : Nat → Int) (a0b : Nat → Int) (j0 : Nat) (v0m20 : Int) (v00t23 : Int) (c : Int → Prop) (x0 : Int → Prop) (x1 : Int → Prop)  : Prop := Ts 1 (cond (ilt v00t23 ((a0n : Nat) : Int)) (Ts 1 (((0 ≤ v00t23 ∧ v00t23 < ((a0n : Nat) : Int)) ∧ Ts 8 (cond (ine v00t23 v0m20) (Ts 5 (((((a0n : Nat) : Int) ≠ 0) ∧ Ts 3 (cond (ine v00t23 (irem .i64 (iadd .i64 v0m20 1) ((a0n : Nat) : Int))) (Ts 3 (((P_sd_turn ((F_sd_polygon_edges_1 a0n a0a a0b) j0) ((F_sd_polygon_edges_2 a0n a0a a0b) j0) ((F_sd_polygon_edges_1 a0n a0a a0b) (nxE (F_sd_polygon_edges_0 a0n a0a a0b) j0)) ((F_sd_polygon_edges_2 a0n a0a a0b) (nxE (F_sd_polygon_edges_0 a0n a0a a0b) j0)) (a0a (Int.toNat v00t23)) (a0b (Int.toNat v00t23))) ∧ Ts 2 (cond (ile (F_sd_turn_0 ((F_sd_polygon_edges_1 a0n a0a a0b) j0) ((F_sd_polygon_edges_2 a0n a0a a0b) j0) ((F_sd_polygon_edges_1 a0n a0a a0b) (nxE (F_sd_polygon_edges_0 a0n a0a a0b) j0)) ((F_sd_polygon_edges_2 a0n a0a a0b) (nxE (F_sd_polygon_edges_0 a0n a0a a0b) j0)) (a0a (Int.toNat v00t23)) (a0b (Int.toNat v00t23))) 0) (Ts 1 (x1 v00t23)) (Ts 2 (c (iadd .i64 v00t23 1))))))) (Ts 3 (c (iadd .i64 v00t23 1))))))) (Ts 5 (c (iadd .i64 v00t23 1))))))) (x0 v00t23))
def W_sd_Convex_0_0 (a0n : Nat) (a0a : Nat → Int) (a0b : Nat → Int) (j0 : Nat) (v0m20 : Int) : Nat → Int → (Int → Prop) → (Int → Prop) → Prop
  | 0, _, _, _ => False
  | f + 1, w0, x0, x1 => B_sd_Convex_0_0 a0n a0a a0b j0 v0m20 w0 (fun u0 => W_sd_Convex_0_0 a0n a0a a0b j0 v0m20 f u0 x0 x1) x0 x1 
theorem BM_sd_Convex_0_0 (a0n : Nat) (a0a : Nat → Int) (a0b : Nat → Int) (j0 : Nat) (v0m20 : Int) (v00t23 : Int) {c c' : Int → Prop} {x0 y0 : Int → Prop} {x1 y1 : Int → Prop} (hc : ∀ w0, c w0 → c' w0) (h0 : ∀ o0, x0 o0 → y0 o0) (h1 : ∀ o0, x1 o0 → y1 o0) : B_sd_Convex_0_0 a0n a0a a0b j0 v0m20 v00t23 c x0 x1  → B_sd_Convex_0_0 a0n a0a a0b j0 v0m20 v00t23 c' y0 y1  := by
  unfold B_sd_Convex_0_0
  repeat' first
    | exact hc _
    | exact h0 _
    | exact h1 _
    | refine Ts_imp ?_
    | refine cond_imp ?_ ?_
    | refine and_imp' ?_
theorem WM_sd_Convex_0_0 (a0n : Nat) (a0a : Nat → Int) (a0b : Nat → Int) (j0 : Nat) (v0m20 : Int) {x0 y0 : Int → Prop} {x1 y1 : Int → Prop} (h0 : ∀ o0, x0 o0 → y0 o0) (h1 : ∀ o0, x1 o0 → y1 o0) : ∀ (f : Nat) (v00t23 : Int), W_sd_Convex_0_0 a0n a0a a0b j0 v0m20 f v00t23 x0 x1 → W_sd_Convex_0_0 a0n a0a a0b j0 v0m20 f v00t23 y0 y1
  | 0, w0 => fun h => h
  | f + 1, w0 => BM_sd_Convex_0_0 a0n a0a a0b j0 v0m20 w0 (fun u0 => WM_sd_Convex_0_0 a0n a0a a0b j0 v0m20 h0 h1 f u0) h0 h1
def NN_sd_Convex_0 (a0n : Nat) (a0a : Nat → Int) (a0b : Nat → Int) : Nat := (F_sd_polygon_edges_0 a0n a0a a0b)
def PP_sd_Convex_0 (a0n : Nat) (a0a : Nat → Int) (a0b : Nat → Int) : Prop := (F_sd_polygon_edges_0 a0n a0a a0b) ≤ 1000000
def B_sd_Convex_0 (a0n : Nat) (a0a : Nat → Int) (a0b : Nat → Int) (j0 : Nat) (v0m20 : Int) (c : Int → Prop) (x0 : Int → Prop) (l0 : Int → (Int → Prop) → (Int → Prop) → Prop) : Prop := Ts 7 ((l0 0 (fun o00t23 => Ts 3 (c (iadd .i64 v0m20 1))) (fun o00t23 => x0 v0m20)))
def W_sd_Convex_0 (a0n : Nat) (a0a : Nat → Int) (a0b : Nat → Int) : Nat → Nat → Int → (Int → Prop) → (Int → Prop) → Prop
  | 0, _, w0, x0, _ => x0 w0
  | r + 1, j, w0, x0, x1 => B_sd_Convex_0 a0n a0a a0b j w0 (fun u0 => W_sd_Convex_0 a0n a0a a0b r (j + 1) u0 x0 x1) x1 (W_sd_Convex_0_0 a0n a0a a0b j w0 fuel)
theorem BM_sd_Convex_0 (a0n : Nat) (a0a : Nat → Int) (a0b : Nat → Int) (j0 : Nat) (v0m20 : Int) {c c' : Int → Prop} {x0 y0 : Int → Prop} (hc : ∀ w0, c w0 → c' w0) (h0 : ∀ o0, x0 o0 → y0 o0) : B_sd_Convex_0 a0n a0a a0b j0 v0m20 c x0 (W_sd_Convex_0_0 a0n a0a a0b j0 v0m20 fuel) → B_sd_Convex_0 a0n a0a a0b j0 v0m20 c' y0 (W_sd_Convex_0_0 a0n a0a a0b j0 v0m20 fuel) := by
  unfold B_sd_Convex_0
  repeat' first
    | exact hc _
    | exact h0 _
    | refine Ts_imp ?_
    | refine cond_imp ?_ ?_
    | refine and_imp' ?_
    | refine WM_sd_Convex_0_0 _ _ _ _ _  (fun _ => ?_) (fun _ => ?_) _ _ 
theorem WM_sd_Convex_0 (a0n : Nat) (a0a : Nat → Int) (a0b : Nat → Int) {x0 y0 : Int → Prop} {x1 y1 : Int → Prop} (h0 : ∀ o0, x0 o0 → y0 o0) (h1 : ∀ o0, x1 o0 → y1 o0) : ∀ (r j : Nat) (v0m20 : Int), W_sd_Convex_0 a0n a0a a0b r j v0m20 x0 x1 → W_sd_Convex_0 a0n a0a a0b r j v0m20 y0 y1
  | 0, j, w0 => h0 w0
  | r + 1, j, w0 => BM_sd_Convex_0 a0n a0a a0b j w0 (fun u0 => WM_sd_Convex_0 a0n a0a a0b h0 h1 r (j + 1) u0) h1
def B_sd_Convex (a0n : Nat) (a0a : Nat → Int) (a0b : Nat → Int) (K0 : Bool → Prop) (l0 : Int → (Int → Prop) → (Int → Prop) → Prop) : Prop := Ts 6 (cond (ilt ((a0n : Nat) : Int) 3) (Ts 3 (K0 false)) (Ts 1 (((P_sd_fair a0n a0a a0b) ∧ Ts 2 (cond (!(F_sd_fair_0 a0n a0a a0b)) (Ts 2 (K0 false)) (Ts 4 (((P_sd_polygon_edges a0n a0a a0b) ∧ (l0 0 (fun o0m20 => Ts 2 (K0 true)) (fun o0m20 => Ts 1 (K0 false)))))))))))
theorem mul_in {p q B : Int} (h1 : -B ≤ p) (h2 : p ≤ B) (h3 : -B ≤ q) (h4 : q ≤ B) : -(B * B) ≤ p * q ∧ p * q ≤ B * B := by
  have hB : 0 ≤ B := by omega
  have e1 : p.natAbs ≤ B.natAbs := by omega
  have e2 : q.natAbs ≤ B.natAbs := by omega
  have e3 : (p * q).natAbs ≤ (B * B).natAbs := by rw [Int.natAbs_mul, Int.natAbs_mul]; exact Nat.mul_le_mul e1 e2
  have e4 : 0 ≤ B * B := Int.mul_nonneg hB hB
  omega
def crossT (a b : Nat → Int) (i k j : Nat) : Int := (a k - a i) * (b j - b i) - (b k - b i) * (a j - a i)
theorem turn_eq {x0 y0 x1 y1 x2 y2 : Int} (h0 : spotOK x0 y0 = true) (h1 : spotOK x1 y1 = true) (h2 : spotOK x2 y2 = true) : F_sd_turn_0 x0 y0 x1 y1 x2 y2 = (x1 - x0) * (y2 - y0) - (y1 - y0) * (x2 - x0) := by
  rw [spotOK_iff] at h0 h1 h2
  unfold F_sd_turn_0 F_sd_cross_0 F_sd_way_0 F_sd_way_1
  rw [isub64 (a := x1) (by omega) (by omega), isub64 (a := y2) (by omega) (by omega), isub64 (a := y1) (by omega) (by omega), isub64 (a := x2) (by omega) (by omega)]
  have m1 := mul_in (p := x1 - x0) (q := y2 - y0) (B := 4194304) (by omega) (by omega) (by omega) (by omega)
  have m2 := mul_in (p := y1 - y0) (q := x2 - x0) (B := 4194304) (by omega) (by omega) (by omega) (by omega)
  rw [imul64 (a := x1 - x0) (by omega) (by omega), imul64 (a := y1 - y0) (by omega) (by omega), isub64 (by omega) (by omega)]
def rowOK (n : Nat) (a b : Nat → Int) (i : Nat) : Prop := ∀ j, j < n → j ≠ i → j ≠ nxE n i → 0 < crossT a b i (nxE n i) j
def convP (n : Nat) (a b : Nat → Int) : Prop := (∀ k, k < n → spotOK (a k) (b k) = true) ∧ ∀ i, i < n → rowOK n a b i
theorem nxE_lt {n i : Nat} (h : i < n) : nxE n i < n := by unfold nxE; split <;> omega
theorem nx_rem {n i : Nat} (h : i < n) (hn : n ≤ 1000000) : irem .i64 (iadd .i64 (i : Int) 1) (n : Int) = ((nxE n i : Nat) : Int) := by
  rw [iadd64 (by omega) (by omega), irem_eq]
  show ((i : Int) + 1).tmod (n : Int) = _
  rw [Int.tmod_eq_emod_of_nonneg (by omega)]
  unfold nxE
  split
  · rw [Int.emod_eq_of_lt (by omega) (by omega)]; omega
  · have : (i : Int) + 1 = n := by omega
    rw [this, Int.emod_self]; rfl
open Classical in
def convF (n : Nat) (a b : Nat → Int) : Bool := decide (3 ≤ n ∧ convP n a b)
def P_sd_Convex (n : Nat) (a : Nat → Int) (b : Nat → Int) : Prop := n ≤ 1000000 ∧ ∀ k, k < n → I64 (a k) ∧ I64 (b k)
def F_sd_Convex_0 (n : Nat) (a : Nat → Int) (b : Nat → Int) : Bool := convF n a b
theorem convF_iff {n : Nat} {a b : Nat → Int} : convF n a b = true ↔ (3 ≤ n ∧ convP n a b) := by unfold convF; simp
theorem convF_false {n : Nat} {a b : Nat → Int} (h : ¬ (3 ≤ n ∧ convP n a b)) : convF n a b = false := by
  cases hf : convF n a b with
  | false => rfl
  | true => exact absurd (convF_iff.1 hf) h
theorem W_sd_Convex_0_0_ok {n : Nat} {a b : Nat → Int} (hn : n ≤ 1000000) (hv : ∀ k, k < n → spotOK (a k) (b k) = true) {i : Nat} (hi : i < n) {x0 x1 : Int → Prop} : ∀ (f j : Nat), j ≤ n → n < f + j → ((∀ j', j ≤ j' → j' < n → j' ≠ i → j' ≠ nxE n i → 0 < crossT a b i (nxE n i) j') → ∀ v, x0 v) → (¬ rowOK n a b i → ∀ v, x1 v) →
    W_sd_Convex_0_0 n a b i i f j x0 x1
  | 0, j, h1, h2, _, _ => by omega
  | f + 1, j, h1, h2, h3, h4 => by
    show B_sd_Convex_0_0 n a b i i j _ _ _
    unfold B_sd_Convex_0_0 F_sd_polygon_edges_0 F_sd_polygon_edges_1 F_sd_polygon_edges_2
    simp only [Ts_iff, true_and, Int.toNat_natCast, Nat.zero_add]
    refine cond_intro (fun hc => ?_) (fun hc => ?_)
    · rw [ilt_t] at hc
      have hj : j < n := by omega
      have next : (j ≠ i → j ≠ nxE n i → 0 < crossT a b i (nxE n i) j) → W_sd_Convex_0_0 n a b i i f (iadd .i64 (j : Int) 1) x0 x1 := fun hh => by
        rw [iadd64 (by omega) (by omega)]
        refine W_sd_Convex_0_0_ok hn hv hi f (j + 1) (by omega) (by omega) (fun h => h3 fun j' hj1 hj2 => ?_) h4
        by_cases hk : j' = j
        · subst hk; exact hh
        · exact h j' (by omega) hj2
      refine ⟨⟨by omega, hc⟩, cond_intro (fun he => ?_) (fun he => ?_)⟩
      · rw [ine_t] at he
        refine ⟨by omega, ?_⟩
        rw [nx_rem hi hn]
        refine cond_intro (fun hf => ?_) (fun hf => ?_)
        · rw [ine_t] at hf
          have ht := turn_eq (hv i hi) (hv _ (nxE_lt hi)) (hv j hj)
          refine ⟨trivial, cond_intro (fun hg => ?_) (fun hg => ?_)⟩
          · rw [ile_t, ht] at hg
            refine h4 (fun hr => ?_) _
            have := hr j hj (by omega) (by omega)
            unfold crossT at this
            omega
          · rw [ile_f, ht] at hg
            exact next (fun _ _ => hg)
        · rw [ine_f] at hf
          exact next (fun _ h => absurd (by omega) h)
      · rw [ine_f] at he
        exact next (fun h _ => absurd (by omega) h)
    · exact h3 (fun j' hj1 hj2 => by rw [ilt_f] at hc; omega) _
theorem W_sd_Convex_0_ok {n : Nat} {a b : Nat → Int} (hn : n ≤ 1000000) (hv : ∀ k, k < n → spotOK (a k) (b k) = true) {x0 x1 : Int → Prop} : ∀ (r k : Nat), r + k = n → ((∀ i, k ≤ i → i < n → rowOK n a b i) → ∀ v, x0 v) → (∀ i, i < n → ¬ rowOK n a b i → ∀ v, x1 v) → W_sd_Convex_0 n a b r k k x0 x1
  | 0, k, h1, h2, _ => h2 (fun i h h' => by omega) _
  | r + 1, k, h1, h2, h3 => by
    show B_sd_Convex_0 n a b k k _ _ _
    unfold B_sd_Convex_0
    simp only [Ts_iff]
    refine W_sd_Convex_0_0_ok hn hv (by omega) fuel 0 (Nat.zero_le _) (by rw [fuel_eq]; omega) (fun hh v => ?_) (fun hr v => h3 k (by omega) hr _)
    rw [iadd64 (by omega) (by omega)]
    refine W_sd_Convex_0_ok hn hv r (k + 1) (by omega) (fun h => h2 fun i hi1 hi2 => ?_) h3
    by_cases hik : i = k
    · subst hik; exact fun j hj => hh j (Nat.zero_le _) hj
    · exact h i (by omega) hi2
theorem H_sd_Convex (a0n : Nat) (a0a : Nat → Int) (a0b : Nat → Int) {K0 : Bool → Prop} (h : P_sd_Convex a0n a0a a0b) (hK : K0 (F_sd_Convex_0 a0n a0a a0b)) : B_sd_Convex a0n a0a a0b K0 (fun p0 y0 y1 => PP_sd_Convex_0 a0n a0a a0b  ∧ W_sd_Convex_0 a0n a0a a0b  (NN_sd_Convex_0 a0n a0a a0b ) 0 p0 y0 y1) := by
  have no : ¬ (3 ≤ a0n ∧ convP a0n a0a a0b) → K0 false := fun hh => by
    unfold F_sd_Convex_0 at hK
    rw [convF_false hh] at hK
    exact hK
  have hn := h.1
  unfold B_sd_Convex
  simp only [Ts_iff]
  refine cond_intro (fun hc => ?_) (fun hc => ?_)
  · rw [ilt_t] at hc
    exact no (fun hh => by omega)
  · rw [ilt_f] at hc
    refine ⟨h, cond_intro (fun hf => ?_) (fun hf => ?_)⟩
    · refine no (fun hh => ?_)
      have : F_sd_fair_0 a0n a0a a0b = true := spotsOK_iff.2 hh.2.1
      rw [this] at hf
      cases hf
    · have hv : ∀ k, k < a0n → spotOK (a0a k) (a0b k) = true := by
        cases hh : F_sd_fair_0 a0n a0a a0b with
        | true => exact spotsOK_iff.1 hh
        | false => rw [hh] at hf; cases hf
      refine ⟨trivial, hn, ?_⟩
      refine W_sd_Convex_0_ok hn hv _ 0 rfl (fun hh v => ?_) (fun i hi hr v => no (fun hh => hr (hh.2.2 i hi)))
      unfold F_sd_Convex_0 at hK
      rw [convF_iff.2 ⟨by omega, hv, fun i hi => hh i (Nat.zero_le _) hi⟩] at hK
      exact hK
/-! ### bagatelle/solid.grown -/
def B_sd_grown (a0a : Int) (a0b : Int) (a1 : Int) (K0 : Int → Int → Int → Int → Prop)  : Prop := Ts 21 (K0 (isub .i64 a0a a1) (isub .i64 a0b a1) (iadd .i64 a0a a1) (iadd .i64 a0b a1))
def P_sd_grown (a0a : Int) (a0b : Int) (a1 : Int) : Prop := True
def F_sd_grown_0 (a0a : Int) (a0b : Int) (a1 : Int) : Int := (isub .i64 a0a a1)
def F_sd_grown_1 (a0a : Int) (a0b : Int) (a1 : Int) : Int := (isub .i64 a0b a1)
def F_sd_grown_2 (a0a : Int) (a0b : Int) (a1 : Int) : Int := (iadd .i64 a0a a1)
def F_sd_grown_3 (a0a : Int) (a0b : Int) (a1 : Int) : Int := (iadd .i64 a0b a1)
theorem H_sd_grown (a0a : Int) (a0b : Int) (a1 : Int) {K0 : Int → Int → Int → Int → Prop} (h : P_sd_grown a0a a0b a1) (hK : K0 (F_sd_grown_0 a0a a0b a1) (F_sd_grown_1 a0a a0b a1) (F_sd_grown_2 a0a a0b a1) (F_sd_grown_3 a0a a0b a1)) : B_sd_grown a0a a0b a1 K0  := by
  unfold B_sd_grown P_sd_grown F_sd_grown_0 F_sd_grown_1 F_sd_grown_2 F_sd_grown_3 at *
  simp only [Ts_iff, true_and]
  try simp only [Ts_iff, true_and] at h
  repeat' first
    | exact hK
    | (refine cond_intro (fun hc => ?_) (fun hc => ?_) <;> (try simp only [hc, cond_true, cond_false] at h) <;> (try simp only [hc, cond_true, cond_false] at hK) <;> (try simp only [hc, cond_true, cond_false]))
    | (refine ⟨rfl, ?_⟩)
    | (refine ⟨trivial, ?_⟩)
    | (refine ⟨by decide, ?_⟩)
    | (refine ⟨h.1, ?_⟩; replace h := h.2)
    | (refine ⟨h, ?_⟩)
    | (refine ⟨fun _ _ => rfl, ?_⟩)
/-! ### bagatelle/solid.Check -/
def B_sd_Check (a0a : Int) (a0ba : Int) (a0bb : Int) (a0c : Int) (a0dn : Nat) (a0da : Nat → Int) (a0db : Nat → Int) (K0 : Int → Prop)  : Prop := Ts 9 (cond (!(ieq a0a 1)) (Ts 5 (cond (ine a0a 2) (Ts 1 (K0 8)) (Ts 3 (((P_sd_fair 1 (fun _ => a0ba) (fun _ => a0bb)) ∧ Ts 2 (cond (!(F_sd_fair_0 1 (fun _ => a0ba) (fun _ => a0bb))) (Ts 3 (K0 3)) (Ts 2 (((P_sd_fair a0dn a0da a0db) ∧ Ts 3 (cond (!(F_sd_fair_0 a0dn a0da a0db)) (Ts 1 (K0 3)) (Ts 2 (cond (ieq a0a 1) (Ts 5 (cond (igt a0c 0) (Ts 4 (cond (igt a0c 2097152) (Ts 4 (K0 3)) (Ts 4 (((P_sd_grown a0ba a0bb a0c) ∧ ((P_sd_CheckBox (F_sd_grown_0 a0ba a0bb a0c) (F_sd_grown_1 a0ba a0bb a0c) (F_sd_grown_2 a0ba a0bb a0c) (F_sd_grown_3 a0ba a0bb a0c)) ∧ Ts 4 (cond (ine (F_sd_CheckBox_0 (F_sd_grown_0 a0ba a0bb a0c) (F_sd_grown_1 a0ba a0bb a0c) (F_sd_grown_2 a0ba a0bb a0c) (F_sd_grown_3 a0ba a0bb a0c)) 0) (Ts 1 (K0 3)) (Ts 2 (cond (ieq a0a 1) (Ts 4 (cond (ilt a0c 1) (Ts 4 (K0 5)) (Ts 7 (cond (igt ((a0dn : Nat) : Int) 0) (Ts 1 (K0 5)) (Ts 3 (cond (!(ieq a0a 1)) (Ts 4 (cond (ine a0c 0) (Ts 6 (K0 5)) (Ts 6 (cond (igt ((a0dn : Nat) : Int) 8) (Ts 4 (K0 5)) (Ts 2 (((P_sd_Convex a0dn a0da a0db) ∧ Ts 4 (cond (!(F_sd_Convex_0 a0dn a0da a0db)) (Ts 1 (K0 5)) (Ts 1 (K0 0)))))))))) (Ts 3 (K0 0)))))))) (Ts 5 (cond (!(ieq a0a 1)) (Ts 4 (cond (ine a0c 0) (Ts 6 (K0 5)) (Ts 6 (cond (igt ((a0dn : Nat) : Int) 8) (Ts 4 (K0 5)) (Ts 2 (((P_sd_Convex a0dn a0da a0db) ∧ Ts 4 (cond (!(F_sd_Convex_0 a0dn a0da a0db)) (Ts 1 (K0 5)) (Ts 1 (K0 0)))))))))) (Ts 3 (K0 0))))))))))))) (Ts 4 (cond (ieq a0a 1) (Ts 4 (cond (ilt a0c 1) (Ts 4 (K0 5)) (Ts 7 (cond (igt ((a0dn : Nat) : Int) 0) (Ts 1 (K0 5)) (Ts 3 (cond (!(ieq a0a 1)) (Ts 4 (cond (ine a0c 0) (Ts 6 (K0 5)) (Ts 6 (cond (igt ((a0dn : Nat) : Int) 8) (Ts 4 (K0 5)) (Ts 2 (((P_sd_Convex a0dn a0da a0db) ∧ Ts 4 (cond (!(F_sd_Convex_0 a0dn a0da a0db)) (Ts 1 (K0 5)) (Ts 1 (K0 0)))))))))) (Ts 3 (K0 0)))))))) (Ts 5 (cond (!(ieq a0a 1)) (Ts 4 (cond (ine a0c 0) (Ts 6 (K0 5)) (Ts 6 (cond (igt ((a0dn : Nat) : Int) 8) (Ts 4 (K0 5)) (Ts 2 (((P_sd_Convex a0dn a0da a0db) ∧ Ts 4 (cond (!(F_sd_Convex_0 a0dn a0da a0db)) (Ts 1 (K0 5)) (Ts 1 (K0 0)))))))))) (Ts 3 (K0 0)))))))) (Ts 6 (cond (ieq a0a 1) (Ts 4 (cond (ilt a0c 1) (Ts 4 (K0 5)) (Ts 7 (cond (igt ((a0dn : Nat) : Int) 0) (Ts 1 (K0 5)) (Ts 3 (cond (!(ieq a0a 1)) (Ts 4 (cond (ine a0c 0) (Ts 6 (K0 5)) (Ts 6 (cond (igt ((a0dn : Nat) : Int) 8) (Ts 4 (K0 5)) (Ts 2 (((P_sd_Convex a0dn a0da a0db) ∧ Ts 4 (cond (!(F_sd_Convex_0 a0dn a0da a0db)) (Ts 1 (K0 5)) (Ts 1 (K0 0)))))))))) (Ts 3 (K0 0)))))))) (Ts 5 (cond (!(ieq a0a 1)) (Ts 4 (cond (ine a0c 0) (Ts 6 (K0 5)) (Ts 6 (cond (igt ((a0dn : Nat) : Int) 8) (Ts 4 (K0 5)) (Ts 2 (((P_sd_Convex a0dn a0da a0db) ∧ Ts 4 (cond (!(F_sd_Convex_0 a0dn a0da a0db)) (Ts 1 (K0 5)) (Ts 1 (K0 0)))))))))) (Ts 3 (K0 0)))))))))))))))))) (Ts 5 (((P_sd_fair 1 (fun _ => a0ba) (fun _ => a0bb)) ∧ Ts 2 (cond (!(F_sd_fair_0 1 (fun _ => a0ba) (fun _ => a0bb))) (Ts 3 (K0 3)) (Ts 2 (((P_sd_fair a0dn a0da a0db) ∧ Ts 3 (cond (!(F_sd_fair_0 a0dn a0da a0db)) (Ts 1 (K0 3)) (Ts 2 (cond (ieq a0a 1) (Ts 5 (cond (igt a0c 0) (Ts 4 (cond (igt a0c 2097152) (Ts 4 (K0 3)) (Ts 4 (((P_sd_grown a0ba a0bb a0c) ∧ ((P_sd_CheckBox (F_sd_grown_0 a0ba a0bb a0c) (F_sd_grown_1 a0ba a0bb a0c) (F_sd_grown_2 a0ba a0bb a0c) (F_sd_grown_3 a0ba a0bb a0c)) ∧ Ts 4 (cond (ine (F_sd_CheckBox_0 (F_sd_grown_0 a0ba a0bb a0c) (F_sd_grown_1 a0ba a0bb a0c) (F_sd_grown_2 a0ba a0bb a0c) (F_sd_grown_3 a0ba a0bb a0c)) 0) (Ts 1 (K0 3)) (Ts 2 (cond (ieq a0a 1) (Ts 4 (cond (ilt a0c 1) (Ts 4 (K0 5)) (Ts 7 (cond (igt ((a0dn : Nat) : Int) 0) (Ts 1 (K0 5)) (Ts 3 (cond (!(ieq a0a 1)) (Ts 4 (cond (ine a0c 0) (Ts 6 (K0 5)) (Ts 6 (cond (igt ((a0dn : Nat) : Int) 8) (Ts 4 (K0 5)) (Ts 2 (((P_sd_Convex a0dn a0da a0db) ∧ Ts 4 (cond (!(F_sd_Convex_0 a0dn a0da a0db)) (Ts 1 (K0 5)) (Ts 1 (K0 0)))))))))) (Ts 3 (K0 0)))))))) (Ts 5 (cond (!(ieq a0a 1)) (Ts 4 (cond (ine a0c 0) (Ts 6 (K0 5)) (Ts 6 (cond (igt ((a0dn : Nat) : Int) 8) (Ts 4 (K0 5)) (Ts 2 (((P_sd_Convex a0dn a0da a0db) ∧ Ts 4 (cond (!(F_sd_Convex_0 a0dn a0da a0db)) (Ts 1 (K0 5)) (Ts 1 (K0 0)))))))))) (Ts 3 (K0 0))))))))))))) (Ts 4 (cond (ieq a0a 1) (Ts 4 (cond (ilt a0c 1) (Ts 4 (K0 5)) (Ts 7 (cond (igt ((a0dn : Nat) : Int) 0) (Ts 1 (K0 5)) (Ts 3 (cond (!(ieq a0a 1)) (Ts 4 (cond (ine a0c 0) (Ts 6 (K0 5)) (Ts 6 (cond (igt ((a0dn : Nat) : Int) 8) (Ts 4 (K0 5)) (Ts 2 (((P_sd_Convex a0dn a0da a0db) ∧ Ts 4 (cond (!(F_sd_Convex_0 a0dn a0da a0db)) (Ts 1 (K0 5)) (Ts 1 (K0 0)))))))))) (Ts 3 (K0 0)))))))) (Ts 5 (cond (!(ieq a0a 1)) (Ts 4 (cond (ine a0c 0) (Ts 6 (K0 5)) (Ts 6 (cond (igt ((a0dn : Nat) : Int) 8) (Ts 4 (K0 5)) (Ts 2 (((P_sd_Convex a0dn a0da a0db) ∧ Ts 4 (cond (!(F_sd_Convex_0 a0dn a0da a0db)) (Ts 1 (K0 5)) (Ts 1 (K0 0)))))))))) (Ts 3 (K0 0)))))))) (Ts 6 (cond (ieq a0a 1) (Ts 4 (cond (ilt a0c 1) (Ts 4 (K0 5)) (Ts 7 (cond (igt ((a0dn : Nat) : Int) 0) (Ts 1 (K0 5)) (Ts 3 (cond (!(ieq a0a 1)) (Ts 4 (cond (ine a0c 0) (Ts 6 (K0 5)) (Ts 6 (cond (igt ((a0dn : Nat) : Int) 8) (Ts 4 (K0 5)) (Ts 2 (((P_sd_Convex a0dn a0da a0db) ∧ Ts 4 (cond (!(F_sd_Convex_0 a0dn a0da a0db)) (Ts 1 (K0 5)) (Ts 1 (K0 0)))))))))) (Ts 3 (K0 0)))))))) (Ts 5 (cond (!(ieq a0a 1)) (Ts 4 (cond (ine a0c 0) (Ts 6 (K0 5)) (Ts 6 (cond (igt ((a0dn : Nat) : Int) 8) (Ts 4 (K0 5)) (Ts 2 (((P_sd_Convex a0dn a0da a0db) ∧ Ts 4 (cond (!(F_sd_Convex_0 a0dn a0da a0db)) (Ts 1 (K0 5)) (Ts 1 (K0 0)))))))))) (Ts 3 (K0 0)))))))))))))))))
theorem i64_sub (x y : Int) : I64 (isub .i64 x y) := by
  rw [isub_eq]
  unfold I64
  simp only [IntKind.wrap_i64]
  omega
theorem i64_add (x y : Int) : I64 (iadd .i64 x y) := by
  rw [iadd_eq]
  unfold I64
  simp only [IntKind.wrap_i64]
  omega
def FormI (k : Int) (ba : Int) (bb : Int) (c : Int) (n : Nat) (da : Nat → Int) (db : Nat → Int) : Prop := (I64 k ∧ I64 ba ∧ I64 bb ∧ I64 c) ∧ n ≤ 1000000 ∧ ∀ j, j < n → I64 (da j) ∧ I64 (db j)
def P_sd_Check (k : Int) (ba : Int) (bb : Int) (c : Int) (n : Nat) (da : Nat → Int) (db : Nat → Int) : Prop := FormI k ba bb c n da db
def F_sd_Check_0 (k : Int) (ba : Int) (bb : Int) (c : Int) (n : Nat) (da : Nat → Int) (db : Nat → Int) : Int := cond (!(ieq k 1) && ine k 2) 8 (cond (!(F_sd_fair_0 1 (fun _ => ba) (fun _ => bb))) 3 (cond (!(F_sd_fair_0 n da db)) 3 (cond (ieq k 1) (cond (igt c 0 && (igt c 2097152 || ine (F_sd_CheckBox_0 (F_sd_grown_0 ba bb c) (F_sd_grown_1 ba bb c) (F_sd_grown_2 ba bb c) (F_sd_grown_3 ba bb c)) 0)) 3 (cond (ilt c 1) 5 (cond (igt (n : Int) 0) 5 0))) (cond (ine c 0) 5 (cond (igt (n : Int) 8) 5 (cond (!(F_sd_Convex_0 n da db)) 5 0))))))
theorem H_sd_Check (k : Int) (ba : Int) (bb : Int) (c : Int) (n : Nat) (da : Nat → Int) (db : Nat → Int) {K0 : Int → Prop} (h : P_sd_Check k ba bb c n da db) (hK : K0 (F_sd_Check_0 k ba bb c n da db)) : B_sd_Check k ba bb c n da db K0 := by
  obtain ⟨⟨h1, h2, h3, h4⟩, h5, h6⟩ := h
  have pf1 : P_sd_fair 1 (fun _ => ba) (fun _ => bb) := ⟨by omega, fun _ _ => ⟨h2, h3⟩⟩
  have pf2 : P_sd_fair n da db := ⟨h5, h6⟩
  have pf3 : P_sd_Convex n da db := ⟨h5, h6⟩
  have pf4 : P_sd_CheckBox (F_sd_grown_0 ba bb c) (F_sd_grown_1 ba bb c) (F_sd_grown_2 ba bb c) (F_sd_grown_3 ba bb c) := ⟨by omega, fun k hk => by
    have : k = 0 ∨ k = 1 := by omega
    rcases this with rfl | rfl
    · exact ⟨i64_sub _ _, i64_sub _ _⟩
    · exact ⟨i64_add _ _, i64_add _ _⟩⟩
  unfold F_sd_Check_0 at hK
  unfold B_sd_Check
  simp only [Ts_iff, true_and]
  repeat' first
    | exact hK
    | (refine cond_intro (fun hc => ?_) (fun hc => ?_) <;> (try simp only [Bool.not_eq_true', Bool.not_eq_false'] at hc) <;> (try simp only [hc, cond_true, cond_false, Bool.not_true, Bool.not_false, Bool.true_and, Bool.and_true, Bool.false_and, Bool.and_false, Bool.true_or, Bool.or_true, Bool.false_or, Bool.or_false] at hK) <;> (try simp only [hc, cond_true, cond_false, Bool.not_true, Bool.not_false]))
    | (refine ⟨pf1, ?_⟩)
    | (refine ⟨pf2, ?_⟩)
    | (refine ⟨pf3, ?_⟩)
    | (refine ⟨pf4, ?_⟩)
    | (refine ⟨trivial, ?_⟩)
    | (refine ⟨rfl, ?_⟩)
/-! ### bagatelle/solid.figureOf -/
def B_sd_figureOf (a0a : Int) (a0ba : Int) (a0bb : Int) (a0c : Int) (a0dn : Nat) (a0da : Nat → Int) (a0db : Nat → Int) (K0 : Prop) (K1 : Int → Int → Int → Prop) (K2 : Nat → (Nat → Int) → (Nat → Int) → Prop)  : Prop := Ts 3 (((P_sd_Check a0a a0ba a0bb a0c a0dn a0da a0db) ∧ Ts 1 (cond (ine (F_sd_Check_0 a0a a0ba a0bb a0c a0dn a0da a0db) 0) (Ts 1 (K0 )) (Ts 3 (cond (ieq a0a 1) (Ts 7 (K1 a0ba a0bb a0c)) (Ts 5 (K2 a0dn a0da a0db)))))))
def P_sd_figureOf (a0a : Int) (a0ba : Int) (a0bb : Int) (a0c : Int) (a0dn : Nat) (a0da : Nat → Int) (a0db : Nat → Int) : Prop := (P_sd_Check a0a a0ba a0bb a0c a0dn a0da a0db)
def C_sd_figureOf_0 (a0a : Int) (a0ba : Int) (a0bb : Int) (a0c : Int) (a0dn : Nat) (a0da : Nat → Int) (a0db : Nat → Int) : Bool := (cond (ine (F_sd_Check_0 a0a a0ba a0bb a0c a0dn a0da a0db) 0) true false)
def C_sd_figureOf_1 (a0a : Int) (a0ba : Int) (a0bb : Int) (a0c : Int) (a0dn : Nat) (a0da : Nat → Int) (a0db : Nat → Int) : Bool := (cond (ine (F_sd_Check_0 a0a a0ba a0bb a0c a0dn a0da a0db) 0) false (cond (ieq a0a 1) true false))
def F_sd_figureOf_1_0 (a0a : Int) (a0ba : Int) (a0bb : Int) (a0c : Int) (a0dn : Nat) (a0da : Nat → Int) (a0db : Nat → Int) : Int := a0ba
def F_sd_figureOf_1_1 (a0a : Int) (a0ba : Int) (a0bb : Int) (a0c : Int) (a0dn : Nat) (a0da : Nat → Int) (a0db : Nat → Int) : Int := a0bb
def F_sd_figureOf_1_2 (a0a : Int) (a0ba : Int) (a0bb : Int) (a0c : Int) (a0dn : Nat) (a0da : Nat → Int) (a0db : Nat → Int) : Int := a0c
def F_sd_figureOf_2_0 (a0a : Int) (a0ba : Int) (a0bb : Int) (a0c : Int) (a0dn : Nat) (a0da : Nat → Int) (a0db : Nat → Int) : Nat := a0dn
def F_sd_figureOf_2_1 (a0a : Int) (a0ba : Int) (a0bb : Int) (a0c : Int) (a0dn : Nat) (a0da : Nat → Int) (a0db : Nat → Int) : (Nat → Int) := a0da
def F_sd_figureOf_2_2 (a0a : Int) (a0ba : Int) (a0bb : Int) (a0c : Int) (a0dn : Nat) (a0da : Nat → Int) (a0db : Nat → Int) : (Nat → Int) := a0db
theorem H_sd_figureOf (a0a : Int) (a0ba : Int) (a0bb : Int) (a0c : Int) (a0dn : Nat) (a0da : Nat → Int) (a0db : Nat → Int) {K0 : Prop} {K1 : Int → Int → Int → Prop} {K2 : Nat → (Nat → Int) → (Nat → Int) → Prop} (h : P_sd_figureOf a0a a0ba a0bb a0c a0dn a0da a0db) (hK : cond (C_sd_figureOf_0 a0a a0ba a0bb a0c a0dn a0da a0db) (K0 ) (cond (C_sd_figureOf_1 a0a a0ba a0bb a0c a0dn a0da a0db) (K1 (F_sd_figureOf_1_0 a0a a0ba a0bb a0c a0dn a0da a0db) (F_sd_figureOf_1_1 a0a a0ba a0bb a0c a0dn a0da a0db) (F_sd_figureOf_1_2 a0a a0ba a0bb a0c a0dn a0da a0db)) (K2 (F_sd_figureOf_2_0 a0a a0ba a0bb a0c a0dn a0da a0db) (F_sd_figureOf_2_1 a0a a0ba a0bb a0c a0dn a0da a0db) (F_sd_figureOf_2_2 a0a a0ba a0bb a0c a0dn a0da a0db)))) : B_sd_figureOf a0a a0ba a0bb a0c a0dn a0da a0db K0 K1 K2  := by
  unfold B_sd_figureOf P_sd_figureOf C_sd_figureOf_0 C_sd_figureOf_1 F_sd_figureOf_1_0 F_sd_figureOf_1_1 F_sd_figureOf_1_2 F_sd_figureOf_2_0 F_sd_figureOf_2_1 F_sd_figureOf_2_2 at *
  simp only [Ts_iff, true_and]
  try simp only [Ts_iff, true_and] at h
  repeat' first
    | exact hK
    | (refine cond_intro (fun hc => ?_) (fun hc => ?_) <;> (try simp only [hc, cond_true, cond_false] at h) <;> (try simp only [hc, cond_true, cond_false] at hK) <;> (try simp only [hc, cond_true, cond_false]))
    | (refine ⟨rfl, ?_⟩)
    | (refine ⟨trivial, ?_⟩)
    | (refine ⟨by decide, ?_⟩)
    | (refine ⟨h.1, ?_⟩; replace h := h.2)
    | (refine ⟨h, ?_⟩)
    | (refine ⟨fun _ _ => rfl, ?_⟩)
/-! ### (bagatelle/solid.polygon).has -/
def NN_sd_polygon_has_0 (a0an : Nat) (a0aa : Nat → Int) (a0ab : Nat → Int) (a1a : Int) (a1b : Int) : Nat := (F_sd_polygon_edges_0 a0an a0aa a0ab)
def PP_sd_polygon_has_0 (a0an : Nat) (a0aa : Nat → Int) (a0ab : Nat → Int) (a1a : Int) (a1b : Int) : Prop := (F_sd_polygon_edges_0 a0an a0aa a0ab) ≤ 1000000
def B_sd_polygon_has_0 (a0an : Nat) (a0aa : Nat → Int) (a0ab : Nat → Int) (a1a : Int) (a1b : Int) (j0 : Nat)  (c : Prop) (x0 : Prop)  : Prop := Ts 7 (((P_sd_turn ((F_sd_polygon_edges_1 a0an a0aa a0ab) j0) ((F_sd_polygon_edges_2 a0an a0aa a0ab) j0) ((F_sd_polygon_edges_1 a0an a0aa a0ab) (nxE (F_sd_polygon_edges_0 a0an a0aa a0ab) j0)) ((F_sd_polygon_edges_2 a0an a0aa a0ab) (nxE (F_sd_polygon_edges_0 a0an a0aa a0ab) j0)) a1a a1b) ∧ Ts 1 (cond (ilt (F_sd_turn_0 ((F_sd_polygon_edges_1 a0an a0aa a0ab) j0) ((F_sd_polygon_edges_2 a0an a0aa a0ab) j0) ((F_sd_polygon_edges_1 a0an a0aa a0ab) (nxE (F_sd_polygon_edges_0 a0an a0aa a0ab) j0)) ((F_sd_polygon_edges_2 a0an a0aa a0ab) (nxE (F_sd_polygon_edges_0 a0an a0aa a0ab) j0)) a1a a1b) 0) (Ts 1 (x0 )) (c ))))
def W_sd_polygon_has_0 (a0an : Nat) (a0aa : Nat → Int) (a0ab : Nat → Int) (a1a : Int) (a1b : Int) : Nat → Nat → (Prop) → (Prop) → Prop
  | 0, _, x0, _ => x0 
  | r + 1, j, x0, x1 => B_sd_polygon_has_0 a0an a0aa a0ab a1a a1b j  (W_sd_polygon_has_0 a0an a0aa a0ab a1a a1b r (j + 1)  x0 x1) x1 
theorem BM_sd_polygon_has_0 (a0an : Nat) (a0aa : Nat → Int) (a0ab : Nat → Int) (a1a : Int) (a1b : Int) (j0 : Nat)  {c c' : Prop} {x0 y0 : Prop} (hc : c → c') (h0 : x0 → y0) : B_sd_polygon_has_0 a0an a0aa a0ab a1a a1b j0  c x0  → B_sd_polygon_has_0 a0an a0aa a0ab a1a a1b j0  c' y0  := by
  unfold B_sd_polygon_has_0
  repeat' first
    | exact hc 
    | exact h0 
    | refine Ts_imp ?_
    | refine cond_imp ?_ ?_
    | refine and_imp' ?_
theorem WM_sd_polygon_has_0 (a0an : Nat) (a0aa : Nat → Int) (a0ab : Nat → Int) (a1a : Int) (a1b : Int) {x0 y0 : Prop} {x1 y1 : Prop} (h0 : x0 → y0) (h1 : x1 → y1) : ∀ (r j : Nat) , W_sd_polygon_has_0 a0an a0aa a0ab a1a a1b r j  x0 x1 → W_sd_polygon_has_0 a0an a0aa a0ab a1a a1b r j  y0 y1
  | 0, j => h0 
  | r + 1, j => BM_sd_polygon_has_0 a0an a0aa a0ab a1a a1b j  (WM_sd_polygon_has_0 a0an a0aa a0ab a1a a1b h0 h1 r (j + 1) ) h1
def B_sd_polygon_has (a0an : Nat) (a0aa : Nat → Int) (a0ab : Nat → Int) (a1a : Int) (a1b : Int) (K0 : Bool → Prop) (l0 : (Prop) → (Prop) → Prop) : Prop := Ts 4 (((P_sd_polygon_edges a0an a0aa a0ab) ∧ (l0  (Ts 2 (K0 true)) (Ts 1 (K0 false)))))
def P_sd_polygon_has (n : Nat) (a : Nat → Int) (b : Nat → Int) (px : Int) (py : Int) : Prop := n ≤ 1000000
def hasOK (n : Nat) (a : Nat → Int) (b : Nat → Int) (px : Int) (py : Int) (j : Nat) : Bool := !(ilt (F_sd_turn_0 (a j) (b j) (a (nxE n j)) (b (nxE n j)) px py) 0)
def F_sd_polygon_has_0 (n : Nat) (a : Nat → Int) (b : Nat → Int) (px : Int) (py : Int) : Bool := (List.range n).all fun j => hasOK n a b px py j
theorem has_iff {n : Nat} {a b : Nat → Int} {px py : Int} : F_sd_polygon_has_0 n a b px py = true ↔ ∀ j, j < n → hasOK n a b px py j = true := by
  unfold F_sd_polygon_has_0
  rw [List.all_eq_true]
  exact ⟨fun h k hk => h k (List.mem_range.2 hk), fun h k hk => h k (List.mem_range.1 hk)⟩
theorem W_sd_polygon_has_ok {n : Nat} {a b : Nat → Int} {px py : Int} {x0 x1 : Prop} : ∀ (r k : Nat), r + k = n → ((∀ j, k ≤ j → j < n → hasOK n a b px py j = true) → x0) → (∀ j, j < n → hasOK n a b px py j = false → x1) → W_sd_polygon_has_0 n a b px py r k x0 x1
  | 0, k, h1, h2, _ => h2 (fun j h h' => by omega)
  | r + 1, k, h1, h2, h3 => by
    show B_sd_polygon_has_0 n a b px py k _ _
    unfold B_sd_polygon_has_0 F_sd_polygon_edges_0 F_sd_polygon_edges_1 F_sd_polygon_edges_2
    simp only [Ts_iff]
    refine ⟨trivial, cond_intro (fun hc => ?_) (fun hc => ?_)⟩
    · exact h3 k (by omega) (by unfold hasOK; rw [hc]; rfl)
    · refine W_sd_polygon_has_ok r (k + 1) (by omega) (fun h => h2 fun j hj1 hj2 => ?_) h3
      by_cases hk : j = k
      · subst hk; unfold hasOK; rw [hc]; rfl
      · exact h j (by omega) hj2
theorem H_sd_polygon_has (a0an : Nat) (a0aa : Nat → Int) (a0ab : Nat → Int) (a1a : Int) (a1b : Int) {K0 : Bool → Prop} (h : P_sd_polygon_has a0an a0aa a0ab a1a a1b) (hK : K0 (F_sd_polygon_has_0 a0an a0aa a0ab a1a a1b)) : B_sd_polygon_has a0an a0aa a0ab a1a a1b K0 (fun y0 y1 => PP_sd_polygon_has_0 a0an a0aa a0ab a1a a1b  ∧ W_sd_polygon_has_0 a0an a0aa a0ab a1a a1b  (NN_sd_polygon_has_0 a0an a0aa a0ab a1a a1b ) 0  y0 y1) := by
  unfold B_sd_polygon_has
  simp only [Ts_iff]
  refine ⟨trivial, h, W_sd_polygon_has_ok _ 0 rfl (fun hh => ?_) (fun j hj hb => ?_)⟩
  · rw [has_iff.2 fun j hj => hh j (Nat.zero_le _) hj] at hK
    exact hK
  · have : F_sd_polygon_has_0 a0an a0aa a0ab a1a a1b = false := by
      cases hf : F_sd_polygon_has_0 a0an a0aa a0ab a1a a1b with
      | false => rfl
      | true => rw [has_iff.1 hf j hj] at hb; cases hb
    rw [this] at hK
    exact hK
/-! ### bagatelle/solid.dot -/
def B_sd_dot (a0a : Int) (a0b : Int) (a1a : Int) (a1b : Int) (K0 : Int → Prop)  : Prop := Ts 15 (K0 (iadd .i64 (imul .i64 a0a a1a) (imul .i64 a0b a1b)))
def P_sd_dot (a0a : Int) (a0b : Int) (a1a : Int) (a1b : Int) : Prop := True
def F_sd_dot_0 (a0a : Int) (a0b : Int) (a1a : Int) (a1b : Int) : Int := (iadd .i64 (imul .i64 a0a a1a) (imul .i64 a0b a1b))
theorem H_sd_dot (a0a : Int) (a0b : Int) (a1a : Int) (a1b : Int) {K0 : Int → Prop} (h : P_sd_dot a0a a0b a1a a1b) (hK : K0 (F_sd_dot_0 a0a a0b a1a a1b)) : B_sd_dot a0a a0b a1a a1b K0  := by
  unfold B_sd_dot P_sd_dot F_sd_dot_0 at *
  simp only [Ts_iff, true_and]
  try simp only [Ts_iff, true_and] at h
  repeat' first
    | exact hK
    | (refine cond_intro (fun hc => ?_) (fun hc => ?_) <;> (try simp only [hc, cond_true, cond_false] at h) <;> (try simp only [hc, cond_true, cond_false] at hK) <;> (try simp only [hc, cond_true, cond_false]))
    | (refine ⟨rfl, ?_⟩)
    | (refine ⟨trivial, ?_⟩)
    | (refine ⟨by decide, ?_⟩)
    | (refine ⟨h.1, ?_⟩; replace h := h.2)
    | (refine ⟨h, ?_⟩)
    | (refine ⟨fun _ _ => rfl, ?_⟩)
/-! ### (bagatelle/solid.disc).has -/
def B_sd_disc_has (a0aa : Int) (a0ab : Int) (a0b : Int) (a1a : Int) (a1b : Int) (K0 : Bool → Prop)  : Prop := Ts 6 (((P_sd_way a0aa a0ab a1a a1b) ∧ Ts 4 (((P_sd_dot (F_sd_way_0 a0aa a0ab a1a a1b) (F_sd_way_1 a0aa a0ab a1a a1b) (F_sd_way_0 a0aa a0ab a1a a1b) (F_sd_way_1 a0aa a0ab a1a a1b)) ∧ Ts 7 ((true = true ∧ K0 (ile (F_sd_dot_0 (F_sd_way_0 a0aa a0ab a1a a1b) (F_sd_way_1 a0aa a0ab a1a a1b) (F_sd_way_0 a0aa a0ab a1a a1b) (F_sd_way_1 a0aa a0ab a1a a1b)) (imul .i64 a0b a0b))))))))
def P_sd_disc_has (a0aa : Int) (a0ab : Int) (a0b : Int) (a1a : Int) (a1b : Int) : Prop := True
def F_sd_disc_has_0 (a0aa : Int) (a0ab : Int) (a0b : Int) (a1a : Int) (a1b : Int) : Bool := (ile (F_sd_dot_0 (F_sd_way_0 a0aa a0ab a1a a1b) (F_sd_way_1 a0aa a0ab a1a a1b) (F_sd_way_0 a0aa a0ab a1a a1b) (F_sd_way_1 a0aa a0ab a1a a1b)) (imul .i64 a0b a0b))
theorem H_sd_disc_has (a0aa : Int) (a0ab : Int) (a0b : Int) (a1a : Int) (a1b : Int) {K0 : Bool → Prop} (h : P_sd_disc_has a0aa a0ab a0b a1a a1b) (hK : K0 (F_sd_disc_has_0 a0aa a0ab a0b a1a a1b)) : B_sd_disc_has a0aa a0ab a0b a1a a1b K0  := by
  unfold B_sd_disc_has P_sd_disc_has F_sd_disc_has_0 at *
  simp only [Ts_iff, true_and]
  try simp only [Ts_iff, true_and] at h
  repeat' first
    | exact hK
    | (refine cond_intro (fun hc => ?_) (fun hc => ?_) <;> (try simp only [hc, cond_true, cond_false] at h) <;> (try simp only [hc, cond_true, cond_false] at hK) <;> (try simp only [hc, cond_true, cond_false]))
    | (refine ⟨rfl, ?_⟩)
    | (refine ⟨trivial, ?_⟩)
    | (refine ⟨by decide, ?_⟩)
    | (refine ⟨h.1, ?_⟩; replace h := h.2)
    | (refine ⟨h, ?_⟩)
    | (refine ⟨fun _ _ => rfl, ?_⟩)
/-! ### bagatelle/solid.Holds -/
def B_sd_Holds (a0a : Int) (a0ba : Int) (a0bb : Int) (a0c : Int) (a0dn : Nat) (a0da : Nat → Int) (a0db : Nat → Int) (a1a : Int) (a1b : Int) (K0 : Bool → Prop)  : Prop := Ts 4 (((P_sd_figureOf a0a a0ba a0bb a0c a0dn a0da a0db) ∧ cond (C_sd_figureOf_0 a0a a0ba a0bb a0c a0dn a0da a0db) (Ts 8 (K0 false)) (cond (C_sd_figureOf_1 a0a a0ba a0bb a0c a0dn a0da a0db) (Ts 6 (((P_sd_fair 1 (fun _ => a1a) (fun _ => a1b)) ∧ Ts 2 (cond (F_sd_fair_0 1 (fun _ => a1a) (fun _ => a1b)) (Ts 2 (((P_sd_disc_has (F_sd_figureOf_1_0 a0a a0ba a0bb a0c a0dn a0da a0db) (F_sd_figureOf_1_1 a0a a0ba a0bb a0c a0dn a0da a0db) (F_sd_figureOf_1_2 a0a a0ba a0bb a0c a0dn a0da a0db) a1a a1b) ∧ Ts 2 (K0 (F_sd_disc_has_0 (F_sd_figureOf_1_0 a0a a0ba a0bb a0c a0dn a0da a0db) (F_sd_figureOf_1_1 a0a a0ba a0bb a0c a0dn a0da a0db) (F_sd_figureOf_1_2 a0a a0ba a0bb a0c a0dn a0da a0db) a1a a1b))))) (Ts 2 (K0 false)))))) (Ts 6 (((P_sd_fair 1 (fun _ => a1a) (fun _ => a1b)) ∧ Ts 2 (cond (F_sd_fair_0 1 (fun _ => a1a) (fun _ => a1b)) (Ts 2 (((P_sd_polygon_has (F_sd_figureOf_2_0 a0a a0ba a0bb a0c a0dn a0da a0db) (F_sd_figureOf_2_1 a0a a0ba a0bb a0c a0dn a0da a0db) (F_sd_figureOf_2_2 a0a a0ba a0bb a0c a0dn a0da a0db) a1a a1b) ∧ Ts 2 (K0 (F_sd_polygon_has_0 (F_sd_figureOf_2_0 a0a a0ba a0bb a0c a0dn a0da a0db) (F_sd_figureOf_2_1 a0a a0ba a0bb a0c a0dn a0da a0db) (F_sd_figureOf_2_2 a0a a0ba a0bb a0c a0dn a0da a0db) a1a a1b))))) (Ts 2 (K0 false)))))))))
def P_sd_Holds (a0a : Int) (a0ba : Int) (a0bb : Int) (a0c : Int) (a0dn : Nat) (a0da : Nat → Int) (a0db : Nat → Int) (a1a : Int) (a1b : Int) : Prop := ((P_sd_figureOf a0a a0ba a0bb a0c a0dn a0da a0db) ∧ (cond (C_sd_figureOf_0 a0a a0ba a0bb a0c a0dn a0da a0db) True (cond (C_sd_figureOf_1 a0a a0ba a0bb a0c a0dn a0da a0db) (P_sd_fair 1 (fun _ => a1a) (fun _ => a1b)) ((P_sd_fair 1 (fun _ => a1a) (fun _ => a1b)) ∧ (cond (F_sd_fair_0 1 (fun _ => a1a) (fun _ => a1b)) (P_sd_polygon_has (F_sd_figureOf_2_0 a0a a0ba a0bb a0c a0dn a0da a0db) (F_sd_figureOf_2_1 a0a a0ba a0bb a0c a0dn a0da a0db) (F_sd_figureOf_2_2 a0a a0ba a0bb a0c a0dn a0da a0db) a1a a1b) True)))))
def F_sd_Holds_0 (a0a : Int) (a0ba : Int) (a0bb : Int) (a0c : Int) (a0dn : Nat) (a0da : Nat → Int) (a0db : Nat → Int) (a1a : Int) (a1b : Int) : Bool := (cond (C_sd_figureOf_0 a0a a0ba a0bb a0c a0dn a0da a0db) false (cond (C_sd_figureOf_1 a0a a0ba a0bb a0c a0dn a0da a0db) (cond (F_sd_fair_0 1 (fun _ => a1a) (fun _ => a1b)) (F_sd_disc_has_0 (F_sd_figureOf_1_0 a0a a0ba a0bb a0c a0dn a0da a0db) (F_sd_figureOf_1_1 a0a a0ba a0bb a0c a0dn a0da a0db) (F_sd_figureOf_1_2 a0a a0ba a0bb a0c a0dn a0da a0db) a1a a1b) false) (cond (F_sd_fair_0 1 (fun _ => a1a) (fun _ => a1b)) (F_sd_polygon_has_0 (F_sd_figureOf_2_0 a0a a0ba a0bb a0c a0dn a0da a0db) (F_sd_figureOf_2_1 a0a a0ba a0bb a0c a0dn a0da a0db) (F_sd_figureOf_2_2 a0a a0ba a0bb a0c a0dn a0da a0db) a1a a1b) false)))
theorem H_sd_Holds (a0a : Int) (a0ba : Int) (a0bb : Int) (a0c : Int) (a0dn : Nat) (a0da : Nat → Int) (a0db : Nat → Int) (a1a : Int) (a1b : Int) {K0 : Bool → Prop} (h : P_sd_Holds a0a a0ba a0bb a0c a0dn a0da a0db a1a a1b) (hK : K0 (F_sd_Holds_0 a0a a0ba a0bb a0c a0dn a0da a0db a1a a1b)) : B_sd_Holds a0a a0ba a0bb a0c a0dn a0da a0db a1a a1b K0  := by
  unfold B_sd_Holds P_sd_Holds F_sd_Holds_0 at *
  simp only [Ts_iff, true_and]
  try simp only [Ts_iff, true_and] at h
  repeat' first
    | exact hK
    | (refine cond_intro (fun hc => ?_) (fun hc => ?_) <;> (try simp only [hc, cond_true, cond_false] at h) <;> (try simp only [hc, cond_true, cond_false] at hK) <;> (try simp only [hc, cond_true, cond_false]))
    | (refine ⟨rfl, ?_⟩)
    | (refine ⟨trivial, ?_⟩)
    | (refine ⟨by decide, ?_⟩)
    | (refine ⟨h.1, ?_⟩; replace h := h.2)
    | (refine ⟨h, ?_⟩)
    | (refine ⟨fun _ _ => rfl, ?_⟩)
/-! ### bagatelle/bagatelleref03.valid -/
def B_r3_valid (a0a : Int) (a0b : Int) (K0 : Bool → Prop)  : Prop := Ts 6 (cond (ige a0a (-2097152)) (Ts 5 (cond (ile a0a 2097152) (Ts 5 (cond (ige a0b (-2097152)) (Ts 5 (K0 (ile a0b 2097152))) (Ts 2 (K0 false)))) (Ts 4 (K0 false)))) (Ts 6 (K0 false)))
def P_r3_valid (a0a : Int) (a0b : Int) : Prop := True
def F_r3_valid_0 (a0a : Int) (a0b : Int) : Bool := (cond (ige a0a (-2097152)) (cond (ile a0a 2097152) (cond (ige a0b (-2097152)) (ile a0b 2097152) false) false) false)
theorem H_r3_valid (a0a : Int) (a0b : Int) {K0 : Bool → Prop} (h : P_r3_valid a0a a0b) (hK : K0 (F_r3_valid_0 a0a a0b)) : B_r3_valid a0a a0b K0  := by
  unfold B_r3_valid P_r3_valid F_r3_valid_0 at *
  simp only [Ts_iff, true_and]
  try simp only [Ts_iff, true_and] at h
  repeat' first
    | exact hK
    | (refine cond_intro (fun hc => ?_) (fun hc => ?_) <;> (try simp only [hc, cond_true, cond_false] at h) <;> (try simp only [hc, cond_true, cond_false] at hK) <;> (try simp only [hc, cond_true, cond_false]))
    | (refine ⟨rfl, ?_⟩)
    | (refine ⟨trivial, ?_⟩)
    | (refine ⟨by decide, ?_⟩)
    | (refine ⟨h.1, ?_⟩; replace h := h.2)
    | (refine ⟨h, ?_⟩)
    | (refine ⟨fun _ _ => rfl, ?_⟩)
/-! ### bagatelle/bagatelleref03.CheckBox -/
def B_r3_CheckBox (a0a : Int) (a0b : Int) (a0c : Int) (a0d : Int) (K0 : Int → Prop)  : Prop := Ts 7 (((P_r3_valid a0a a0b) ∧ Ts 2 (cond (!(F_r3_valid_0 a0a a0b)) (Ts 2 (K0 3)) (Ts 5 (((P_r3_valid a0c a0d) ∧ Ts 2 (cond (!(F_r3_valid_0 a0c a0d)) (Ts 1 (K0 3)) (Ts 6 (cond (igt a0a a0c) (Ts 2 (K0 5)) (Ts 6 (cond (igt a0b a0d) (Ts 1 (K0 5)) (Ts 1 (K0 0)))))))))))))
def P_r3_CheckBox (a0a : Int) (a0b : Int) (a0c : Int) (a0d : Int) : Prop := True
def F_r3_CheckBox_0 (a0a : Int) (a0b : Int) (a0c : Int) (a0d : Int) : Int := (cond (!(F_r3_valid_0 a0a a0b)) 3 (cond (!(F_r3_valid_0 a0c a0d)) 3 (cond (igt a0a a0c) 5 (cond (igt a0b a0d) 5 0))))
theorem H_r3_CheckBox (a0a : Int) (a0b : Int) (a0c : Int) (a0d : Int) {K0 : Int → Prop} (h : P_r3_CheckBox a0a a0b a0c a0d) (hK : K0 (F_r3_CheckBox_0 a0a a0b a0c a0d)) : B_r3_CheckBox a0a a0b a0c a0d K0  := by
  unfold B_r3_CheckBox P_r3_CheckBox F_r3_CheckBox_0 at *
  simp only [Ts_iff, true_and]
  try simp only [Ts_iff, true_and] at h
  repeat' first
    | exact hK
    | (refine cond_intro (fun hc => ?_) (fun hc => ?_) <;> (try simp only [hc, cond_true, cond_false] at h) <;> (try simp only [hc, cond_true, cond_false] at hK) <;> (try simp only [hc, cond_true, cond_false]))
    | (refine ⟨rfl, ?_⟩)
    | (refine ⟨trivial, ?_⟩)
    | (refine ⟨by decide, ?_⟩)
    | (refine ⟨h.1, ?_⟩; replace h := h.2)
    | (refine ⟨h, ?_⟩)
    | (refine ⟨fun _ _ => rfl, ?_⟩)
/-! ### bagatelle/bagatelleref03.cross -/
def B_r3_cross (a0a : Int) (a0b : Int) (a1a : Int) (a1b : Int) (K0 : Int → Prop)  : Prop := Ts 15 (K0 (isub .i64 (imul .i64 a0a a1b) (imul .i64 a0b a1a)))
def P_r3_cross (a0a : Int) (a0b : Int) (a1a : Int) (a1b : Int) : Prop := True
def F_r3_cross_0 (a0a : Int) (a0b : Int) (a1a : Int) (a1b : Int) : Int := (isub .i64 (imul .i64 a0a a1b) (imul .i64 a0b a1a))
theorem H_r3_cross (a0a : Int) (a0b : Int) (a1a : Int) (a1b : Int) {K0 : Int → Prop} (h : P_r3_cross a0a a0b a1a a1b) (hK : K0 (F_r3_cross_0 a0a a0b a1a a1b)) : B_r3_cross a0a a0b a1a a1b K0  := by
  unfold B_r3_cross P_r3_cross F_r3_cross_0 at *
  simp only [Ts_iff, true_and]
  try simp only [Ts_iff, true_and] at h
  repeat' first
    | exact hK
    | (refine cond_intro (fun hc => ?_) (fun hc => ?_) <;> (try simp only [hc, cond_true, cond_false] at h) <;> (try simp only [hc, cond_true, cond_false] at hK) <;> (try simp only [hc, cond_true, cond_false]))
    | (refine ⟨rfl, ?_⟩)
    | (refine ⟨trivial, ?_⟩)
    | (refine ⟨by decide, ?_⟩)
    | (refine ⟨h.1, ?_⟩; replace h := h.2)
    | (refine ⟨h, ?_⟩)
    | (refine ⟨fun _ _ => rfl, ?_⟩)
/-! ### bagatelle/bagatelleref03.minus -/
def B_r3_minus (a0a : Int) (a0b : Int) (a1a : Int) (a1b : Int) (K0 : Int → Int → Prop)  : Prop := Ts 16 (K0 (isub .i64 a0a a1a) (isub .i64 a0b a1b))
def P_r3_minus (a0a : Int) (a0b : Int) (a1a : Int) (a1b : Int) : Prop := True
def F_r3_minus_0 (a0a : Int) (a0b : Int) (a1a : Int) (a1b : Int) : Int := (isub .i64 a0a a1a)
def F_r3_minus_1 (a0a : Int) (a0b : Int) (a1a : Int) (a1b : Int) : Int := (isub .i64 a0b a1b)
theorem H_r3_minus (a0a : Int) (a0b : Int) (a1a : Int) (a1b : Int) {K0 : Int → Int → Prop} (h : P_r3_minus a0a a0b a1a a1b) (hK : K0 (F_r3_minus_0 a0a a0b a1a a1b) (F_r3_minus_1 a0a a0b a1a a1b)) : B_r3_minus a0a a0b a1a a1b K0  := by
  unfold B_r3_minus P_r3_minus F_r3_minus_0 F_r3_minus_1 at *
  simp only [Ts_iff, true_and]
  try simp only [Ts_iff, true_and] at h
  repeat' first
    | exact hK
    | (refine cond_intro (fun hc => ?_) (fun hc => ?_) <;> (try simp only [hc, cond_true, cond_false] at h) <;> (try simp only [hc, cond_true, cond_false] at hK) <;> (try simp only [hc, cond_true, cond_false]))
    | (refine ⟨rfl, ?_⟩)
    | (refine ⟨trivial, ?_⟩)
    | (refine ⟨by decide, ?_⟩)
    | (refine ⟨h.1, ?_⟩; replace h := h.2)
    | (refine ⟨h, ?_⟩)
    | (refine ⟨fun _ _ => rfl, ?_⟩)
/-! ### bagatelle/bagatelleref03.Side -/
def B_r3_Side (a0a : Int) (a0b : Int) (a1a : Int) (a1b : Int) (a2a : Int) (a2b : Int) (K0 : Int → Prop)  : Prop := Ts 5 (((P_r3_valid a0a a0b) ∧ Ts 2 (cond (!(F_r3_valid_0 a0a a0b)) (Ts 4 (K0 0)) (Ts 1 (((P_r3_valid a1a a1b) ∧ Ts 3 (cond (!(F_r3_valid_0 a1a a1b)) (Ts 2 (K0 0)) (Ts 1 (((P_r3_valid a2a a2b) ∧ Ts 2 (cond (!(F_r3_valid_0 a2a a2b)) (Ts 1 (K0 0)) (Ts 2 (((P_r3_minus a1a a1b a0a a0b) ∧ Ts 2 (((P_r3_minus a2a a2b a0a a0b) ∧ ((P_r3_cross (F_r3_minus_0 a1a a1b a0a a0b) (F_r3_minus_1 a1a a1b a0a a0b) (F_r3_minus_0 a2a a2b a0a a0b) (F_r3_minus_1 a2a a2b a0a a0b)) ∧ Ts 1 ((true = true ∧ Ts 2 (cond (igt (F_r3_cross_0 (F_r3_minus_0 a1a a1b a0a a0b) (F_r3_minus_1 a1a a1b a0a a0b) (F_r3_minus_0 a2a a2b a0a a0b) (F_r3_minus_1 a2a a2b a0a a0b)) 0) (Ts 1 (K0 1)) (Ts 2 (cond (ilt (F_r3_cross_0 (F_r3_minus_0 a1a a1b a0a a0b) (F_r3_minus_1 a1a a1b a0a a0b) (F_r3_minus_0 a2a a2b a0a a0b) (F_r3_minus_1 a2a a2b a0a a0b)) 0) (Ts 1 (K0 (-1))) (Ts 1 (K0 0))))))))))))))))))))))))
def P_r3_Side (a0a : Int) (a0b : Int) (a1a : Int) (a1b : Int) (a2a : Int) (a2b : Int) : Prop := True
def F_r3_Side_0 (a0a : Int) (a0b : Int) (a1a : Int) (a1b : Int) (a2a : Int) (a2b : Int) : Int := (cond (!(F_r3_valid_0 a0a a0b)) 0 (cond (!(F_r3_valid_0 a1a a1b)) 0 (cond (!(F_r3_valid_0 a2a a2b)) 0 (cond (igt (F_r3_cross_0 (F_r3_minus_0 a1a a1b a0a a0b) (F_r3_minus_1 a1a a1b a0a a0b) (F_r3_minus_0 a2a a2b a0a a0b) (F_r3_minus_1 a2a a2b a0a a0b)) 0) 1 (cond (ilt (F_r3_cross_0 (F_r3_minus_0 a1a a1b a0a a0b) (F_r3_minus_1 a1a a1b a0a a0b) (F_r3_minus_0 a2a a2b a0a a0b) (F_r3_minus_1 a2a a2b a0a a0b)) 0) (-1) 0)))))
theorem H_r3_Side (a0a : Int) (a0b : Int) (a1a : Int) (a1b : Int) (a2a : Int) (a2b : Int) {K0 : Int → Prop} (h : P_r3_Side a0a a0b a1a a1b a2a a2b) (hK : K0 (F_r3_Side_0 a0a a0b a1a a1b a2a a2b)) : B_r3_Side a0a a0b a1a a1b a2a a2b K0  := by
  unfold B_r3_Side P_r3_Side F_r3_Side_0 at *
  simp only [Ts_iff, true_and]
  try simp only [Ts_iff, true_and] at h
  repeat' first
    | exact hK
    | (refine cond_intro (fun hc => ?_) (fun hc => ?_) <;> (try simp only [hc, cond_true, cond_false] at h) <;> (try simp only [hc, cond_true, cond_false] at hK) <;> (try simp only [hc, cond_true, cond_false]))
    | (refine ⟨rfl, ?_⟩)
    | (refine ⟨trivial, ?_⟩)
    | (refine ⟨by decide, ?_⟩)
    | (refine ⟨h.1, ?_⟩; replace h := h.2)
    | (refine ⟨h, ?_⟩)
    | (refine ⟨fun _ _ => rfl, ?_⟩)
/-! ### bagatelle/bagatelleref03.Convex -/
def B_r3_Convex_0_0 (a0n : Nat) (a0a : Nat → Int) (a0b : Nat → Int) (v0t3 : Int) (v00t5 : Int) (c : Int → Prop) (x0 : Int → Prop) (x1 : Int → Prop)  : Prop := Ts 4 (cond (ilt v00t5 ((a0n : Nat) : Int)) (Ts 2 (((0 ≤ v00t5 ∧ v00t5 < ((a0n : Nat) : Int)) ∧ Ts 1 (((P_r3_valid (a0a (Int.toNat v00t5)) (a0b (Int.toNat v00t5))) ∧ Ts 2 (cond (!(F_r3_valid_0 (a0a (Int.toNat v00t5)) (a0b (Int.toNat v00t5)))) (Ts 1 ((true = true ∧ Ts 1 (x1 v00t5)))) (Ts 4 (cond (ine v00t5 v0t3) (Ts 5 (cond (ine v00t5 (irem .i64 (iadd .i64 v0t3 1) ((a0n : Nat) : Int))) (Ts 2 (((0 ≤ v0t3 ∧ v0t3 < ((a0n : Nat) : Int)) ∧ Ts 3 (((0 ≤ (irem .i64 (iadd .i64 v0t3 1) ((a0n : Nat) : Int)) ∧ (irem .i64 (iadd .i64 v0t3 1) ((a0n : Nat) : Int)) < ((a0n : Nat) : Int)) ∧ Ts 3 (((0 ≤ v00t5 ∧ v00t5 < ((a0n : Nat) : Int)) ∧ Ts 1 (((P_r3_Side (a0a (Int.toNat v0t3)) (a0b (Int.toNat v0t3)) (a0a (Int.toNat (irem .i64 (iadd .i64 v0t3 1) ((a0n : Nat) : Int)))) (a0b (Int.toNat (irem .i64 (iadd .i64 v0t3 1) ((a0n : Nat) : Int)))) (a0a (Int.toNat v00t5)) (a0b (Int.toNat v00t5))) ∧ Ts 3 ((true = true ∧ cond (ile (F_r3_Side_0 (a0a (Int.toNat v0t3)) (a0b (Int.toNat v0t3)) (a0a (Int.toNat (irem .i64 (iadd .i64 v0t3 1) ((a0n : Nat) : Int)))) (a0b (Int.toNat (irem .i64 (iadd .i64 v0t3 1) ((a0n : Nat) : Int)))) (a0a (Int.toNat v00t5)) (a0b (Int.toNat v00t5))) 0) (Ts 1 (x1 v00t5)) (Ts 3 (c (iadd .i64 v00t5 1)))))))))))))) (Ts 2 ((true = true ∧ Ts 3 (c (iadd .i64 v00t5 1))))))) (Ts 4 ((true = true ∧ Ts 3 (c (iadd .i64 v00t5 1))))))))))))) (x0 v00t5))
def W_r3_Convex_0_0 (a0n : Nat) (a0a : Nat → Int) (a0b : Nat → Int) (v0t3 : Int) : Nat → Int → (Int → Prop) → (Int → Prop) → Prop
  | 0, _, _, _ => False
  | f + 1, w0, x0, x1 => B_r3_Convex_0_0 a0n a0a a0b v0t3 w0 (fun u0 => W_r3_Convex_0_0 a0n a0a a0b v0t3 f u0 x0 x1) x0 x1 
theorem BM_r3_Convex_0_0 (a0n : Nat) (a0a : Nat → Int) (a0b : Nat → Int) (v0t3 : Int) (v00t5 : Int) {c c' : Int → Prop} {x0 y0 : Int → Prop} {x1 y1 : Int → Prop} (hc : ∀ w0, c w0 → c' w0) (h0 : ∀ o0, x0 o0 → y0 o0) (h1 : ∀ o0, x1 o0 → y1 o0) : B_r3_Convex_0_0 a0n a0a a0b v0t3 v00t5 c x0 x1  → B_r3_Convex_0_0 a0n a0a a0b v0t3 v00t5 c' y0 y1  := by
  unfold B_r3_Convex_0_0
  repeat' first
    | exact hc _
    | exact h0 _
    | exact h1 _
    | refine Ts_imp ?_
    | refine cond_imp ?_ ?_
    | refine and_imp' ?_
theorem WM_r3_Convex_0_0 (a0n : Nat) (a0a : Nat → Int) (a0b : Nat → Int) (v0t3 : Int) {x0 y0 : Int → Prop} {x1 y1 : Int → Prop} (h0 : ∀ o0, x0 o0 → y0 o0) (h1 : ∀ o0, x1 o0 → y1 o0) : ∀ (f : Nat) (v00t5 : Int), W_r3_Convex_0_0 a0n a0a a0b v0t3 f v00t5 x0 x1 → W_r3_Convex_0_0 a0n a0a a0b v0t3 f v00t5 y0 y1
  | 0, w0 => fun h => h
  | f + 1, w0 => BM_r3_Convex_0_0 a0n a0a a0b v0t3 w0 (fun u0 => WM_r3_Convex_0_0 a0n a0a a0b v0t3 h0 h1 f u0) h0 h1
def B_r3_Convex_0 (a0n : Nat) (a0a : Nat → Int) (a0b : Nat → Int) (v0t3 : Int) (c : Int → Prop) (x0 : Int → Prop) (x1 : Int → Prop) (l0 : Int → (Int → Prop) → (Int → Prop) → Prop) : Prop := Ts 4 (cond (ilt v0t3 ((a0n : Nat) : Int)) (Ts 4 (((((a0n : Nat) : Int) ≠ 0) ∧ Ts 2 ((l0 0 (fun o00t5 => Ts 3 (c (iadd .i64 v0t3 1))) (fun o00t5 => x1 v0t3)))))) (x0 v0t3))
def W_r3_Convex_0 (a0n : Nat) (a0a : Nat → Int) (a0b : Nat → Int) : Nat → Int → (Int → Prop) → (Int → Prop) → Prop
  | 0, _, _, _ => False
  | f + 1, w0, x0, x1 => B_r3_Convex_0 a0n a0a a0b w0 (fun u0 => W_r3_Convex_0 a0n a0a a0b f u0 x0 x1) x0 x1 (W_r3_Convex_0_0 a0n a0a a0b w0 fuel)
theorem BM_r3_Convex_0 (a0n : Nat) (a0a : Nat → Int) (a0b : Nat → Int) (v0t3 : Int) {c c' : Int → Prop} {x0 y0 : Int → Prop} {x1 y1 : Int → Prop} (hc : ∀ w0, c w0 → c' w0) (h0 : ∀ o0, x0 o0 → y0 o0) (h1 : ∀ o0, x1 o0 → y1 o0) : B_r3_Convex_0 a0n a0a a0b v0t3 c x0 x1 (W_r3_Convex_0_0 a0n a0a a0b v0t3 fuel) → B_r3_Convex_0 a0n a0a a0b v0t3 c' y0 y1 (W_r3_Convex_0_0 a0n a0a a0b v0t3 fuel) := by
  unfold B_r3_Convex_0
  repeat' first
    | exact hc _
    | exact h0 _
    | exact h1 _
    | refine Ts_imp ?_
    | refine cond_imp ?_ ?_
    | refine and_imp' ?_
    | refine WM_r3_Convex_0_0 _ _ _ _  (fun _ => ?_) (fun _ => ?_) _ _ 
theorem WM_r3_Convex_0 (a0n : Nat) (a0a : Nat → Int) (a0b : Nat → Int) {x0 y0 : Int → Prop} {x1 y1 : Int → Prop} (h0 : ∀ o0, x0 o0 → y0 o0) (h1 : ∀ o0, x1 o0 → y1 o0) : ∀ (f : Nat) (v0t3 : Int), W_r3_Convex_0 a0n a0a a0b f v0t3 x0 x1 → W_r3_Convex_0 a0n a0a a0b f v0t3 y0 y1
  | 0, w0 => fun h => h
  | f + 1, w0 => BM_r3_Convex_0 a0n a0a a0b w0 (fun u0 => WM_r3_Convex_0 a0n a0a a0b h0 h1 f u0) h0 h1
def B_r3_Convex (a0n : Nat) (a0a : Nat → Int) (a0b : Nat → Int) (K0 : Bool → Prop) (l0 : Int → (Int → Prop) → (Int → Prop) → Prop) : Prop := Ts 4 (cond (ilt ((a0n : Nat) : Int) 3) (Ts 1 (K0 false)) (Ts 1 ((l0 0 (fun o0t3 => Ts 1 (K0 true)) (fun o0t3 => K0 false)))))
theorem valid_eq (a b : Int) : F_r3_valid_0 a b = spotOK a b := by
  rw [Bool.eq_iff_iff, spotOK_iff]
  unfold F_r3_valid_0
  have tt : ∀ {b x y : Bool}, (cond b x y = true) ↔ ((b = true ∧ x = true) ∨ (b = false ∧ y = true)) := fun {b x y} => by cases b <;> simp
  simp only [tt, ige_t, ile_t, ige_f, ile_f, Bool.false_eq_true, and_false, or_false]
  all_goals omega
theorem side_r3 {x0 y0 x1 y1 x2 y2 : Int} (h0 : spotOK x0 y0 = true) (h1 : spotOK x1 y1 = true) (h2 : spotOK x2 y2 = true) : F_r3_Side_0 x0 y0 x1 y1 x2 y2 = (if 0 < (x1 - x0) * (y2 - y0) - (y1 - y0) * (x2 - x0) then 1 else if (x1 - x0) * (y2 - y0) - (y1 - y0) * (x2 - x0) < 0 then -1 else 0) := by
  unfold F_r3_Side_0
  rw [valid_eq, valid_eq, valid_eq, h0, h1, h2]
  have e : F_r3_cross_0 (F_r3_minus_0 x1 y1 x0 y0) (F_r3_minus_1 x1 y1 x0 y0) (F_r3_minus_0 x2 y2 x0 y0) (F_r3_minus_1 x2 y2 x0 y0) = (x1 - x0) * (y2 - y0) - (y1 - y0) * (x2 - x0) := by
    rw [spotOK_iff] at h0 h1 h2
    unfold F_r3_cross_0 F_r3_minus_0 F_r3_minus_1
    rw [isub64 (a := x1) (by omega) (by omega), isub64 (a := y2) (by omega) (by omega), isub64 (a := y1) (by omega) (by omega), isub64 (a := x2) (by omega) (by omega)]
    have m1 := mul_in (p := x1 - x0) (q := y2 - y0) (B := 4194304) (by omega) (by omega) (by omega) (by omega)
    have m2 := mul_in (p := y1 - y0) (q := x2 - x0) (B := 4194304) (by omega) (by omega) (by omega) (by omega)
    rw [imul64 (a := x1 - x0) (by omega) (by omega), imul64 (a := y1 - y0) (by omega) (by omega), isub64 (by omega) (by omega)]
  rw [e]
  simp only [Bool.not_true, cond_false]
  cases hg : igt ((x1 - x0) * (y2 - y0) - (y1 - y0) * (x2 - x0)) 0 with
  | true => rw [igt_t] at hg; rw [if_pos hg]; rfl
  | false =>
    rw [igt_f] at hg
    rw [if_neg (by omega), cond_false]
    cases hl : ilt ((x1 - x0) * (y2 - y0) - (y1 - y0) * (x2 - x0)) 0 with
    | true => rw [ilt_t] at hl; rw [if_pos hl]; rfl
    | false => rw [ilt_f] at hl; rw [if_neg (by omega)]; rfl
theorem side_r3_bad {x0 y0 x1 y1 x2 y2 : Int} (h : ¬ (spotOK x0 y0 = true ∧ spotOK x1 y1 = true ∧ spotOK x2 y2 = true)) : F_r3_Side_0 x0 y0 x1 y1 x2 y2 = 0 := by
  unfold F_r3_Side_0
  rw [valid_eq, valid_eq, valid_eq]
  cases h0 : spotOK x0 y0 with
  | false => rfl
  | true =>
    cases h1 : spotOK x1 y1 with
    | false => rfl
    | true =>
      cases h2 : spotOK x2 y2 with
      | false => rfl
      | true => exact absurd ⟨h0, h1, h2⟩ h
theorem side_pos_iff {x0 y0 x1 y1 x2 y2 : Int} : 0 < F_r3_Side_0 x0 y0 x1 y1 x2 y2 ↔ (spotOK x0 y0 = true ∧ spotOK x1 y1 = true ∧ spotOK x2 y2 = true) ∧ 0 < (x1 - x0) * (y2 - y0) - (y1 - y0) * (x2 - x0) := by
  by_cases h : spotOK x0 y0 = true ∧ spotOK x1 y1 = true ∧ spotOK x2 y2 = true
  · rw [side_r3 h.1 h.2.1 h.2.2]
    constructor
    · intro hh
      refine ⟨h, ?_⟩
      split at hh
      · assumption
      · split at hh <;> omega
    · intro hh; rw [if_pos hh.2]; omega
  · rw [side_r3_bad h]
    exact ⟨fun hh => by omega, fun hh => absurd hh.1 h⟩
def P_r3_Convex (n : Nat) (a : Nat → Int) (b : Nat → Int) : Prop := n ≤ 1000000
def F_r3_Convex_0 (n : Nat) (a : Nat → Int) (b : Nat → Int) : Bool := convF n a b
def ok3 (n : Nat) (a b : Nat → Int) (i j : Nat) : Prop := spotOK (a j) (b j) = true ∧ (j ≠ i → j ≠ nxE n i → 0 < F_r3_Side_0 (a i) (b i) (a (nxE n i)) (b (nxE n i)) (a j) (b j))
theorem ok3_of {n : Nat} {a b : Nat → Int} (h : convP n a b) {i j : Nat} (hi : i < n) (hj : j < n) : ok3 n a b i j :=
  ⟨h.1 j hj, fun h1 h2 => side_pos_iff.2 ⟨⟨h.1 i hi, h.1 _ (nxE_lt hi), h.1 j hj⟩, h.2 i hi j hj h1 h2⟩⟩
theorem convP_of {n : Nat} {a b : Nat → Int} (h : ∀ i j, i < n → j < n → ok3 n a b i j) (hn : 0 < n) : convP n a b :=
  ⟨fun k hk => (h 0 k hn hk).1, fun i hi j hj h1 h2 => (side_pos_iff.1 ((h i j hi hj).2 h1 h2)).2⟩
theorem W_r3_Convex_0_0_ok {n : Nat} {a b : Nat → Int} (hn : n ≤ 1000000) {i : Nat} (hi : i < n) {x0 x1 : Int → Prop} : ∀ (f j : Nat), j ≤ n → n < f + j → ((∀ j', j ≤ j' → j' < n → ok3 n a b i j') → ∀ v, x0 v) → (∀ j', j' < n → ¬ ok3 n a b i j' → ∀ v, x1 v) → W_r3_Convex_0_0 n a b i f j x0 x1
  | 0, j, h1, h2, _, _ => by omega
  | f + 1, j, h1, h2, h3, h4 => by
    show B_r3_Convex_0_0 n a b i j _ _ _
    unfold B_r3_Convex_0_0
    simp only [Ts_iff, true_and, Int.toNat_natCast, Nat.zero_add]
    rw [nx_rem hi hn, Int.toNat_natCast, valid_eq]
    refine cond_intro (fun hc => ?_) (fun hc => ?_)
    · rw [ilt_t] at hc
      have hj : j < n := by omega
      have hnx := nxE_lt hi
      have next : ok3 n a b i j → W_r3_Convex_0_0 n a b i f (iadd .i64 (j : Int) 1) x0 x1 := fun hh => by
        rw [iadd64 (by omega) (by omega)]
        refine W_r3_Convex_0_0_ok hn hi f (j + 1) (by omega) (by omega) (fun h => h3 fun j' hj1 hj2 => ?_) h4
        by_cases hk : j' = j
        · subst hk; exact hh
        · exact h j' (by omega) hj2
      refine ⟨⟨by omega, hc⟩, trivial, cond_intro (fun he => ?_) (fun he => ?_)⟩
      · refine h4 j hj (fun hk => ?_) _
        rw [hk.1] at he
        cases he
      · have hvj : spotOK (a j) (b j) = true := by
          cases hh : spotOK (a j) (b j) with
          | true => rfl
          | false => rw [hh] at he; cases he
        refine cond_intro (fun hf => ?_) (fun hf => ?_)
        · rw [ine_t] at hf
          refine cond_intro (fun hg => ?_) (fun hg => ?_)
          · rw [ine_t] at hg
            refine ⟨⟨by omega, by omega⟩, ⟨by omega, by omega⟩, ⟨by omega, by omega⟩, trivial, cond_intro (fun hs => ?_) (fun hs => ?_)⟩
            · rw [ile_t] at hs
              refine h4 j hj (fun hk => ?_) _
              have := hk.2 (by omega) (by omega)
              omega
            · rw [ile_f] at hs
              exact next ⟨hvj, fun _ _ => hs⟩
          · rw [ine_f] at hg
            exact next ⟨hvj, fun _ h => absurd (by omega) h⟩
        · rw [ine_f] at hf
          exact next ⟨hvj, fun h _ => absurd (by omega) h⟩
    · exact h3 (fun j' hj1 hj2 => by rw [ilt_f] at hc; omega) _
theorem W_r3_Convex_0_ok {n : Nat} {a b : Nat → Int} (hn : n ≤ 1000000) {x0 x1 : Int → Prop} : ∀ (f i : Nat), i ≤ n → n < f + i → ((∀ i' j, i ≤ i' → i' < n → j < n → ok3 n a b i' j) → ∀ v, x0 v) → (∀ i' j, i' < n → j < n → ¬ ok3 n a b i' j → ∀ v, x1 v) → W_r3_Convex_0 n a b f i x0 x1
  | 0, i, h1, h2, _, _ => by omega
  | f + 1, i, h1, h2, h3, h4 => by
    show B_r3_Convex_0 n a b i _ _ _ _
    unfold B_r3_Convex_0
    simp only [Ts_iff]
    refine cond_intro (fun hc => ?_) (fun hc => ?_)
    · rw [ilt_t] at hc
      have hi : i < n := by omega
      refine ⟨by omega, ?_⟩
      refine W_r3_Convex_0_0_ok hn hi fuel 0 (Nat.zero_le _) (by rw [fuel_eq]; omega) (fun hh v => ?_) (fun j hj hr v => h4 i j hi hj hr _)
      rw [iadd64 (by omega) (by omega)]
      refine W_r3_Convex_0_ok hn f (i + 1) (by omega) (by omega) (fun h => h3 fun i' j hi1 hi2 hj => ?_) h4
      by_cases hik : i' = i
      · subst hik; exact hh j (Nat.zero_le _) hj
      · exact h i' j (by omega) hi2 hj
    · exact h3 (fun i' j hi1 hi2 => by rw [ilt_f] at hc; omega) _
theorem H_r3_Convex (a0n : Nat) (a0a : Nat → Int) (a0b : Nat → Int) {K0 : Bool → Prop} (h : P_r3_Convex a0n a0a a0b) (hK : K0 (F_r3_Convex_0 a0n a0a a0b)) : B_r3_Convex a0n a0a a0b K0 (W_r3_Convex_0 a0n a0a a0b fuel) := by
  have no : ¬ (3 ≤ a0n ∧ convP a0n a0a a0b) → K0 false := fun hh => by
    unfold F_r3_Convex_0 at hK
    rw [convF_false hh] at hK
    exact hK
  have hn : a0n ≤ 1000000 := h
  unfold B_r3_Convex
  simp only [Ts_iff]
  refine cond_intro (fun hc => ?_) (fun hc => ?_)
  · rw [ilt_t] at hc
    exact no (fun hh => by omega)
  · rw [ilt_f] at hc
    refine W_r3_Convex_0_ok hn fuel 0 (Nat.zero_le _) (by rw [fuel_eq]; omega) (fun hh v => ?_) (fun i j hi hj hr v => no (fun hh => hr (ok3_of hh.2 hi hj)))
    unfold F_r3_Convex_0 at hK
    rw [convF_iff.2 ⟨by omega, convP_of (fun i j hi hj => hh i j (Nat.zero_le _) hi hj) (by omega)⟩] at hK
    exact hK
/-! ### bagatelle/bagatelleref03.around -/
def B_r3_around (a0a : Int) (a0b : Int) (a1 : Int) (K0 : Int → Int → Int → Int → Prop)  : Prop := Ts 21 (K0 (isub .i64 a0a a1) (isub .i64 a0b a1) (iadd .i64 a0a a1) (iadd .i64 a0b a1))
def P_r3_around (a0a : Int) (a0b : Int) (a1 : Int) : Prop := True
def F_r3_around_0 (a0a : Int) (a0b : Int) (a1 : Int) : Int := (isub .i64 a0a a1)
def F_r3_around_1 (a0a : Int) (a0b : Int) (a1 : Int) : Int := (isub .i64 a0b a1)
def F_r3_around_2 (a0a : Int) (a0b : Int) (a1 : Int) : Int := (iadd .i64 a0a a1)
def F_r3_around_3 (a0a : Int) (a0b : Int) (a1 : Int) : Int := (iadd .i64 a0b a1)
theorem H_r3_around (a0a : Int) (a0b : Int) (a1 : Int) {K0 : Int → Int → Int → Int → Prop} (h : P_r3_around a0a a0b a1) (hK : K0 (F_r3_around_0 a0a a0b a1) (F_r3_around_1 a0a a0b a1) (F_r3_around_2 a0a a0b a1) (F_r3_around_3 a0a a0b a1)) : B_r3_around a0a a0b a1 K0  := by
  unfold B_r3_around P_r3_around F_r3_around_0 F_r3_around_1 F_r3_around_2 F_r3_around_3 at *
  simp only [Ts_iff, true_and]
  try simp only [Ts_iff, true_and] at h
  repeat' first
    | exact hK
    | (refine cond_intro (fun hc => ?_) (fun hc => ?_) <;> (try simp only [hc, cond_true, cond_false] at h) <;> (try simp only [hc, cond_true, cond_false] at hK) <;> (try simp only [hc, cond_true, cond_false]))
    | (refine ⟨rfl, ?_⟩)
    | (refine ⟨trivial, ?_⟩)
    | (refine ⟨by decide, ?_⟩)
    | (refine ⟨h.1, ?_⟩; replace h := h.2)
    | (refine ⟨h, ?_⟩)
    | (refine ⟨fun _ _ => rfl, ?_⟩)
/-! ### bagatelle/bagatelleref03.Check -/
def B_r3_Check_0 (a0a : Int) (a0ba : Int) (a0bb : Int) (a0c : Int) (a0dn : Nat) (a0da : Nat → Int) (a0db : Nat → Int) (v0t3 : Int) (c : Int → Prop) (x0 : Int → Prop) (x1 : Int → Int → Prop)  : Prop := Ts 5 (cond (ilt v0t3 ((a0dn : Nat) : Int)) (Ts 3 (((0 ≤ v0t3 ∧ v0t3 < ((a0dn : Nat) : Int)) ∧ Ts 1 (((P_r3_valid (a0da (Int.toNat v0t3)) (a0db (Int.toNat v0t3))) ∧ Ts 1 (cond (!(F_r3_valid_0 (a0da (Int.toNat v0t3)) (a0db (Int.toNat v0t3)))) (Ts 1 (x1 3 v0t3)) (Ts 3 (c (iadd .i64 v0t3 1))))))))) (x0 v0t3))
def W_r3_Check_0 (a0a : Int) (a0ba : Int) (a0bb : Int) (a0c : Int) (a0dn : Nat) (a0da : Nat → Int) (a0db : Nat → Int) : Nat → Int → (Int → Prop) → (Int → Int → Prop) → Prop
  | 0, _, _, _ => False
  | f + 1, w0, x0, x1 => B_r3_Check_0 a0a a0ba a0bb a0c a0dn a0da a0db w0 (fun u0 => W_r3_Check_0 a0a a0ba a0bb a0c a0dn a0da a0db f u0 x0 x1) x0 x1 
theorem BM_r3_Check_0 (a0a : Int) (a0ba : Int) (a0bb : Int) (a0c : Int) (a0dn : Nat) (a0da : Nat → Int) (a0db : Nat → Int) (v0t3 : Int) {c c' : Int → Prop} {x0 y0 : Int → Prop} {x1 y1 : Int → Int → Prop} (hc : ∀ w0, c w0 → c' w0) (h0 : ∀ o0, x0 o0 → y0 o0) (h1 : ∀ o0 o1, x1 o0 o1 → y1 o0 o1) : B_r3_Check_0 a0a a0ba a0bb a0c a0dn a0da a0db v0t3 c x0 x1  → B_r3_Check_0 a0a a0ba a0bb a0c a0dn a0da a0db v0t3 c' y0 y1  := by
  unfold B_r3_Check_0
  repeat' first
    | exact hc _
    | exact h0 _
    | exact h1 _ _
    | refine Ts_imp ?_
    | refine cond_imp ?_ ?_
    | refine and_imp' ?_
theorem WM_r3_Check_0 (a0a : Int) (a0ba : Int) (a0bb : Int) (a0c : Int) (a0dn : Nat) (a0da : Nat → Int) (a0db : Nat → Int) {x0 y0 : Int → Prop} {x1 y1 : Int → Int → Prop} (h0 : ∀ o0, x0 o0 → y0 o0) (h1 : ∀ o0 o1, x1 o0 o1 → y1 o0 o1) : ∀ (f : Nat) (v0t3 : Int), W_r3_Check_0 a0a a0ba a0bb a0c a0dn a0da a0db f v0t3 x0 x1 → W_r3_Check_0 a0a a0ba a0bb a0c a0dn a0da a0db f v0t3 y0 y1
  | 0, w0 => fun h => h
  | f + 1, w0 => BM_r3_Check_0 a0a a0ba a0bb a0c a0dn a0da a0db w0 (fun u0 => WM_r3_Check_0 a0a a0ba a0bb a0c a0dn a0da a0db h0 h1 f u0) h0 h1
def B_r3_Check (a0a : Int) (a0ba : Int) (a0bb : Int) (a0c : Int) (a0dn : Nat) (a0da : Nat → Int) (a0db : Nat → Int) (K0 : Int → Prop) (l0 : Int → (Int → Prop) → (Int → Int → Prop) → Prop) : Prop := Ts 6 (cond (ine a0a 1) (Ts 4 (cond (ine a0a 2) (Ts 1 (K0 8)) (Ts 2 (((P_r3_valid a0ba a0bb) ∧ Ts 1 (cond (!(F_r3_valid_0 a0ba a0bb)) (Ts 1 (K0 3)) (Ts 1 ((l0 0 (fun o0t3 => Ts 3 (cond (ieq a0a 1) (Ts 4 (cond (ige a0c 1) (Ts 4 (cond (igt a0c 2097152) (Ts 3 (K0 3)) (Ts 4 (((P_r3_around a0ba a0bb a0c) ∧ ((P_r3_CheckBox (F_r3_around_0 a0ba a0bb a0c) (F_r3_around_1 a0ba a0bb a0c) (F_r3_around_2 a0ba a0bb a0c) (F_r3_around_3 a0ba a0bb a0c)) ∧ Ts 3 (cond (ine (F_r3_CheckBox_0 (F_r3_around_0 a0ba a0bb a0c) (F_r3_around_1 a0ba a0bb a0c) (F_r3_around_2 a0ba a0bb a0c) (F_r3_around_3 a0ba a0bb a0c)) 0) (Ts 1 (K0 3)) (Ts 4 (cond (ilt a0c 1) (Ts 2 (K0 5)) (Ts 5 (cond (igt ((a0dn : Nat) : Int) 0) (Ts 1 (K0 5)) (Ts 1 (K0 0))))))))))))) (Ts 5 (cond (ilt a0c 1) (Ts 2 (K0 5)) (Ts 5 (cond (igt ((a0dn : Nat) : Int) 0) (Ts 1 (K0 5)) (Ts 1 (K0 0)))))))) (Ts 4 (cond (ine a0c 0) (Ts 6 (K0 5)) (Ts 6 (cond (ilt ((a0dn : Nat) : Int) 3) (Ts 4 (K0 5)) (Ts 6 (cond (igt ((a0dn : Nat) : Int) 8) (Ts 2 (K0 5)) (Ts 2 (((P_r3_Convex a0dn a0da a0db) ∧ Ts 2 (cond (!(F_r3_Convex_0 a0dn a0da a0db)) (Ts 1 (K0 5)) (Ts 1 (K0 0)))))))))))))) (fun o0t2 o0t3 => K0 o0t2)))))))))) (Ts 3 (((P_r3_valid a0ba a0bb) ∧ Ts 1 (cond (!(F_r3_valid_0 a0ba a0bb)) (Ts 1 (K0 3)) (Ts 1 ((l0 0 (fun o0t3 => Ts 3 (cond (ieq a0a 1) (Ts 4 (cond (ige a0c 1) (Ts 4 (cond (igt a0c 2097152) (Ts 3 (K0 3)) (Ts 4 (((P_r3_around a0ba a0bb a0c) ∧ ((P_r3_CheckBox (F_r3_around_0 a0ba a0bb a0c) (F_r3_around_1 a0ba a0bb a0c) (F_r3_around_2 a0ba a0bb a0c) (F_r3_around_3 a0ba a0bb a0c)) ∧ Ts 3 (cond (ine (F_r3_CheckBox_0 (F_r3_around_0 a0ba a0bb a0c) (F_r3_around_1 a0ba a0bb a0c) (F_r3_around_2 a0ba a0bb a0c) (F_r3_around_3 a0ba a0bb a0c)) 0) (Ts 1 (K0 3)) (Ts 4 (cond (ilt a0c 1) (Ts 2 (K0 5)) (Ts 5 (cond (igt ((a0dn : Nat) : Int) 0) (Ts 1 (K0 5)) (Ts 1 (K0 0))))))))))))) (Ts 5 (cond (ilt a0c 1) (Ts 2 (K0 5)) (Ts 5 (cond (igt ((a0dn : Nat) : Int) 0) (Ts 1 (K0 5)) (Ts 1 (K0 0)))))))) (Ts 4 (cond (ine a0c 0) (Ts 6 (K0 5)) (Ts 6 (cond (ilt ((a0dn : Nat) : Int) 3) (Ts 4 (K0 5)) (Ts 6 (cond (igt ((a0dn : Nat) : Int) 8) (Ts 2 (K0 5)) (Ts 2 (((P_r3_Convex a0dn a0da a0db) ∧ Ts 2 (cond (!(F_r3_Convex_0 a0dn a0da a0db)) (Ts 1 (K0 5)) (Ts 1 (K0 0)))))))))))))) (fun o0t2 o0t3 => K0 o0t2)))))))))
def P_r3_Check (k : Int) (ba : Int) (bb : Int) (c : Int) (n : Nat) (da : Nat → Int) (db : Nat → Int) : Prop := n ≤ 1000000
def F_r3_Check_0 (k : Int) (ba : Int) (bb : Int) (c : Int) (n : Nat) (da : Nat → Int) (db : Nat → Int) : Int := cond (!(ieq k 1) && ine k 2) 8 (cond (!(F_r3_valid_0 ba bb)) 3 (cond (!(spotsOK n da db)) 3 (cond (ieq k 1) (cond (ige c 1 && (igt c 2097152 || ine (F_r3_CheckBox_0 (F_r3_around_0 ba bb c) (F_r3_around_1 ba bb c) (F_r3_around_2 ba bb c) (F_r3_around_3 ba bb c)) 0)) 3 (cond (ilt c 1) 5 (cond (igt (n : Int) 0) 5 0))) (cond (ine c 0) 5 (cond (ilt (n : Int) 3) 5 (cond (igt (n : Int) 8) 5 (cond (!(F_r3_Convex_0 n da db)) 5 0)))))))
theorem W_r3_Check_ok {k ba bb c : Int} {n : Nat} {da db : Nat → Int} (hn : n ≤ 1000000) {x0 : Int → Prop} {x1 : Int → Int → Prop} : ∀ (f i : Nat), i ≤ n → n < f + i → ((∀ j, i ≤ j → j < n → spotOK (da j) (db j) = true) → ∀ v, x0 v) → (∀ j, j < n → spotOK (da j) (db j) = false → ∀ v, x1 3 v) → W_r3_Check_0 k ba bb c n da db f i x0 x1
  | 0, i, h1, h2, _, _ => by omega
  | f + 1, i, h1, h2, h3, h4 => by
    show B_r3_Check_0 k ba bb c n da db i _ _ _
    unfold B_r3_Check_0
    simp only [Ts_iff, true_and, Int.toNat_natCast, Nat.zero_add]
    rw [valid_eq]
    refine cond_intro (fun hc => ?_) (fun hc => ?_)
    · rw [ilt_t] at hc
      refine ⟨⟨by omega, hc⟩, trivial, cond_intro (fun he => ?_) (fun he => ?_)⟩
      · exact h4 i (by omega) (by simpa using he) _
      · rw [iadd64 (by omega) (by omega)]
        refine W_r3_Check_ok hn f (i + 1) (by omega) (by omega) (fun h => h3 fun j hj1 hj2 => ?_) h4
        by_cases hk : j = i
        · subst hk; simpa using he
        · exact h j (by omega) hj2
    · rw [ilt_f] at hc
      exact h3 (fun j hj1 hj2 => by omega) _
theorem H_r3_Check (k : Int) (ba : Int) (bb : Int) (c : Int) (n : Nat) (da : Nat → Int) (db : Nat → Int) {K0 : Int → Prop} (h : P_r3_Check k ba bb c n da db) (hK : K0 (F_r3_Check_0 k ba bb c n da db)) : B_r3_Check k ba bb c n da db K0 (W_r3_Check_0 k ba bb c n da db fuel) := by
  have hn : n ≤ 1000000 := h
  have pf1 : P_r3_Convex n da db := hn
  have pf2 := pf1
  have pf3 := pf1
  have pf4 := pf1
  unfold F_r3_Check_0 at hK
  unfold B_r3_Check
  simp only [Ts_iff, true_and]
  have main : (ine k 1 && ine k 2) = false → F_r3_valid_0 ba bb = true → (spotsOK n da db = true → K0 (cond (ieq k 1) (cond (ige c 1 && (igt c 2097152 || ine (F_r3_CheckBox_0 (F_r3_around_0 ba bb c) (F_r3_around_1 ba bb c) (F_r3_around_2 ba bb c) (F_r3_around_3 ba bb c)) 0)) 3 (cond (ilt c 1) 5 (cond (igt (n : Int) 0) 5 0))) (cond (ine c 0) 5 (cond (ilt (n : Int) 3) 5 (cond (igt (n : Int) 8) 5 (cond (!(F_r3_Convex_0 n da db)) 5 0)))))) ∧ (spotsOK n da db = false → K0 3) := by
    intro g1 g2
    have e : (!(ieq k 1) && ine k 2) = false := by rw [← g1]; congr 1; rw [ieq_eq, ine_eq]; rfl
    rw [e, g2] at hK
    exact ⟨fun g3 => by rw [g3] at hK; exact hK, fun g3 => by rw [g3] at hK; exact hK⟩
  have loop : (ine k 1 && ine k 2) = false → F_r3_valid_0 ba bb = true → ∀ {x0 : Int → Prop}, (K0 (cond (ieq k 1) (cond (ige c 1 && (igt c 2097152 || ine (F_r3_CheckBox_0 (F_r3_around_0 ba bb c) (F_r3_around_1 ba bb c) (F_r3_around_2 ba bb c) (F_r3_around_3 ba bb c)) 0)) 3 (cond (ilt c 1) 5 (cond (igt (n : Int) 0) 5 0))) (cond (ine c 0) 5 (cond (ilt (n : Int) 3) 5 (cond (igt (n : Int) 8) 5 (cond (!(F_r3_Convex_0 n da db)) 5 0))))) → ∀ v, x0 v) → W_r3_Check_0 k ba bb c n da db fuel 0 x0 (fun o0t2 o0t3 => K0 o0t2) := by
    intro g1 g2 x0 hx
    obtain ⟨m1, m2⟩ := main g1 g2
    refine W_r3_Check_ok hn fuel 0 (Nat.zero_le _) (by rw [fuel_eq]; omega) (fun hh => hx (m1 (spotsOK_iff.2 fun j hj => hh j (Nat.zero_le _) hj))) (fun j hj hb v => m2 ?_)
    cases hs : spotsOK n da db with
    | false => rfl
    | true => rw [spotsOK_iff.1 hs j hj] at hb; cases hb
  clear main
  refine cond_intro (fun h1 => ?_) (fun h1 => ?_)
  · refine cond_intro (fun h2 => ?_) (fun h2 => ?_)
    · have e : (!(ieq k 1) && ine k 2) = true := by
        rw [h2, Bool.and_true, Bool.not_eq_true']
        rw [ine_t] at h1
        exact ieq_f.2 h1
      rw [e] at hK
      exact hK
    · refine ⟨trivial, cond_intro (fun h3 => ?_) (fun h3 => ?_)⟩
      · have e : (!(ieq k 1) && ine k 2) = false := by rw [h2, Bool.and_false]
        rw [e, h3] at hK
        exact hK
      · refine loop (by rw [h2, Bool.and_false]) (by simpa using h3) (fun hK v => ?_)
        clear loop
        repeat' first
          | exact hK
          | (refine cond_intro (fun hc => ?_) (fun hc => ?_) <;> (try simp only [Bool.not_eq_true', Bool.not_eq_false'] at hc) <;> (try simp only [hc, cond_true, cond_false, Bool.not_true, Bool.not_false, Bool.true_and, Bool.and_true, Bool.false_and, Bool.and_false, Bool.true_or, Bool.or_true, Bool.false_or, Bool.or_false] at hK) <;> (try simp only [hc, cond_true, cond_false, Bool.not_true, Bool.not_false]))
          | (refine ⟨pf1, ?_⟩)
          | (refine ⟨pf2, ?_⟩)
          | (refine ⟨pf3, ?_⟩)
          | (refine ⟨pf4, ?_⟩)
          | (refine ⟨trivial, ?_⟩)
          | (refine ⟨rfl, ?_⟩)
  · refine ⟨trivial, cond_intro (fun h3 => ?_) (fun h3 => ?_)⟩
    · have e : (!(ieq k 1) && ine k 2) = false := by
        rw [ine_f] at h1
        rw [ieq_t.2 h1]
        rfl
      rw [e, h3] at hK
      exact hK
    · refine loop (by rw [h1, Bool.false_and]) (by simpa using h3) (fun hK v => ?_)
      clear loop
      repeat' first
        | exact hK
        | (refine cond_intro (fun hc => ?_) (fun hc => ?_) <;> (try simp only [Bool.not_eq_true', Bool.not_eq_false'] at hc) <;> (try simp only [hc, cond_true, cond_false, Bool.not_true, Bool.not_false, Bool.true_and, Bool.and_true, Bool.false_and, Bool.and_false, Bool.true_or, Bool.or_true, Bool.false_or, Bool.or_false] at hK) <;> (try simp only [hc, cond_true, cond_false, Bool.not_true, Bool.not_false]))
        | (refine ⟨pf1, ?_⟩)
        | (refine ⟨pf2, ?_⟩)
        | (refine ⟨pf3, ?_⟩)
        | (refine ⟨pf4, ?_⟩)
        | (refine ⟨trivial, ?_⟩)
        | (refine ⟨rfl, ?_⟩)
/-! ### bagatelle/bagatelleref03.dot -/
def B_r3_dot (a0a : Int) (a0b : Int) (a1a : Int) (a1b : Int) (K0 : Int → Prop)  : Prop := Ts 15 (K0 (iadd .i64 (imul .i64 a0a a1a) (imul .i64 a0b a1b)))
def P_r3_dot (a0a : Int) (a0b : Int) (a1a : Int) (a1b : Int) : Prop := True
def F_r3_dot_0 (a0a : Int) (a0b : Int) (a1a : Int) (a1b : Int) : Int := (iadd .i64 (imul .i64 a0a a1a) (imul .i64 a0b a1b))
theorem H_r3_dot (a0a : Int) (a0b : Int) (a1a : Int) (a1b : Int) {K0 : Int → Prop} (h : P_r3_dot a0a a0b a1a a1b) (hK : K0 (F_r3_dot_0 a0a a0b a1a a1b)) : B_r3_dot a0a a0b a1a a1b K0  := by
  unfold B_r3_dot P_r3_dot F_r3_dot_0 at *
  simp only [Ts_iff, true_and]
  try simp only [Ts_iff, true_and] at h
  repeat' first
    | exact hK
    | (refine cond_intro (fun hc => ?_) (fun hc => ?_) <;> (try simp only [hc, cond_true, cond_false] at h) <;> (try simp only [hc, cond_true, cond_false] at hK) <;> (try simp only [hc, cond_true, cond_false]))
    | (refine ⟨rfl, ?_⟩)
    | (refine ⟨trivial, ?_⟩)
    | (refine ⟨by decide, ?_⟩)
    | (refine ⟨h.1, ?_⟩; replace h := h.2)
    | (refine ⟨h, ?_⟩)
    | (refine ⟨fun _ _ => rfl, ?_⟩)
/-! ### bagatelle/bagatelleref03.holds -/
def B_r3_holds_0 (a0a : Int) (a0ba : Int) (a0bb : Int) (a0c : Int) (a0dn : Nat) (a0da : Nat → Int) (a0db : Nat → Int) (a1a : Int) (a1b : Int) (v0t6 : Int) (c : Int → Prop) (x0 : Int → Prop) (x1 : Int → Prop)  : Prop := Ts 5 (cond (ilt v0t6 ((a0dn : Nat) : Int)) (Ts 3 (((0 ≤ v0t6 ∧ v0t6 < ((a0dn : Nat) : Int)) ∧ Ts 8 (((((a0dn : Nat) : Int) ≠ 0) ∧ ((0 ≤ (irem .i64 (iadd .i64 v0t6 1) ((a0dn : Nat) : Int)) ∧ (irem .i64 (iadd .i64 v0t6 1) ((a0dn : Nat) : Int)) < ((a0dn : Nat) : Int)) ∧ Ts 2 (((P_r3_Side (a0da (Int.toNat v0t6)) (a0db (Int.toNat v0t6)) (a0da (Int.toNat (irem .i64 (iadd .i64 v0t6 1) ((a0dn : Nat) : Int)))) (a0db (Int.toNat (irem .i64 (iadd .i64 v0t6 1) ((a0dn : Nat) : Int)))) a1a a1b) ∧ Ts 1 ((true = true ∧ cond (ilt (F_r3_Side_0 (a0da (Int.toNat v0t6)) (a0db (Int.toNat v0t6)) (a0da (Int.toNat (irem .i64 (iadd .i64 v0t6 1) ((a0dn : Nat) : Int)))) (a0db (Int.toNat (irem .i64 (iadd .i64 v0t6 1) ((a0dn : Nat) : Int)))) a1a a1b) 0) (Ts 1 (x1 v0t6)) (Ts 3 (c (iadd .i64 v0t6 1))))))))))))) (x0 v0t6))
def W_r3_holds_0 (a0a : Int) (a0ba : Int) (a0bb : Int) (a0c : Int) (a0dn : Nat) (a0da : Nat → Int) (a0db : Nat → Int) (a1a : Int) (a1b : Int) : Nat → Int → (Int → Prop) → (Int → Prop) → Prop
  | 0, _, _, _ => False
  | f + 1, w0, x0, x1 => B_r3_holds_0 a0a a0ba a0bb a0c a0dn a0da a0db a1a a1b w0 (fun u0 => W_r3_holds_0 a0a a0ba a0bb a0c a0dn a0da a0db a1a a1b f u0 x0 x1) x0 x1 
theorem BM_r3_holds_0 (a0a : Int) (a0ba : Int) (a0bb : Int) (a0c : Int) (a0dn : Nat) (a0da : Nat → Int) (a0db : Nat → Int) (a1a : Int) (a1b : Int) (v0t6 : Int) {c c' : Int → Prop} {x0 y0 : Int → Prop} {x1 y1 : Int → Prop} (hc : ∀ w0, c w0 → c' w0) (h0 : ∀ o0, x0 o0 → y0 o0) (h1 : ∀ o0, x1 o0 → y1 o0) : B_r3_holds_0 a0a a0ba a0bb a0c a0dn a0da a0db a1a a1b v0t6 c x0 x1  → B_r3_holds_0 a0a a0ba a0bb a0c a0dn a0da a0db a1a a1b v0t6 c' y0 y1  := by
  unfold B_r3_holds_0
  repeat' first
    | exact hc _
    | exact h0 _
    | exact h1 _
    | refine Ts_imp ?_
    | refine cond_imp ?_ ?_
    | refine and_imp' ?_
theorem WM_r3_holds_0 (a0a : Int) (a0ba : Int) (a0bb : Int) (a0c : Int) (a0dn : Nat) (a0da : Nat → Int) (a0db : Nat → Int) (a1a : Int) (a1b : Int) {x0 y0 : Int → Prop} {x1 y1 : Int → Prop} (h0 : ∀ o0, x0 o0 → y0 o0) (h1 : ∀ o0, x1 o0 → y1 o0) : ∀ (f : Nat) (v0t6 : Int), W_r3_holds_0 a0a a0ba a0bb a0c a0dn a0da a0db a1a a1b f v0t6 x0 x1 → W_r3_holds_0 a0a a0ba a0bb a0c a0dn a0da a0db a1a a1b f v0t6 y0 y1
  | 0, w0 => fun h => h
  | f + 1, w0 => BM_r3_holds_0 a0a a0ba a0bb a0c a0dn a0da a0db a1a a1b w0 (fun u0 => WM_r3_holds_0 a0a a0ba a0bb a0c a0dn a0da a0db a1a a1b h0 h1 f u0) h0 h1
def B_r3_holds (a0a : Int) (a0ba : Int) (a0bb : Int) (a0c : Int) (a0dn : Nat) (a0da : Nat → Int) (a0db : Nat → Int) (a1a : Int) (a1b : Int) (K0 : Bool → Prop) (l0 : Int → (Int → Prop) → (Int → Prop) → Prop) : Prop := Ts 6 (cond (ieq a0a 1) (Ts 3 (((P_r3_minus a1a a1b a0ba a0bb) ∧ Ts 4 (((P_r3_dot (F_r3_minus_0 a1a a1b a0ba a0bb) (F_r3_minus_1 a1a a1b a0ba a0bb) (F_r3_minus_0 a1a a1b a0ba a0bb) (F_r3_minus_1 a1a a1b a0ba a0bb)) ∧ Ts 7 ((true = true ∧ K0 (ile (F_r3_dot_0 (F_r3_minus_0 a1a a1b a0ba a0bb) (F_r3_minus_1 a1a a1b a0ba a0bb) (F_r3_minus_0 a1a a1b a0ba a0bb) (F_r3_minus_1 a1a a1b a0ba a0bb)) (imul .i64 a0c a0c))))))))) (Ts 1 ((l0 0 (fun o0t6 => Ts 1 (K0 true)) (fun o0t6 => K0 false)))))
def P_r3_holds (k : Int) (ba : Int) (bb : Int) (c : Int) (n : Nat) (da : Nat → Int) (db : Nat → Int) (px : Int) (py : Int) : Prop := n ≤ 1000000
def has3 (n : Nat) (a : Nat → Int) (b : Nat → Int) (px : Int) (py : Int) (j : Nat) : Bool := !(ilt (F_r3_Side_0 (a j) (b j) (a (nxE n j)) (b (nxE n j)) px py) 0)
def F_r3_holds_0 (k : Int) (ba : Int) (bb : Int) (c : Int) (n : Nat) (da : Nat → Int) (db : Nat → Int) (px : Int) (py : Int) : Bool := cond (ieq k 1) (ile (F_r3_dot_0 (F_r3_minus_0 px py ba bb) (F_r3_minus_1 px py ba bb) (F_r3_minus_0 px py ba bb) (F_r3_minus_1 px py ba bb)) (imul .i64 c c)) ((List.range n).all fun j => has3 n da db px py j)
theorem W_r3_holds_ok {k ba bb c : Int} {n : Nat} {da db : Nat → Int} {px py : Int} (hn : n ≤ 1000000) {x0 x1 : Int → Prop} : ∀ (f i : Nat), i ≤ n → n < f + i → ((∀ j, i ≤ j → j < n → has3 n da db px py j = true) → ∀ v, x0 v) → (∀ j, j < n → has3 n da db px py j = false → ∀ v, x1 v) → W_r3_holds_0 k ba bb c n da db px py f i x0 x1
  | 0, i, h1, h2, _, _ => by omega
  | f + 1, i, h1, h2, h3, h4 => by
    show B_r3_holds_0 k ba bb c n da db px py i _ _ _
    unfold B_r3_holds_0
    simp only [Ts_iff, true_and, Int.toNat_natCast, Nat.zero_add]
    refine cond_intro (fun hc => ?_) (fun hc => ?_)
    · rw [ilt_t] at hc
      have hi : i < n := by omega
      have hnx := nxE_lt hi
      rw [nx_rem hi hn, Int.toNat_natCast]
      refine ⟨⟨by omega, hc⟩, by omega, ⟨by omega, by omega⟩, trivial, cond_intro (fun he => ?_) (fun he => ?_)⟩
      · exact h4 i hi (by unfold has3; rw [he]; rfl) _
      · rw [iadd64 (by omega) (by omega)]
        refine W_r3_holds_ok hn f (i + 1) (by omega) (by omega) (fun h => h3 fun j hj1 hj2 => ?_) h4
        by_cases hk : j = i
        · subst hk; unfold has3; rw [he]; rfl
        · exact h j (by omega) hj2
    · rw [ilt_f] at hc
      exact h3 (fun j hj1 hj2 => by omega) _
theorem H_r3_holds (k : Int) (ba : Int) (bb : Int) (c : Int) (n : Nat) (da : Nat → Int) (db : Nat → Int) (px : Int) (py : Int) {K0 : Bool → Prop} (h : P_r3_holds k ba bb c n da db px py) (hK : K0 (F_r3_holds_0 k ba bb c n da db px py)) : B_r3_holds k ba bb c n da db px py K0 (W_r3_holds_0 k ba bb c n da db px py fuel) := by
  have hn : n ≤ 1000000 := h
  unfold F_r3_holds_0 at hK
  unfold B_r3_holds
  simp only [Ts_iff, true_and]
  refine cond_intro (fun hc => ?_) (fun hc => ?_)
  · rw [hc] at hK
    exact ⟨trivial, trivial, hK⟩
  · rw [hc, cond_false] at hK
    refine W_r3_holds_ok hn fuel 0 (Nat.zero_le _) (by rw [fuel_eq]; omega) (fun hh v => ?_) (fun j hj hb v => ?_)
    · have : ((List.range n).all fun j => has3 n da db px py j) = true := by rw [List.all_eq_true]; exact fun j hj => hh j (Nat.zero_le _) (List.mem_range.1 hj)
      rw [this] at hK
      exact hK
    · have : ((List.range n).all fun j => has3 n da db px py j) = false := by
        cases hf : ((List.range n).all fun j => has3 n da db px py j) with
        | false => rfl
        | true => rw [List.all_eq_true] at hf; rw [hf j (List.mem_range.2 hj)] at hb; cases hb
      rw [this] at hK
      exact hK
/-! ### bagatelle/bagatelleref03.Holds -/
def B_r3_Holds (a0a : Int) (a0ba : Int) (a0bb : Int) (a0c : Int) (a0dn : Nat) (a0da : Nat → Int) (a0db : Nat → Int) (a1a : Int) (a1b : Int) (K0 : Bool → Prop)  : Prop := Ts 4 (((P_r3_Check a0a a0ba a0bb a0c a0dn a0da a0db) ∧ Ts 2 (cond (ieq (F_r3_Check_0 a0a a0ba a0bb a0c a0dn a0da a0db) 0) (Ts 1 (((P_r3_valid a1a a1b) ∧ Ts 2 (cond (F_r3_valid_0 a1a a1b) (Ts 2 (((P_r3_holds a0a a0ba a0bb a0c a0dn a0da a0db a1a a1b) ∧ Ts 2 (K0 (F_r3_holds_0 a0a a0ba a0bb a0c a0dn a0da a0db a1a a1b))))) (Ts 2 (K0 false)))))) (Ts 4 (K0 false)))))
def P_r3_Holds (a0a : Int) (a0ba : Int) (a0bb : Int) (a0c : Int) (a0dn : Nat) (a0da : Nat → Int) (a0db : Nat → Int) (a1a : Int) (a1b : Int) : Prop := ((P_r3_Check a0a a0ba a0bb a0c a0dn a0da a0db) ∧ (cond (ieq (F_r3_Check_0 a0a a0ba a0bb a0c a0dn a0da a0db) 0) (cond (F_r3_valid_0 a1a a1b) (P_r3_holds a0a a0ba a0bb a0c a0dn a0da a0db a1a a1b) True) True))
def F_r3_Holds_0 (a0a : Int) (a0ba : Int) (a0bb : Int) (a0c : Int) (a0dn : Nat) (a0da : Nat → Int) (a0db : Nat → Int) (a1a : Int) (a1b : Int) : Bool := (cond (ieq (F_r3_Check_0 a0a a0ba a0bb a0c a0dn a0da a0db) 0) (cond (F_r3_valid_0 a1a a1b) (F_r3_holds_0 a0a a0ba a0bb a0c a0dn a0da a0db a1a a1b) false) false)
theorem H_r3_Holds (a0a : Int) (a0ba : Int) (a0bb : Int) (a0c : Int) (a0dn : Nat) (a0da : Nat → Int) (a0db : Nat → Int) (a1a : Int) (a1b : Int) {K0 : Bool → Prop} (h : P_r3_Holds a0a a0ba a0bb a0c a0dn a0da a0db a1a a1b) (hK : K0 (F_r3_Holds_0 a0a a0ba a0bb a0c a0dn a0da a0db a1a a1b)) : B_r3_Holds a0a a0ba a0bb a0c a0dn a0da a0db a1a a1b K0  := by
  unfold B_r3_Holds P_r3_Holds F_r3_Holds_0 at *
  simp only [Ts_iff, true_and]
  try simp only [Ts_iff, true_and] at h
  repeat' first
    | exact hK
    | (refine cond_intro (fun hc => ?_) (fun hc => ?_) <;> (try simp only [hc, cond_true, cond_false] at h) <;> (try simp only [hc, cond_true, cond_false] at hK) <;> (try simp only [hc, cond_true, cond_false]))
    | (refine ⟨rfl, ?_⟩)
    | (refine ⟨trivial, ?_⟩)
    | (refine ⟨by decide, ?_⟩)
    | (refine ⟨h.1, ?_⟩; replace h := h.2)
    | (refine ⟨h, ?_⟩)
    | (refine ⟨fun _ _ => rfl, ?_⟩)
/-! ### bagatelle/solid.Join -/
def B_sd_Join_0 (a0n : Nat) (a0a : Nat → Int) (a0b : Nat → Int) (a0c : Nat → Int) (a0d : Nat → Int) (v0t8 : Int) (v0m10 : Int) (v0m11 : Int) (v0m12 : Int) (v0m13 : Int) (c : Int → Int → Int → Int → Int → Prop) (x0 : Int → Int → Int → Int → Int → Prop) (x1 : Int → Int → Int → Int → Int → Prop)  : Prop := Ts 1 (cond (ilt v0t8 ((a0n : Nat) : Int)) (Ts 1 (((0 ≤ v0t8 ∧ v0t8 < ((a0n : Nat) : Int)) ∧ Ts 5 (((P_sd_CheckBox (a0a (Int.toNat v0t8)) (a0b (Int.toNat v0t8)) (a0c (Int.toNat v0t8)) (a0d (Int.toNat v0t8))) ∧ Ts 1 (cond (ine (F_sd_CheckBox_0 (a0a (Int.toNat v0t8)) (a0b (Int.toNat v0t8)) (a0c (Int.toNat v0t8)) (a0d (Int.toNat v0t8))) 0) (Ts 2 (x1 v0t8 v0m10 v0m11 v0m12 v0m13)) (Ts 2 (cond (ieq v0t8 0) (Ts 16 ((true = true ∧ Ts 14 ((true = true ∧ Ts 2 (c (iadd .i64 v0t8 1) (imin (a0a (Int.toNat v0t8)) (a0a (Int.toNat v0t8))) (imin (a0b (Int.toNat v0t8)) (a0b (Int.toNat v0t8))) (imax (a0c (Int.toNat v0t8)) (a0c (Int.toNat v0t8))) (imax (a0d (Int.toNat v0t8)) (a0d (Int.toNat v0t8))))))))) (Ts 14 ((true = true ∧ Ts 14 ((true = true ∧ Ts 2 (c (iadd .i64 v0t8 1) (imin v0m10 (a0a (Int.toNat v0t8))) (imin v0m11 (a0b (Int.toNat v0t8))) (imax v0m12 (a0c (Int.toNat v0t8))) (imax v0m13 (a0d (Int.toNat v0t8))))))))))))))))) (x0 v0t8 v0m10 v0m11 v0m12 v0m13))
def W_sd_Join_0 (a0n : Nat) (a0a : Nat → Int) (a0b : Nat → Int) (a0c : Nat → Int) (a0d : Nat → Int) : Nat → Int → Int → Int → Int → Int → (Int → Int → Int → Int → Int → Prop) → (Int → Int → Int → Int → Int → Prop) → Prop
  | 0, _, _, _, _, _, _, _ => False
  | f + 1, w0, w1, w2, w3, w4, x0, x1 => B_sd_Join_0 a0n a0a a0b a0c a0d w0 w1 w2 w3 w4 (fun u0 u1 u2 u3 u4 => W_sd_Join_0 a0n a0a a0b a0c a0d f u0 u1 u2 u3 u4 x0 x1) x0 x1 
theorem BM_sd_Join_0 (a0n : Nat) (a0a : Nat → Int) (a0b : Nat → Int) (a0c : Nat → Int) (a0d : Nat → Int) (v0t8 : Int) (v0m10 : Int) (v0m11 : Int) (v0m12 : Int) (v0m13 : Int) {c c' : Int → Int → Int → Int → Int → Prop} {x0 y0 : Int → Int → Int → Int → Int → Prop} {x1 y1 : Int → Int → Int → Int → Int → Prop} (hc : ∀ w0 w1 w2 w3 w4, c w0 w1 w2 w3 w4 → c' w0 w1 w2 w3 w4) (h0 : ∀ o0 o1 o2 o3 o4, x0 o0 o1 o2 o3 o4 → y0 o0 o1 o2 o3 o4) (h1 : ∀ o0 o1 o2 o3 o4, x1 o0 o1 o2 o3 o4 → y1 o0 o1 o2 o3 o4) : B_sd_Join_0 a0n a0a a0b a0c a0d v0t8 v0m10 v0m11 v0m12 v0m13 c x0 x1  → B_sd_Join_0 a0n a0a a0b a0c a0d v0t8 v0m10 v0m11 v0m12 v0m13 c' y0 y1  := by
  unfold B_sd_Join_0
  repeat' first
    | exact hc _ _ _ _ _
    | exact h0 _ _ _ _ _
    | exact h1 _ _ _ _ _
    | refine Ts_imp ?_
    | refine cond_imp ?_ ?_
    | refine and_imp' ?_
theorem WM_sd_Join_0 (a0n : Nat) (a0a : Nat → Int) (a0b : Nat → Int) (a0c : Nat → Int) (a0d : Nat → Int) {x0 y0 : Int → Int → Int → Int → Int → Prop} {x1 y1 : Int → Int → Int → Int → Int → Prop} (h0 : ∀ o0 o1 o2 o3 o4, x0 o0 o1 o2 o3 o4 → y0 o0 o1 o2 o3 o4) (h1 : ∀ o0 o1 o2 o3 o4, x1 o0 o1 o2 o3 o4 → y1 o0 o1 o2 o3 o4) : ∀ (f : Nat) (v0t8 : Int) (v0m10 : Int) (v0m11 : Int) (v0m12 : Int) (v0m13 : Int), W_sd_Join_0 a0n a0a a0b a0c a0d f v0t8 v0m10 v0m11 v0m12 v0m13 x0 x1 → W_sd_Join_0 a0n a0a a0b a0c a0d f v0t8 v0m10 v0m11 v0m12 v0m13 y0 y1
  | 0, w0, w1, w2, w3, w4 => fun h => h
  | f + 1, w0, w1, w2, w3, w4 => BM_sd_Join_0 a0n a0a a0b a0c a0d w0 w1 w2 w3 w4 (fun u0 u1 u2 u3 u4 => WM_sd_Join_0 a0n a0a a0b a0c a0d h0 h1 f u0 u1 u2 u3 u4) h0 h1
def B_sd_Join (a0n : Nat) (a0a : Nat → Int) (a0b : Nat → Int) (a0c : Nat → Int) (a0d : Nat → Int) (K0 : Int → Int → Int → Int → Prop) (l0 : Int → Int → Int → Int → Int → (Int → Int → Int → Int → Int → Prop) → (Int → Int → Int → Int → Int → Prop) → Prop) : Prop := Ts 5 ((l0 0 0 0 0 0 (fun o0t8 o0m10 o0m11 o0m12 o0m13 => Ts 3 (K0 o0m10 o0m11 o0m12 o0m13)) (fun o0t8 o0m10 o0m11 o0m12 o0m13 => Ts 1 (K0 0 0 0 0))))
def minF (f : Nat → Int) : Nat → Int
  | 0 => 0
  | k + 1 => if k = 0 then f 0 else min (minF f k) (f k)
def maxF (f : Nat → Int) : Nat → Int
  | 0 => 0
  | k + 1 => if k = 0 then f 0 else max (maxF f k) (f k)
theorem minF_one (f : Nat → Int) : minF f 1 = f 0 := rfl
theorem maxF_one (f : Nat → Int) : maxF f 1 = f 0 := rfl
theorem minF_succ (f : Nat → Int) {k : Nat} (h : k ≠ 0) : minF f (k + 1) = min (minF f k) (f k) := by rw [minF, if_neg h]
theorem maxF_succ (f : Nat → Int) {k : Nat} (h : k ≠ 0) : maxF f (k + 1) = max (maxF f k) (f k) := by rw [maxF, if_neg h]
theorem minF_congr {f g : Nat → Int} : ∀ (n : Nat), (∀ k, k < n → f k = g k) → minF f n = minF g n
  | 0, _ => rfl
  | n + 1, h => by
    have := minF_congr n (fun k hk => h k (by omega))
    rw [minF, minF, this, h n (by omega)]
    split
    · exact h 0 (by omega)
    · rfl
theorem maxF_congr {f g : Nat → Int} : ∀ (n : Nat), (∀ k, k < n → f k = g k) → maxF f n = maxF g n
  | 0, _ => rfl
  | n + 1, h => by
    have := maxF_congr n (fun k hk => h k (by omega))
    rw [maxF, maxF, this, h n (by omega)]
    split
    · exact h 0 (by omega)
    · rfl
def P_sd_Join (n : Nat) (a b c d : Nat → Int) : Prop := n ≤ 1000000 ∧ ∀ k, k < n → P_sd_CheckBox (a k) (b k) (c k) (d k)
theorem W_sd_Join_ok {n : Nat} {a b c d : Nat → Int} (hp : P_sd_Join n a b c d) {x0 x1 : Int → Int → Int → Int → Int → Prop} : ∀ (f i : Nat), i ≤ n → n < f + i → ((∀ k, i ≤ k → k < n → F_sd_CheckBox_0 (a k) (b k) (c k) (d k) = 0) → ∀ v, x0 v (minF a n) (minF b n) (maxF c n) (maxF d n)) →
    (∀ k, k < n → F_sd_CheckBox_0 (a k) (b k) (c k) (d k) ≠ 0 → ∀ v m1 m2 m3 m4, x1 v m1 m2 m3 m4) → W_sd_Join_0 n a b c d f i (minF a i) (minF b i) (maxF c i) (maxF d i) x0 x1
  | 0, i, h1, h2, _, _ => by omega
  | f + 1, i, h1, h2, h3, h4 => by
    show B_sd_Join_0 n a b c d i _ _ _ _ _ _ _
    unfold B_sd_Join_0
    simp only [Ts_iff, true_and, Int.toNat_natCast, Nat.zero_add]
    refine cond_intro (fun hc => ?_) (fun hc => ?_)
    · rw [ilt_t] at hc
      have hi : i < n := by omega
      refine ⟨⟨by omega, hc⟩, hp.2 i hi, ?_⟩
      refine cond_intro (fun he => ?_) (fun he => ?_)
      · rw [ine_t] at he
        exact h4 i hi he _ _ _ _ _
      · rw [ine_f] at he
        have hn := hp.1
        have hrec := W_sd_Join_ok hp f (i + 1) (by omega) (by omega) (fun h => h3 fun k hk1 hk2 => (if hk : k = i then by subst hk; exact he else h k (by omega) hk2)) h4
        refine cond_intro (fun hz => ?_) (fun hz => ?_)
        · rw [ieq_t] at hz
          have : i = 0 := by omega
          subst this
          rw [iadd64 (by omega) (by omega)]
          simp only [imin_m, imax_m, Int.min_self, Int.max_self]
          exact hrec
        · rw [ieq_f] at hz
          have : i ≠ 0 := by omega
          rw [iadd64 (by omega) (by omega)]
          rw [minF_succ a this, minF_succ b this, maxF_succ c this, maxF_succ d this] at hrec
          simp only [imin_m, imax_m]
          exact hrec
    · rw [ilt_f] at hc
      have : i = n := by omega
      subst this
      exact h3 (fun k hk1 hk2 => by omega) _
def ok_sd_Join (n : Nat) (a b c d : Nat → Int) : Bool := (List.range n).all fun k => decide (F_sd_CheckBox_0 (a k) (b k) (c k) (d k) = 0)
theorem ok_sd_Join_iff {n : Nat} {a b c d : Nat → Int} : ok_sd_Join n a b c d = true ↔ ∀ k, k < n → F_sd_CheckBox_0 (a k) (b k) (c k) (d k) = 0 := by
  unfold ok_sd_Join
  rw [List.all_eq_true]
  exact ⟨fun h k hk => by simpa using h k (List.mem_range.2 hk), fun h k hk => by simpa using h k (List.mem_range.1 hk)⟩
def F_sd_Join_0 (n : Nat) (a b c d : Nat → Int) : Int := cond (ok_sd_Join n a b c d) (minF a n) 0
def F_sd_Join_1 (n : Nat) (a b c d : Nat → Int) : Int := cond (ok_sd_Join n a b c d) (minF b n) 0
def F_sd_Join_2 (n : Nat) (a b c d : Nat → Int) : Int := cond (ok_sd_Join n a b c d) (maxF c n) 0
def F_sd_Join_3 (n : Nat) (a b c d : Nat → Int) : Int := cond (ok_sd_Join n a b c d) (maxF d n) 0
theorem H_sd_Join (a0n : Nat) (a0a : Nat → Int) (a0b : Nat → Int) (a0c : Nat → Int) (a0d : Nat → Int) {K0 : Int → Int → Int → Int → Prop} (h : P_sd_Join a0n a0a a0b a0c a0d) (hK : K0 (F_sd_Join_0 a0n a0a a0b a0c a0d) (F_sd_Join_1 a0n a0a a0b a0c a0d) (F_sd_Join_2 a0n a0a a0b a0c a0d) (F_sd_Join_3 a0n a0a a0b a0c a0d)) : B_sd_Join a0n a0a a0b a0c a0d K0 (W_sd_Join_0 a0n a0a a0b a0c a0d fuel) := by
  unfold B_sd_Join
  simp only [Ts_iff, true_and]
  refine W_sd_Join_ok h fuel 0 (Nat.zero_le _) (by rw [fuel_eq]; have := h.1; omega) (fun hh v => ?_) (fun k hk hs v m1 m2 m3 m4 => ?_)
  · have : ok_sd_Join a0n a0a a0b a0c a0d = true := ok_sd_Join_iff.2 fun k hk => hh k (Nat.zero_le _) hk
    unfold F_sd_Join_0 F_sd_Join_1 F_sd_Join_2 F_sd_Join_3 at hK
    rw [this] at hK
    exact hK
  · have : ok_sd_Join a0n a0a a0b a0c a0d = false := by
      cases hf : ok_sd_Join a0n a0a a0b a0c a0d with
      | false => rfl
      | true => exact absurd (ok_sd_Join_iff.1 hf k hk) hs
    unfold F_sd_Join_0 F_sd_Join_1 F_sd_Join_2 F_sd_Join_3 at hK
    rw [this] at hK
    exact hK
/-! ### (bagatelle/solid.polygon).box -/
def B_sd_polygon_box_0 (a0an : Nat) (a0aa : Nat → Int) (a0ab : Nat → Int) (v0t13 : Int) (v0b2c0 : (Nat → Int)) (v0b2c1 : (Nat → Int)) (v0b2c2 : (Nat → Int)) (v0b2c3 : (Nat → Int)) (c : Int → (Nat → Int) → (Nat → Int) → (Nat → Int) → (Nat → Int) → Prop) (x0 : Int → (Nat → Int) → (Nat → Int) → (Nat → Int) → (Nat → Int) → Prop)  : Prop := Ts 1 (cond (ilt v0t13 ((a0an : Nat) : Int)) (Ts 1 (((0 ≤ v0t13 ∧ v0t13 < ((a0an : Nat) : Int)) ∧ Ts 7 (((P_sd_grown (a0aa (Int.toNat v0t13)) (a0ab (Int.toNat v0t13)) 0) ∧ ((0 ≤ v0t13 ∧ v0t13 < (((Int.toNat ((a0an : Nat) : Int)) : Nat) : Int)) ∧ (((Int.toNat v0t13) < (Int.toNat ((a0an : Nat) : Int))) ∧ Ts 2 (c (iadd .i64 v0t13 1) (updF (Int.toNat v0t13) v0b2c0 (F_sd_grown_0 (a0aa (Int.toNat v0t13)) (a0ab (Int.toNat v0t13)) 0)) (updF (Int.toNat v0t13) v0b2c1 (F_sd_grown_1 (a0aa (Int.toNat v0t13)) (a0ab (Int.toNat v0t13)) 0)) (updF (Int.toNat v0t13) v0b2c2 (F_sd_grown_2 (a0aa (Int.toNat v0t13)) (a0ab (Int.toNat v0t13)) 0)) (updF (Int.toNat v0t13) v0b2c3 (F_sd_grown_3 (a0aa (Int.toNat v0t13)) (a0ab (Int.toNat v0t13)) 0)))))))))) (x0 v0t13 v0b2c0 v0b2c1 v0b2c2 v0b2c3))
def W_sd_polygon_box_0 (a0an : Nat) (a0aa : Nat → Int) (a0ab : Nat → Int) : Nat → Int → (Nat → Int) → (Nat → Int) → (Nat → Int) → (Nat → Int) → (Int → (Nat → Int) → (Nat → Int) → (Nat → Int) → (Nat → Int) → Prop) → Prop
  | 0, _, _, _, _, _, _ => False
  | f + 1, w0, w1, w2, w3, w4, x0 => B_sd_polygon_box_0 a0an a0aa a0ab w0 w1 w2 w3 w4 (fun u0 u1 u2 u3 u4 => W_sd_polygon_box_0 a0an a0aa a0ab f u0 u1 u2 u3 u4 x0) x0 
theorem BM_sd_polygon_box_0 (a0an : Nat) (a0aa : Nat → Int) (a0ab : Nat → Int) (v0t13 : Int) (v0b2c0 : (Nat → Int)) (v0b2c1 : (Nat → Int)) (v0b2c2 : (Nat → Int)) (v0b2c3 : (Nat → Int)) {c c' : Int → (Nat → Int) → (Nat → Int) → (Nat → Int) → (Nat → Int) → Prop} {x0 y0 : Int → (Nat → Int) → (Nat → Int) → (Nat → Int) → (Nat → Int) → Prop} (hc : ∀ w0 w1 w2 w3 w4, c w0 w1 w2 w3 w4 → c' w0 w1 w2 w3 w4) (h0 : ∀ o0 o1 o2 o3 o4, x0 o0 o1 o2 o3 o4 → y0 o0 o1 o2 o3 o4) : B_sd_polygon_box_0 a0an a0aa a0ab v0t13 v0b2c0 v0b2c1 v0b2c2 v0b2c3 c x0  → B_sd_polygon_box_0 a0an a0aa a0ab v0t13 v0b2c0 v0b2c1 v0b2c2 v0b2c3 c' y0  := by
  unfold B_sd_polygon_box_0
  repeat' first
    | exact hc _ _ _ _ _
    | exact h0 _ _ _ _ _
    | refine Ts_imp ?_
    | refine cond_imp ?_ ?_
    | refine and_imp' ?_
theorem WM_sd_polygon_box_0 (a0an : Nat) (a0aa : Nat → Int) (a0ab : Nat → Int) {x0 y0 : Int → (Nat → Int) → (Nat → Int) → (Nat → Int) → (Nat → Int) → Prop} (h0 : ∀ o0 o1 o2 o3 o4, x0 o0 o1 o2 o3 o4 → y0 o0 o1 o2 o3 o4) : ∀ (f : Nat) (v0t13 : Int) (v0b2c0 : (Nat → Int)) (v0b2c1 : (Nat → Int)) (v0b2c2 : (Nat → Int)) (v0b2c3 : (Nat → Int)), W_sd_polygon_box_0 a0an a0aa a0ab f v0t13 v0b2c0 v0b2c1 v0b2c2 v0b2c3 x0 → W_sd_polygon_box_0 a0an a0aa a0ab f v0t13 v0b2c0 v0b2c1 v0b2c2 v0b2c3 y0
  | 0, w0, w1, w2, w3, w4 => fun h => h
  | f + 1, w0, w1, w2, w3, w4 => BM_sd_polygon_box_0 a0an a0aa a0ab w0 w1 w2 w3 w4 (fun u0 u1 u2 u3 u4 => WM_sd_polygon_box_0 a0an a0aa a0ab h0 f u0 u1 u2 u3 u4) h0
def B_sd_polygon_box (a0an : Nat) (a0aa : Nat → Int) (a0ab : Nat → Int) (K0 : Int → Int → Int → Int → Prop) (l0 : Int → (Nat → Int) → (Nat → Int) → (Nat → Int) → (Nat → Int) → (Int → (Nat → Int) → (Nat → Int) → (Nat → Int) → (Nat → Int) → Prop) → Prop) : Prop := Ts 5 (((0 ≤ ((a0an : Nat) : Int) ∧ ((a0an : Nat) : Int) = ((a0an : Nat) : Int) ∧ ((a0an : Nat) : Int) ≤ 1000000 ∧ 32 ≤ 1000000) ∧ Ts 5 ((l0 0 (fun _ => 0) (fun _ => 0) (fun _ => 0) (fun _ => 0) (fun o0t13 o0b2c0 o0b2c1 o0b2c2 o0b2c3 => Ts 1 (((P_sd_Join (Int.toNat ((a0an : Nat) : Int)) o0b2c0 o0b2c1 o0b2c2 o0b2c3) ∧ Ts 2 (K0 (F_sd_Join_0 (Int.toNat ((a0an : Nat) : Int)) o0b2c0 o0b2c1 o0b2c2 o0b2c3) (F_sd_Join_1 (Int.toNat ((a0an : Nat) : Int)) o0b2c0 o0b2c1 o0b2c2 o0b2c3) (F_sd_Join_2 (Int.toNat ((a0an : Nat) : Int)) o0b2c0 o0b2c1 o0b2c2 o0b2c3) (F_sd_Join_3 (Int.toNat ((a0an : Nat) : Int)) o0b2c0 o0b2c1 o0b2c2 o0b2c3)))))))))
theorem sdjoin_congr {n : Nat} {a b c d a' b' c' d' : Nat → Int} (h : ∀ k, k < n → a k = a' k ∧ b k = b' k ∧ c k = c' k ∧ d k = d' k) :
    F_sd_Join_0 n a b c d = F_sd_Join_0 n a' b' c' d' ∧ F_sd_Join_1 n a b c d = F_sd_Join_1 n a' b' c' d' ∧ F_sd_Join_2 n a b c d = F_sd_Join_2 n a' b' c' d' ∧ F_sd_Join_3 n a b c d = F_sd_Join_3 n a' b' c' d' := by
  have hok : ok_sd_Join n a b c d = ok_sd_Join n a' b' c' d' := by
    rw [Bool.eq_iff_iff, ok_sd_Join_iff, ok_sd_Join_iff]
    constructor
    · intro g k hk
      obtain ⟨h1, h2, h3, h4⟩ := h k hk
      rw [← h1, ← h2, ← h3, ← h4]
      exact g k hk
    · intro g k hk
      obtain ⟨h1, h2, h3, h4⟩ := h k hk
      rw [h1, h2, h3, h4]
      exact g k hk
  unfold F_sd_Join_0 F_sd_Join_1 F_sd_Join_2 F_sd_Join_3
  rw [hok, minF_congr (f := a) (g := a') n (fun k hk => (h k hk).1), minF_congr (f := b) (g := b') n (fun k hk => (h k hk).2.1), maxF_congr (f := c) (g := c') n (fun k hk => (h k hk).2.2.1), maxF_congr (f := d) (g := d') n (fun k hk => (h k hk).2.2.2)]
  exact ⟨rfl, rfl, rfl, rfl⟩
theorem updF_at (i : Nat) (f : Nat → Int) (x : Int) : updF i f x i = x := by unfold updF; rw [Nat.beq_refl]; rfl
theorem updF_ne {i k : Nat} (f : Nat → Int) (x : Int) (h : k ≠ i) : updF i f x k = f k := by
  unfold updF
  rw [show Nat.beq k i = false by cases hb : Nat.beq k i with | false => rfl | true => exact absurd (Nat.eq_of_beq_eq_true hb) h]
  rfl
def P_sd_polygon_box (n : Nat) (a : Nat → Int) (b : Nat → Int) : Prop := n ≤ 1000000 ∧ ∀ k, k < n → I64 (a k) ∧ I64 (b k)
def F_sd_polygon_box_0 (n : Nat) (a : Nat → Int) (b : Nat → Int) : Int := F_sd_Join_0 n a b a b
def F_sd_polygon_box_1 (n : Nat) (a : Nat → Int) (b : Nat → Int) : Int := F_sd_Join_1 n a b a b
def F_sd_polygon_box_2 (n : Nat) (a : Nat → Int) (b : Nat → Int) : Int := F_sd_Join_2 n a b a b
def F_sd_polygon_box_3 (n : Nat) (a : Nat → Int) (b : Nat → Int) : Int := F_sd_Join_3 n a b a b
theorem W_sd_polygon_box_ok {n : Nat} {a b : Nat → Int} (hp : P_sd_polygon_box n a b) {x0 : Int → (Nat → Int) → (Nat → Int) → (Nat → Int) → (Nat → Int) → Prop} (hx : ∀ v c0 c1 c2 c3, (∀ k, k < n → c0 k = a k ∧ c1 k = b k ∧ c2 k = a k ∧ c3 k = b k) → x0 v c0 c1 c2 c3) : ∀ (f i : Nat) (c0 c1 c2 c3 : Nat → Int), i ≤ n → n < f + i → (∀ k, k < i → c0 k = a k ∧ c1 k = b k ∧ c2 k = a k ∧ c3 k = b k) → W_sd_polygon_box_0 n a b f i c0 c1 c2 c3 x0
  | 0, i, _, _, _, _, h1, h2, _ => by omega
  | f + 1, i, c0, c1, c2, c3, h1, h2, hs => by
    show B_sd_polygon_box_0 n a b i c0 c1 c2 c3 _ _
    unfold B_sd_polygon_box_0
    simp only [Ts_iff, true_and, Int.toNat_natCast, Nat.zero_add]
    refine cond_intro (fun hc => ?_) (fun hc => ?_)
    · rw [ilt_t] at hc
      have hn := hp.1
      obtain ⟨i1, i2⟩ := hp.2 i (by omega)
      unfold I64 at i1 i2
      unfold F_sd_grown_0 F_sd_grown_1 F_sd_grown_2 F_sd_grown_3
      rw [iadd64 (a := (i : Int)) (by omega) (by omega), isub64 (a := a i) (by omega) (by omega), isub64 (a := b i) (by omega) (by omega), iadd64 (a := a i) (by omega) (by omega), iadd64 (a := b i) (by omega) (by omega)]
      refine ⟨⟨by omega, hc⟩, trivial, ⟨by omega, hc⟩, by omega, W_sd_polygon_box_ok hp hx f (i + 1) _ _ _ _ (by omega) (by omega) (fun k hk => ?_)⟩
      by_cases hki : k = i
      · subst hki
        rw [updF_at, updF_at, updF_at, updF_at]
        omega
      · rw [updF_ne _ _ hki, updF_ne _ _ hki, updF_ne _ _ hki, updF_ne _ _ hki]
        exact hs k (by omega)
    · rw [ilt_f] at hc
      have : i = n := by omega
      subst this
      exact hx _ _ _ _ _ hs
theorem H_sd_polygon_box (a0an : Nat) (a0aa : Nat → Int) (a0ab : Nat → Int) {K0 : Int → Int → Int → Int → Prop} (h : P_sd_polygon_box a0an a0aa a0ab) (hK : K0 (F_sd_polygon_box_0 a0an a0aa a0ab) (F_sd_polygon_box_1 a0an a0aa a0ab) (F_sd_polygon_box_2 a0an a0aa a0ab) (F_sd_polygon_box_3 a0an a0aa a0ab)) : B_sd_polygon_box a0an a0aa a0ab K0 (W_sd_polygon_box_0 a0an a0aa a0ab fuel) := by
  have hn := h.1
  unfold B_sd_polygon_box
  simp only [Ts_iff, Int.toNat_natCast]
  refine ⟨⟨by omega, trivial, by omega, by omega⟩, W_sd_polygon_box_ok h (fun v c0 c1 c2 c3 hs => ?_) fuel 0 _ _ _ _ (Nat.zero_le _) (by rw [fuel_eq]; omega) (fun k hk => by omega)⟩
  obtain ⟨e0, e1, e2, e3⟩ := sdjoin_congr hs
  rw [e0, e1, e2, e3]
  refine ⟨⟨hn, fun k hk => ?_⟩, hK⟩
  obtain ⟨s0, s1, s2, s3⟩ := hs k hk
  rw [s0, s1, s2, s3]
  exact ⟨by omega, fun q hq => by
    have : q = 0 ∨ q = 1 := by omega
    rcases this with rfl | rfl
    · exact h.2 k hk
    · exact h.2 k hk⟩
/-! ### (bagatelle/solid.disc).box -/
def B_sd_disc_box (a0aa : Int) (a0ab : Int) (a0b : Int) (K0 : Int → Int → Int → Int → Prop)  : Prop := Ts 6 (((P_sd_grown a0aa a0ab a0b) ∧ Ts 2 (K0 (F_sd_grown_0 a0aa a0ab a0b) (F_sd_grown_1 a0aa a0ab a0b) (F_sd_grown_2 a0aa a0ab a0b) (F_sd_grown_3 a0aa a0ab a0b))))
def P_sd_disc_box (a0aa : Int) (a0ab : Int) (a0b : Int) : Prop := True
def F_sd_disc_box_0 (a0aa : Int) (a0ab : Int) (a0b : Int) : Int := (F_sd_grown_0 a0aa a0ab a0b)
def F_sd_disc_box_1 (a0aa : Int) (a0ab : Int) (a0b : Int) : Int := (F_sd_grown_1 a0aa a0ab a0b)
def F_sd_disc_box_2 (a0aa : Int) (a0ab : Int) (a0b : Int) : Int := (F_sd_grown_2 a0aa a0ab a0b)
def F_sd_disc_box_3 (a0aa : Int) (a0ab : Int) (a0b : Int) : Int := (F_sd_grown_3 a0aa a0ab a0b)
theorem H_sd_disc_box (a0aa : Int) (a0ab : Int) (a0b : Int) {K0 : Int → Int → Int → Int → Prop} (h : P_sd_disc_box a0aa a0ab a0b) (hK : K0 (F_sd_disc_box_0 a0aa a0ab a0b) (F_sd_disc_box_1 a0aa a0ab a0b) (F_sd_disc_box_2 a0aa a0ab a0b) (F_sd_disc_box_3 a0aa a0ab a0b)) : B_sd_disc_box a0aa a0ab a0b K0  := by
  unfold B_sd_disc_box P_sd_disc_box F_sd_disc_box_0 F_sd_disc_box_1 F_sd_disc_box_2 F_sd_disc_box_3 at *
  simp only [Ts_iff, true_and]
  try simp only [Ts_iff, true_and] at h
  repeat' first
    | exact hK
    | (refine cond_intro (fun hc => ?_) (fun hc => ?_) <;> (try simp only [hc, cond_true, cond_false] at h) <;> (try simp only [hc, cond_true, cond_false] at hK) <;> (try simp only [hc, cond_true, cond_false]))
    | (refine ⟨rfl, ?_⟩)
    | (refine ⟨trivial, ?_⟩)
    | (refine ⟨by decide, ?_⟩)
    | (refine ⟨h.1, ?_⟩; replace h := h.2)
    | (refine ⟨h, ?_⟩)
    | (refine ⟨fun _ _ => rfl, ?_⟩)
/-! ### bagatelle/solid.BoxOf -/
def B_sd_BoxOf (a0a : Int) (a0ba : Int) (a0bb : Int) (a0c : Int) (a0dn : Nat) (a0da : Nat → Int) (a0db : Nat → Int) (K0 : Int → Int → Int → Int → Prop)  : Prop := Ts 3 (((P_sd_figureOf a0a a0ba a0bb a0c a0dn a0da a0db) ∧ cond (C_sd_figureOf_0 a0a a0ba a0bb a0c a0dn a0da a0db) (Ts 6 (K0 0 0 0 0)) (cond (C_sd_figureOf_1 a0a a0ba a0bb a0c a0dn a0da a0db) (Ts 4 (((P_sd_disc_box (F_sd_figureOf_1_0 a0a a0ba a0bb a0c a0dn a0da a0db) (F_sd_figureOf_1_1 a0a a0ba a0bb a0c a0dn a0da a0db) (F_sd_figureOf_1_2 a0a a0ba a0bb a0c a0dn a0da a0db)) ∧ Ts 2 (K0 (F_sd_disc_box_0 (F_sd_figureOf_1_0 a0a a0ba a0bb a0c a0dn a0da a0db) (F_sd_figureOf_1_1 a0a a0ba a0bb a0c a0dn a0da a0db) (F_sd_figureOf_1_2 a0a a0ba a0bb a0c a0dn a0da a0db)) (F_sd_disc_box_1 (F_sd_figureOf_1_0 a0a a0ba a0bb a0c a0dn a0da a0db) (F_sd_figureOf_1_1 a0a a0ba a0bb a0c a0dn a0da a0db) (F_sd_figureOf_1_2 a0a a0ba a0bb a0c a0dn a0da a0db)) (F_sd_disc_box_2 (F_sd_figureOf_1_0 a0a a0ba a0bb a0c a0dn a0da a0db) (F_sd_figureOf_1_1 a0a a0ba a0bb a0c a0dn a0da a0db) (F_sd_figureOf_1_2 a0a a0ba a0bb a0c a0dn a0da a0db)) (F_sd_disc_box_3 (F_sd_figureOf_1_0 a0a a0ba a0bb a0c a0dn a0da a0db) (F_sd_figureOf_1_1 a0a a0ba a0bb a0c a0dn a0da a0db) (F_sd_figureOf_1_2 a0a a0ba a0bb a0c a0dn a0da a0db)))))) (Ts 4 (((P_sd_polygon_box (F_sd_figureOf_2_0 a0a a0ba a0bb a0c a0dn a0da a0db) (F_sd_figureOf_2_1 a0a a0ba a0bb a0c a0dn a0da a0db) (F_sd_figureOf_2_2 a0a a0ba a0bb a0c a0dn a0da a0db)) ∧ Ts 2 (K0 (F_sd_polygon_box_0 (F_sd_figureOf_2_0 a0a a0ba a0bb a0c a0dn a0da a0db) (F_sd_figureOf_2_1 a0a a0ba a0bb a0c a0dn a0da a0db) (F_sd_figureOf_2_2 a0a a0ba a0bb a0c a0dn a0da a0db)) (F_sd_polygon_box_1 (F_sd_figureOf_2_0 a0a a0ba a0bb a0c a0dn a0da a0db) (F_sd_figureOf_2_1 a0a a0ba a0bb a0c a0dn a0da a0db) (F_sd_figureOf_2_2 a0a a0ba a0bb a0c a0dn a0da a0db)) (F_sd_polygon_box_2 (F_sd_figureOf_2_0 a0a a0ba a0bb a0c a0dn a0da a0db) (F_sd_figureOf_2_1 a0a a0ba a0bb a0c a0dn a0da a0db) (F_sd_figureOf_2_2 a0a a0ba a0bb a0c a0dn a0da a0db)) (F_sd_polygon_box_3 (F_sd_figureOf_2_0 a0a a0ba a0bb a0c a0dn a0da a0db) (F_sd_figureOf_2_1 a0a a0ba a0bb a0c a0dn a0da a0db) (F_sd_figureOf_2_2 a0a a0ba a0bb a0c a0dn a0da a0db)))))))))
def P_sd_BoxOf (a0a : Int) (a0ba : Int) (a0bb : Int) (a0c : Int) (a0dn : Nat) (a0da : Nat → Int) (a0db : Nat → Int) : Prop := ((P_sd_figureOf a0a a0ba a0bb a0c a0dn a0da a0db) ∧ (cond (C_sd_figureOf_0 a0a a0ba a0bb a0c a0dn a0da a0db) True (cond (C_sd_figureOf_1 a0a a0ba a0bb a0c a0dn a0da a0db) True (P_sd_polygon_box (F_sd_figureOf_2_0 a0a a0ba a0bb a0c a0dn a0da a0db) (F_sd_figureOf_2_1 a0a a0ba a0bb a0c a0dn a0da a0db) (F_sd_figureOf_2_2 a0a a0ba a0bb a0c a0dn a0da a0db)))))
def F_sd_BoxOf_0 (a0a : Int) (a0ba : Int) (a0bb : Int) (a0c : Int) (a0dn : Nat) (a0da : Nat → Int) (a0db : Nat → Int) : Int := (cond (C_sd_figureOf_0 a0a a0ba a0bb a0c a0dn a0da a0db) 0 (cond (C_sd_figureOf_1 a0a a0ba a0bb a0c a0dn a0da a0db) (F_sd_disc_box_0 (F_sd_figureOf_1_0 a0a a0ba a0bb a0c a0dn a0da a0db) (F_sd_figureOf_1_1 a0a a0ba a0bb a0c a0dn a0da a0db) (F_sd_figureOf_1_2 a0a a0ba a0bb a0c a0dn a0da a0db)) (F_sd_polygon_box_0 (F_sd_figureOf_2_0 a0a a0ba a0bb a0c a0dn a0da a0db) (F_sd_figureOf_2_1 a0a a0ba a0bb a0c a0dn a0da a0db) (F_sd_figureOf_2_2 a0a a0ba a0bb a0c a0dn a0da a0db))))
def F_sd_BoxOf_1 (a0a : Int) (a0ba : Int) (a0bb : Int) (a0c : Int) (a0dn : Nat) (a0da : Nat → Int) (a0db : Nat → Int) : Int := (cond (C_sd_figureOf_0 a0a a0ba a0bb a0c a0dn a0da a0db) 0 (cond (C_sd_figureOf_1 a0a a0ba a0bb a0c a0dn a0da a0db) (F_sd_disc_box_1 (F_sd_figureOf_1_0 a0a a0ba a0bb a0c a0dn a0da a0db) (F_sd_figureOf_1_1 a0a a0ba a0bb a0c a0dn a0da a0db) (F_sd_figureOf_1_2 a0a a0ba a0bb a0c a0dn a0da a0db)) (F_sd_polygon_box_1 (F_sd_figureOf_2_0 a0a a0ba a0bb a0c a0dn a0da a0db) (F_sd_figureOf_2_1 a0a a0ba a0bb a0c a0dn a0da a0db) (F_sd_figureOf_2_2 a0a a0ba a0bb a0c a0dn a0da a0db))))
def F_sd_BoxOf_2 (a0a : Int) (a0ba : Int) (a0bb : Int) (a0c : Int) (a0dn : Nat) (a0da : Nat → Int) (a0db : Nat → Int) : Int := (cond (C_sd_figureOf_0 a0a a0ba a0bb a0c a0dn a0da a0db) 0 (cond (C_sd_figureOf_1 a0a a0ba a0bb a0c a0dn a0da a0db) (F_sd_disc_box_2 (F_sd_figureOf_1_0 a0a a0ba a0bb a0c a0dn a0da a0db) (F_sd_figureOf_1_1 a0a a0ba a0bb a0c a0dn a0da a0db) (F_sd_figureOf_1_2 a0a a0ba a0bb a0c a0dn a0da a0db)) (F_sd_polygon_box_2 (F_sd_figureOf_2_0 a0a a0ba a0bb a0c a0dn a0da a0db) (F_sd_figureOf_2_1 a0a a0ba a0bb a0c a0dn a0da a0db) (F_sd_figureOf_2_2 a0a a0ba a0bb a0c a0dn a0da a0db))))
def F_sd_BoxOf_3 (a0a : Int) (a0ba : Int) (a0bb : Int) (a0c : Int) (a0dn : Nat) (a0da : Nat → Int) (a0db : Nat → Int) : Int := (cond (C_sd_figureOf_0 a0a a0ba a0bb a0c a0dn a0da a0db) 0 (cond (C_sd_figureOf_1 a0a a0ba a0bb a0c a0dn a0da a0db) (F_sd_disc_box_3 (F_sd_figureOf_1_0 a0a a0ba a0bb a0c a0dn a0da a0db) (F_sd_figureOf_1_1 a0a a0ba a0bb a0c a0dn a0da a0db) (F_sd_figureOf_1_2 a0a a0ba a0bb a0c a0dn a0da a0db)) (F_sd_polygon_box_3 (F_sd_figureOf_2_0 a0a a0ba a0bb a0c a0dn a0da a0db) (F_sd_figureOf_2_1 a0a a0ba a0bb a0c a0dn a0da a0db) (F_sd_figureOf_2_2 a0a a0ba a0bb a0c a0dn a0da a0db))))
theorem H_sd_BoxOf (a0a : Int) (a0ba : Int) (a0bb : Int) (a0c : Int) (a0dn : Nat) (a0da : Nat → Int) (a0db : Nat → Int) {K0 : Int → Int → Int → Int → Prop} (h : P_sd_BoxOf a0a a0ba a0bb a0c a0dn a0da a0db) (hK : K0 (F_sd_BoxOf_0 a0a a0ba a0bb a0c a0dn a0da a0db) (F_sd_BoxOf_1 a0a a0ba a0bb a0c a0dn a0da a0db) (F_sd_BoxOf_2 a0a a0ba a0bb a0c a0dn a0da a0db) (F_sd_BoxOf_3 a0a a0ba a0bb a0c a0dn a0da a0db)) : B_sd_BoxOf a0a a0ba a0bb a0c a0dn a0da a0db K0  := by
  unfold B_sd_BoxOf P_sd_BoxOf F_sd_BoxOf_0 F_sd_BoxOf_1 F_sd_BoxOf_2 F_sd_BoxOf_3 at *
  simp only [Ts_iff, true_and]
  try simp only [Ts_iff, true_and] at h
  repeat' first
    | exact hK
    | (refine cond_intro (fun hc => ?_) (fun hc => ?_) <;> (try simp only [hc, cond_true, cond_false] at h) <;> (try simp only [hc, cond_true, cond_false] at hK) <;> (try simp only [hc, cond_true, cond_false]))
    | (refine ⟨rfl, ?_⟩)
    | (refine ⟨trivial, ?_⟩)
    | (refine ⟨by decide, ?_⟩)
    | (refine ⟨h.1, ?_⟩; replace h := h.2)
    | (refine ⟨h, ?_⟩)
    | (refine ⟨fun _ _ => rfl, ?_⟩)
/-! ### bagatelle/bagatelleref03.Join -/
def B_r3_Join_0 (a0n : Nat) (a0a : Nat → Int) (a0b : Nat → Int) (a0c : Nat → Int) (a0d : Nat → Int) (v0t4 : Int) (v0m10 : Int) (v0m11 : Int) (v0m12 : Int) (v0m13 : Int) (c : Int → Int → Int → Int → Int → Prop) (x0 : Int → Int → Int → Int → Int → Prop) (x1 : Int → Int → Int → Int → Int → Prop)  : Prop := Ts 4 (cond (ilt v0t4 ((a0n : Nat) : Int)) (Ts 2 (((0 ≤ v0t4 ∧ v0t4 < ((a0n : Nat) : Int)) ∧ Ts 1 (((P_r3_CheckBox (a0a (Int.toNat v0t4)) (a0b (Int.toNat v0t4)) (a0c (Int.toNat v0t4)) (a0d (Int.toNat v0t4))) ∧ Ts 1 (cond (ine (F_r3_CheckBox_0 (a0a (Int.toNat v0t4)) (a0b (Int.toNat v0t4)) (a0c (Int.toNat v0t4)) (a0d (Int.toNat v0t4))) 0) (Ts 2 (x1 v0t4 v0m10 v0m11 v0m12 v0m13)) (Ts 2 (cond (ieq v0t4 0) (Ts 1 (((0 ≤ (0 : Int) ∧ (0 : Int) < ((a0n : Nat) : Int)) ∧ Ts 5 (c (iadd .i64 v0t4 1) (a0a 0) (a0b 0) (a0c 0) (a0d 0))))) (Ts 4 (((0 ≤ v0t4 ∧ v0t4 < ((a0n : Nat) : Int)) ∧ Ts 7 (((0 ≤ v0t4 ∧ v0t4 < ((a0n : Nat) : Int)) ∧ Ts 7 (((0 ≤ v0t4 ∧ v0t4 < ((a0n : Nat) : Int)) ∧ Ts 7 (((0 ≤ v0t4 ∧ v0t4 < ((a0n : Nat) : Int)) ∧ Ts 5 ((true = true ∧ Ts 3 (c (iadd .i64 v0t4 1) (imin v0m10 (a0a (Int.toNat v0t4))) (imin v0m11 (a0b (Int.toNat v0t4))) (imax v0m12 (a0c (Int.toNat v0t4))) (imax v0m13 (a0d (Int.toNat v0t4))))))))))))))))))))))) (x0 v0t4 v0m10 v0m11 v0m12 v0m13))
def W_r3_Join_0 (a0n : Nat) (a0a : Nat → Int) (a0b : Nat → Int) (a0c : Nat → Int) (a0d : Nat → Int) : Nat → Int → Int → Int → Int → Int → (Int → Int → Int → Int → Int → Prop) → (Int → Int → Int → Int → Int → Prop) → Prop
  | 0, _, _, _, _, _, _, _ => False
  | f + 1, w0, w1, w2, w3, w4, x0, x1 => B_r3_Join_0 a0n a0a a0b a0c a0d w0 w1 w2 w3 w4 (fun u0 u1 u2 u3 u4 => W_r3_Join_0 a0n a0a a0b a0c a0d f u0 u1 u2 u3 u4 x0 x1) x0 x1 
theorem BM_r3_Join_0 (a0n : Nat) (a0a : Nat → Int) (a0b : Nat → Int) (a0c : Nat → Int) (a0d : Nat → Int) (v0t4 : Int) (v0m10 : Int) (v0m11 : Int) (v0m12 : Int) (v0m13 : Int) {c c' : Int → Int → Int → Int → Int → Prop} {x0 y0 : Int → Int → Int → Int → Int → Prop} {x1 y1 : Int → Int → Int → Int → Int → Prop} (hc : ∀ w0 w1 w2 w3 w4, c w0 w1 w2 w3 w4 → c' w0 w1 w2 w3 w4) (h0 : ∀ o0 o1 o2 o3 o4, x0 o0 o1 o2 o3 o4 → y0 o0 o1 o2 o3 o4) (h1 : ∀ o0 o1 o2 o3 o4, x1 o0 o1 o2 o3 o4 → y1 o0 o1 o2 o3 o4) : B_r3_Join_0 a0n a0a a0b a0c a0d v0t4 v0m10 v0m11 v0m12 v0m13 c x0 x1  → B_r3_Join_0 a0n a0a a0b a0c a0d v0t4 v0m10 v0m11 v0m12 v0m13 c' y0 y1  := by
  unfold B_r3_Join_0
  repeat' first
    | exact hc _ _ _ _ _
    | exact h0 _ _ _ _ _
    | exact h1 _ _ _ _ _
    | refine Ts_imp ?_
    | refine cond_imp ?_ ?_
    | refine and_imp' ?_
theorem WM_r3_Join_0 (a0n : Nat) (a0a : Nat → Int) (a0b : Nat → Int) (a0c : Nat → Int) (a0d : Nat → Int) {x0 y0 : Int → Int → Int → Int → Int → Prop} {x1 y1 : Int → Int → Int → Int → Int → Prop} (h0 : ∀ o0 o1 o2 o3 o4, x0 o0 o1 o2 o3 o4 → y0 o0 o1 o2 o3 o4) (h1 : ∀ o0 o1 o2 o3 o4, x1 o0 o1 o2 o3 o4 → y1 o0 o1 o2 o3 o4) : ∀ (f : Nat) (v0t4 : Int) (v0m10 : Int) (v0m11 : Int) (v0m12 : Int) (v0m13 : Int), W_r3_Join_0 a0n a0a a0b a0c a0d f v0t4 v0m10 v0m11 v0m12 v0m13 x0 x1 → W_r3_Join_0 a0n a0a a0b a0c a0d f v0t4 v0m10 v0m11 v0m12 v0m13 y0 y1
  | 0, w0, w1, w2, w3, w4 => fun h => h
  | f + 1, w0, w1, w2, w3, w4 => BM_r3_Join_0 a0n a0a a0b a0c a0d w0 w1 w2 w3 w4 (fun u0 u1 u2 u3 u4 => WM_r3_Join_0 a0n a0a a0b a0c a0d h0 h1 f u0 u1 u2 u3 u4) h0 h1
def B_r3_Join (a0n : Nat) (a0a : Nat → Int) (a0b : Nat → Int) (a0c : Nat → Int) (a0d : Nat → Int) (K0 : Int → Int → Int → Int → Prop) (l0 : Int → Int → Int → Int → Int → (Int → Int → Int → Int → Int → Prop) → (Int → Int → Int → Int → Int → Prop) → Prop) : Prop := Ts 5 ((l0 0 0 0 0 0 (fun o0t4 o0m10 o0m11 o0m12 o0m13 => Ts 3 (K0 o0m10 o0m11 o0m12 o0m13)) (fun o0t4 o0m10 o0m11 o0m12 o0m13 => Ts 1 (K0 0 0 0 0))))
def P_r3_Join (n : Nat) (a b c d : Nat → Int) : Prop := n ≤ 1000000
theorem W_r3_Join_ok {n : Nat} {a b c d : Nat → Int} (hp : P_r3_Join n a b c d) {x0 x1 : Int → Int → Int → Int → Int → Prop} : ∀ (f i : Nat), i ≤ n → n < f + i → ((∀ k, i ≤ k → k < n → F_r3_CheckBox_0 (a k) (b k) (c k) (d k) = 0) → ∀ v, x0 v (minF a n) (minF b n) (maxF c n) (maxF d n)) →
    (∀ k, k < n → F_r3_CheckBox_0 (a k) (b k) (c k) (d k) ≠ 0 → ∀ v m1 m2 m3 m4, x1 v m1 m2 m3 m4) → W_r3_Join_0 n a b c d f i (minF a i) (minF b i) (maxF c i) (maxF d i) x0 x1
  | 0, i, h1, h2, _, _ => by omega
  | f + 1, i, h1, h2, h3, h4 => by
    show B_r3_Join_0 n a b c d i _ _ _ _ _ _ _
    unfold B_r3_Join_0
    simp only [Ts_iff, true_and, Int.toNat_natCast, Nat.zero_add]
    refine cond_intro (fun hc => ?_) (fun hc => ?_)
    · rw [ilt_t] at hc
      have hi : i < n := by omega
      refine ⟨⟨by omega, hc⟩, trivial, ?_⟩
      refine cond_intro (fun he => ?_) (fun he => ?_)
      · rw [ine_t] at he
        exact h4 i hi he _ _ _ _ _
      · rw [ine_f] at he
        have hn := (show n ≤ 1000000 from hp)
        have hrec := W_r3_Join_ok hp f (i + 1) (by omega) (by omega) (fun h => h3 fun k hk1 hk2 => (if hk : k = i then by subst hk; exact he else h k (by omega) hk2)) h4
        refine cond_intro (fun hz => ?_) (fun hz => ?_)
        · rw [ieq_t] at hz
          have : i = 0 := by omega
          subst this
          rw [iadd64 (by omega) (by omega)]
          exact ⟨⟨by omega, hc⟩, hrec⟩
        · rw [ieq_f] at hz
          have : i ≠ 0 := by omega
          rw [iadd64 (by omega) (by omega)]
          rw [minF_succ a this, minF_succ b this, maxF_succ c this, maxF_succ d this] at hrec
          simp only [imin_m, imax_m]
          exact ⟨⟨by omega, hc⟩, ⟨by omega, hc⟩, ⟨by omega, hc⟩, ⟨by omega, hc⟩, hrec⟩
    · rw [ilt_f] at hc
      have : i = n := by omega
      subst this
      exact h3 (fun k hk1 hk2 => by omega) _
def ok_r3_Join (n : Nat) (a b c d : Nat → Int) : Bool := (List.range n).all fun k => decide (F_r3_CheckBox_0 (a k) (b k) (c k) (d k) = 0)
theorem ok_r3_Join_iff {n : Nat} {a b c d : Nat → Int} : ok_r3_Join n a b c d = true ↔ ∀ k, k < n → F_r3_CheckBox_0 (a k) (b k) (c k) (d k) = 0 := by
  unfold ok_r3_Join
  rw [List.all_eq_true]
  exact ⟨fun h k hk => by simpa using h k (List.mem_range.2 hk), fun h k hk => by simpa using h k (List.mem_range.1 hk)⟩
def F_r3_Join_0 (n : Nat) (a b c d : Nat → Int) : Int := cond (ok_r3_Join n a b c d) (minF a n) 0
def F_r3_Join_1 (n : Nat) (a b c d : Nat → Int) : Int := cond (ok_r3_Join n a b c d) (minF b n) 0
def F_r3_Join_2 (n : Nat) (a b c d : Nat → Int) : Int := cond (ok_r3_Join n a b c d) (maxF c n) 0
def F_r3_Join_3 (n : Nat) (a b c d : Nat → Int) : Int := cond (ok_r3_Join n a b c d) (maxF d n) 0
theorem H_r3_Join (a0n : Nat) (a0a : Nat → Int) (a0b : Nat → Int) (a0c : Nat → Int) (a0d : Nat → Int) {K0 : Int → Int → Int → Int → Prop} (h : P_r3_Join a0n a0a a0b a0c a0d) (hK : K0 (F_r3_Join_0 a0n a0a a0b a0c a0d) (F_r3_Join_1 a0n a0a a0b a0c a0d) (F_r3_Join_2 a0n a0a a0b a0c a0d) (F_r3_Join_3 a0n a0a a0b a0c a0d)) : B_r3_Join a0n a0a a0b a0c a0d K0 (W_r3_Join_0 a0n a0a a0b a0c a0d fuel) := by
  unfold B_r3_Join
  simp only [Ts_iff, true_and]
  refine W_r3_Join_ok h fuel 0 (Nat.zero_le _) (by rw [fuel_eq]; have := (show a0n ≤ 1000000 from h); omega) (fun hh v => ?_) (fun k hk hs v m1 m2 m3 m4 => ?_)
  · have : ok_r3_Join a0n a0a a0b a0c a0d = true := ok_r3_Join_iff.2 fun k hk => hh k (Nat.zero_le _) hk
    unfold F_r3_Join_0 F_r3_Join_1 F_r3_Join_2 F_r3_Join_3 at hK
    rw [this] at hK
    exact hK
  · have : ok_r3_Join a0n a0a a0b a0c a0d = false := by
      cases hf : ok_r3_Join a0n a0a a0b a0c a0d with
      | false => rfl
      | true => exact absurd (ok_r3_Join_iff.1 hf k hk) hs
    unfold F_r3_Join_0 F_r3_Join_1 F_r3_Join_2 F_r3_Join_3 at hK
    rw [this] at hK
    exact hK
/-! ### bagatelle/bagatelleref03.BoxOf -/
def B_r3_BoxOf_0 (a0a : Int) (a0ba : Int) (a0bb : Int) (a0c : Int) (a0dn : Nat) (a0da : Nat → Int) (a0db : Nat → Int) (v0t4 : Int) (v0m20 : Int) (v0m21 : Int) (v0m22 : Int) (v0m23 : Int) (c : Int → Int → Int → Int → Int → Prop) (x0 : Int → Int → Int → Int → Int → Prop)  : Prop := Ts 5 (cond (ilt v0t4 ((a0dn : Nat) : Int)) (Ts 4 (((0 ≤ v0t4 ∧ v0t4 < ((a0dn : Nat) : Int)) ∧ Ts 1 (((P_r3_around (a0da (Int.toNat v0t4)) (a0db (Int.toNat v0t4)) 0) ∧ Ts 1 (((P_r3_Join 2 (pushF 1 (fun _ => v0m20) (F_r3_around_0 (a0da (Int.toNat v0t4)) (a0db (Int.toNat v0t4)) 0)) (pushF 1 (fun _ => v0m21) (F_r3_around_1 (a0da (Int.toNat v0t4)) (a0db (Int.toNat v0t4)) 0)) (pushF 1 (fun _ => v0m22) (F_r3_around_2 (a0da (Int.toNat v0t4)) (a0db (Int.toNat v0t4)) 0)) (pushF 1 (fun _ => v0m23) (F_r3_around_3 (a0da (Int.toNat v0t4)) (a0db (Int.toNat v0t4)) 0))) ∧ Ts 1 ((true = true ∧ Ts 3 (c (iadd .i64 v0t4 1) (F_r3_Join_0 2 (pushF 1 (fun _ => v0m20) (F_r3_around_0 (a0da (Int.toNat v0t4)) (a0db (Int.toNat v0t4)) 0)) (pushF 1 (fun _ => v0m21) (F_r3_around_1 (a0da (Int.toNat v0t4)) (a0db (Int.toNat v0t4)) 0)) (pushF 1 (fun _ => v0m22) (F_r3_around_2 (a0da (Int.toNat v0t4)) (a0db (Int.toNat v0t4)) 0)) (pushF 1 (fun _ => v0m23) (F_r3_around_3 (a0da (Int.toNat v0t4)) (a0db (Int.toNat v0t4)) 0))) (F_r3_Join_1 2 (pushF 1 (fun _ => v0m20) (F_r3_around_0 (a0da (Int.toNat v0t4)) (a0db (Int.toNat v0t4)) 0)) (pushF 1 (fun _ => v0m21) (F_r3_around_1 (a0da (Int.toNat v0t4)) (a0db (Int.toNat v0t4)) 0)) (pushF 1 (fun _ => v0m22) (F_r3_around_2 (a0da (Int.toNat v0t4)) (a0db (Int.toNat v0t4)) 0)) (pushF 1 (fun _ => v0m23) (F_r3_around_3 (a0da (Int.toNat v0t4)) (a0db (Int.toNat v0t4)) 0))) (F_r3_Join_2 2 (pushF 1 (fun _ => v0m20) (F_r3_around_0 (a0da (Int.toNat v0t4)) (a0db (Int.toNat v0t4)) 0)) (pushF 1 (fun _ => v0m21) (F_r3_around_1 (a0da (Int.toNat v0t4)) (a0db (Int.toNat v0t4)) 0)) (pushF 1 (fun _ => v0m22) (F_r3_around_2 (a0da (Int.toNat v0t4)) (a0db (Int.toNat v0t4)) 0)) (pushF 1 (fun _ => v0m23) (F_r3_around_3 (a0da (Int.toNat v0t4)) (a0db (Int.toNat v0t4)) 0))) (F_r3_Join_3 2 (pushF 1 (fun _ => v0m20) (F_r3_around_0 (a0da (Int.toNat v0t4)) (a0db (Int.toNat v0t4)) 0)) (pushF 1 (fun _ => v0m21) (F_r3_around_1 (a0da (Int.toNat v0t4)) (a0db (Int.toNat v0t4)) 0)) (pushF 1 (fun _ => v0m22) (F_r3_around_2 (a0da (Int.toNat v0t4)) (a0db (Int.toNat v0t4)) 0)) (pushF 1 (fun _ => v0m23) (F_r3_around_3 (a0da (Int.toNat v0t4)) (a0db (Int.toNat v0t4)) 0))))))))))))) (x0 v0t4 v0m20 v0m21 v0m22 v0m23))
def W_r3_BoxOf_0 (a0a : Int) (a0ba : Int) (a0bb : Int) (a0c : Int) (a0dn : Nat) (a0da : Nat → Int) (a0db : Nat → Int) : Nat → Int → Int → Int → Int → Int → (Int → Int → Int → Int → Int → Prop) → Prop
  | 0, _, _, _, _, _, _ => False
  | f + 1, w0, w1, w2, w3, w4, x0 => B_r3_BoxOf_0 a0a a0ba a0bb a0c a0dn a0da a0db w0 w1 w2 w3 w4 (fun u0 u1 u2 u3 u4 => W_r3_BoxOf_0 a0a a0ba a0bb a0c a0dn a0da a0db f u0 u1 u2 u3 u4 x0) x0 
theorem BM_r3_BoxOf_0 (a0a : Int) (a0ba : Int) (a0bb : Int) (a0c : Int) (a0dn : Nat) (a0da : Nat → Int) (a0db : Nat → Int) (v0t4 : Int) (v0m20 : Int) (v0m21 : Int) (v0m22 : Int) (v0m23 : Int) {c c' : Int → Int → Int → Int → Int → Prop} {x0 y0 : Int → Int → Int → Int → Int → Prop} (hc : ∀ w0 w1 w2 w3 w4, c w0 w1 w2 w3 w4 → c' w0 w1 w2 w3 w4) (h0 : ∀ o0 o1 o2 o3 o4, x0 o0 o1 o2 o3 o4 → y0 o0 o1 o2 o3 o4) : B_r3_BoxOf_0 a0a a0ba a0bb a0c a0dn a0da a0db v0t4 v0m20 v0m21 v0m22 v0m23 c x0  → B_r3_BoxOf_0 a0a a0ba a0bb a0c a0dn a0da a0db v0t4 v0m20 v0m21 v0m22 v0m23 c' y0  := by
  unfold B_r3_BoxOf_0
  repeat' first
    | exact hc _ _ _ _ _
    | exact h0 _ _ _ _ _
    | refine Ts_imp ?_
    | refine cond_imp ?_ ?_
    | refine and_imp' ?_
theorem WM_r3_BoxOf_0 (a0a : Int) (a0ba : Int) (a0bb : Int) (a0c : Int) (a0dn : Nat) (a0da : Nat → Int) (a0db : Nat → Int) {x0 y0 : Int → Int → Int → Int → Int → Prop} (h0 : ∀ o0 o1 o2 o3 o4, x0 o0 o1 o2 o3 o4 → y0 o0 o1 o2 o3 o4) : ∀ (f : Nat) (v0t4 : Int) (v0m20 : Int) (v0m21 : Int) (v0m22 : Int) (v0m23 : Int), W_r3_BoxOf_0 a0a a0ba a0bb a0c a0dn a0da a0db f v0t4 v0m20 v0m21 v0m22 v0m23 x0 → W_r3_BoxOf_0 a0a a0ba a0bb a0c a0dn a0da a0db f v0t4 v0m20 v0m21 v0m22 v0m23 y0
  | 0, w0, w1, w2, w3, w4 => fun h => h
  | f + 1, w0, w1, w2, w3, w4 => BM_r3_BoxOf_0 a0a a0ba a0bb a0c a0dn a0da a0db w0 w1 w2 w3 w4 (fun u0 u1 u2 u3 u4 => WM_r3_BoxOf_0 a0a a0ba a0bb a0c a0dn a0da a0db h0 f u0 u1 u2 u3 u4) h0
def B_r3_BoxOf (a0a : Int) (a0ba : Int) (a0bb : Int) (a0c : Int) (a0dn : Nat) (a0da : Nat → Int) (a0db : Nat → Int) (K0 : Int → Int → Int → Int → Prop) (l0 : Int → Int → Int → Int → Int → (Int → Int → Int → Int → Int → Prop) → Prop) : Prop := Ts 3 (((P_r3_Check a0a a0ba a0bb a0c a0dn a0da a0db) ∧ Ts 1 (cond (ine (F_r3_Check_0 a0a a0ba a0bb a0c a0dn a0da a0db) 0) (Ts 3 (K0 0 0 0 0)) (Ts 3 (cond (ieq a0a 1) (Ts 4 (((P_r3_around a0ba a0bb a0c) ∧ Ts 2 (K0 (F_r3_around_0 a0ba a0bb a0c) (F_r3_around_1 a0ba a0bb a0c) (F_r3_around_2 a0ba a0bb a0c) (F_r3_around_3 a0ba a0bb a0c))))) (Ts 2 (((0 ≤ (0 : Int) ∧ (0 : Int) < ((a0dn : Nat) : Int)) ∧ Ts 1 (((P_r3_around (a0da 0) (a0db 0) 0) ∧ Ts 3 ((l0 1 (F_r3_around_0 (a0da 0) (a0db 0) 0) (F_r3_around_1 (a0da 0) (a0db 0) 0) (F_r3_around_2 (a0da 0) (a0db 0) 0) (F_r3_around_3 (a0da 0) (a0db 0) 0) (fun o0t4 o0m20 o0m21 o0m22 o0m23 => Ts 3 (K0 o0m20 o0m21 o0m22 o0m23))))))))))))))
theorem check_zero {k ba bb c : Int} {n : Nat} {da db : Nat → Int} (h : F_r3_Check_0 k ba bb c n da db = 0) : spotOK ba bb = true ∧ spotsOK n da db = true ∧ (ieq k 1 = false → 3 ≤ n ∧ n ≤ 8 ∧ convP n da db) ∧ (ieq k 1 = true → 1 ≤ c ∧ c ≤ 2097152 ∧ n = 0) := by
  unfold F_r3_Check_0 at h
  cases h1 : (!(ieq k 1) && ine k 2) with
  | true => rw [h1] at h; simp only [cond_true] at h; omega
  | false =>
    rw [h1, cond_false, valid_eq] at h
    cases h2 : spotOK ba bb with
    | false => rw [h2] at h; simp only [Bool.not_false, cond_true] at h; omega
    | true =>
      rw [h2] at h
      simp only [Bool.not_true, cond_false] at h
      cases h3 : spotsOK n da db with
      | false => rw [h3] at h; simp only [Bool.not_false, cond_true] at h; omega
      | true =>
        rw [h3] at h
        simp only [Bool.not_true, cond_false] at h
        refine ⟨rfl, rfl, fun h4 => ?_, fun h4 => ?_⟩
        · rw [h4, cond_false] at h
          cases h5 : ine c 0 with
          | true => rw [h5] at h; simp only [cond_true] at h; omega
          | false =>
            rw [h5, cond_false] at h
            cases h6 : ilt (n : Int) 3 with
            | true => rw [h6] at h; simp only [cond_true] at h; omega
            | false =>
              rw [h6, cond_false] at h
              cases h7 : igt (n : Int) 8 with
              | true => rw [h7] at h; simp only [cond_true] at h; omega
              | false =>
                rw [h7, cond_false] at h
                rw [igt_f] at h7
                cases h8 : F_r3_Convex_0 n da db with
                | false => rw [h8] at h; simp only [Bool.not_false, cond_true] at h; omega
                | true =>
                  obtain ⟨a1, a2⟩ := convF_iff.1 h8
                  exact ⟨a1, by omega, a2⟩
        · rw [h4, cond_true] at h
          cases h5 : (ige c 1 && (igt c 2097152 || ine (F_r3_CheckBox_0 (F_r3_around_0 ba bb c) (F_r3_around_1 ba bb c) (F_r3_around_2 ba bb c) (F_r3_around_3 ba bb c)) 0)) with
          | true => rw [h5] at h; simp only [cond_true] at h; omega
          | false =>
            rw [h5, cond_false] at h
            cases h6 : ilt c 1 with
            | true => rw [h6] at h; simp only [cond_true] at h; omega
            | false =>
              rw [h6, cond_false] at h
              rw [ilt_f] at h6
              rw [ige_t.2 h6, Bool.true_and, Bool.or_eq_false_iff, igt_f] at h5
              cases h7 : igt (n : Int) 0 with
              | true => rw [h7] at h; simp only [cond_true] at h; omega
              | false => rw [igt_f] at h7; exact ⟨h6, h5.1, by omega⟩
theorem join2r {a b c d e f g h : Int} (h1 : F_r3_CheckBox_0 a b c d = 0) (h2 : F_r3_CheckBox_0 e f g h = 0) : F_r3_Join_0 2 (pushF 1 (fun _ => a) e) (pushF 1 (fun _ => b) f) (pushF 1 (fun _ => c) g) (pushF 1 (fun _ => d) h) = min a e ∧
    F_r3_Join_1 2 (pushF 1 (fun _ => a) e) (pushF 1 (fun _ => b) f) (pushF 1 (fun _ => c) g) (pushF 1 (fun _ => d) h) = min b f ∧ F_r3_Join_2 2 (pushF 1 (fun _ => a) e) (pushF 1 (fun _ => b) f) (pushF 1 (fun _ => c) g) (pushF 1 (fun _ => d) h) = max c g ∧
    F_r3_Join_3 2 (pushF 1 (fun _ => a) e) (pushF 1 (fun _ => b) f) (pushF 1 (fun _ => c) g) (pushF 1 (fun _ => d) h) = max d h := by
  have hok : ok_r3_Join 2 (pushF 1 (fun _ => a) e) (pushF 1 (fun _ => b) f) (pushF 1 (fun _ => c) g) (pushF 1 (fun _ => d) h) = true := ok_r3_Join_iff.2 fun k hk => by
    have : k = 0 ∨ k = 1 := by omega
    rcases this with rfl | rfl
    · exact h1
    · exact h2
  unfold F_r3_Join_0 F_r3_Join_1 F_r3_Join_2 F_r3_Join_3
  rw [hok]
  exact ⟨rfl, rfl, rfl, rfl⟩
theorem r3box_ok {a b c d : Int} (h1 : spotOK a b = true) (h2 : spotOK c d = true) (h3 : a ≤ c) (h4 : b ≤ d) : F_r3_CheckBox_0 a b c d = 0 := by
  unfold F_r3_CheckBox_0
  rw [valid_eq, valid_eq, h1, h2, igt_f.2 h3, igt_f.2 h4]
  rfl
theorem minmax_in {f : Nat → Int} : ∀ (i : Nat), 0 < i → (∀ k, k < i → -2097152 ≤ f k ∧ f k ≤ 2097152) → -2097152 ≤ minF f i ∧ minF f i ≤ maxF f i ∧ maxF f i ≤ 2097152
  | 0, h, _ => by omega
  | i + 1, _, h => by
    by_cases hi : i = 0
    · subst hi
      rw [minF_one, maxF_one]
      have := h 0 (by omega)
      omega
    · have := minmax_in i (by omega) (fun k hk => h k (by omega))
      have h1 := h i (by omega)
      rw [minF_succ f hi, maxF_succ f hi]
      omega
def P_r3_BoxOf (k : Int) (ba : Int) (bb : Int) (c : Int) (n : Nat) (da : Nat → Int) (db : Nat → Int) : Prop := n ≤ 1000000
def F_r3_BoxOf_0 (k : Int) (ba : Int) (bb : Int) (c : Int) (n : Nat) (da : Nat → Int) (db : Nat → Int) : Int := cond (ine (F_r3_Check_0 k ba bb c n da db) 0) 0 (cond (ieq k 1) (F_r3_around_0 ba bb c) (minF da n))
def F_r3_BoxOf_1 (k : Int) (ba : Int) (bb : Int) (c : Int) (n : Nat) (da : Nat → Int) (db : Nat → Int) : Int := cond (ine (F_r3_Check_0 k ba bb c n da db) 0) 0 (cond (ieq k 1) (F_r3_around_1 ba bb c) (minF db n))
def F_r3_BoxOf_2 (k : Int) (ba : Int) (bb : Int) (c : Int) (n : Nat) (da : Nat → Int) (db : Nat → Int) : Int := cond (ine (F_r3_Check_0 k ba bb c n da db) 0) 0 (cond (ieq k 1) (F_r3_around_2 ba bb c) (maxF da n))
def F_r3_BoxOf_3 (k : Int) (ba : Int) (bb : Int) (c : Int) (n : Nat) (da : Nat → Int) (db : Nat → Int) : Int := cond (ine (F_r3_Check_0 k ba bb c n da db) 0) 0 (cond (ieq k 1) (F_r3_around_3 ba bb c) (maxF db n))
theorem W_r3_BoxOf_ok {k ba bb c : Int} {n : Nat} {da db : Nat → Int} (hn : n ≤ 1000000) (hv : ∀ j, j < n → spotOK (da j) (db j) = true) {x0 : Int → Int → Int → Int → Int → Prop} (hx : ∀ v, x0 v (minF da n) (minF db n) (maxF da n) (maxF db n)) : ∀ (f i : Nat), 0 < i → i ≤ n → n < f + i → W_r3_BoxOf_0 k ba bb c n da db f i (minF da i) (minF db i) (maxF da i) (maxF db i) x0
  | 0, i, _, h1, h2 => by omega
  | f + 1, i, h0, h1, h2 => by
    show B_r3_BoxOf_0 k ba bb c n da db i _ _ _ _ _ _
    unfold B_r3_BoxOf_0
    simp only [Ts_iff, true_and, Int.toNat_natCast, Nat.zero_add]
    refine cond_intro (fun hc => ?_) (fun hc => ?_)
    · rw [ilt_t] at hc
      have hi := hv i (by omega)
      have hi' := spotOK_iff.1 hi
      have m1 := minmax_in (f := da) i h0 (fun j hj => by have := spotOK_iff.1 (hv j (by omega)); omega)
      have m2 := minmax_in (f := db) i h0 (fun j hj => by have := spotOK_iff.1 (hv j (by omega)); omega)
      unfold F_r3_around_0 F_r3_around_1 F_r3_around_2 F_r3_around_3
      rw [isub64 (a := da i) (by omega) (by omega), isub64 (a := db i) (by omega) (by omega), iadd64 (a := da i) (by omega) (by omega), iadd64 (a := db i) (by omega) (by omega), iadd64 (a := (i : Int)) (by omega) (by omega), Int.sub_zero, Int.sub_zero, Int.add_zero, Int.add_zero]
      obtain ⟨j0, j1, j2, j3⟩ := join2r (a := minF da i) (b := minF db i) (c := maxF da i) (d := maxF db i) (e := da i) (f := db i) (g := da i) (h := db i) (r3box_ok (spotOK_iff.2 (by omega)) (spotOK_iff.2 (by omega)) (by omega) (by omega)) (r3box_ok hi hi (Int.le_refl _) (Int.le_refl _))
      rw [j0, j1, j2, j3]
      refine ⟨⟨by omega, hc⟩, trivial, show 2 ≤ 1000000 by omega, ?_⟩
      have hne : i ≠ 0 := by omega
      have := W_r3_BoxOf_ok (k := k) (ba := ba) (bb := bb) (c := c) hn hv hx f (i + 1) (by omega) (by omega) (by omega)
      rw [minF_succ da hne, minF_succ db hne, maxF_succ da hne, maxF_succ db hne] at this
      exact this
    · rw [ilt_f] at hc
      have : i = n := by omega
      subst this
      exact hx _
theorem H_r3_BoxOf (k : Int) (ba : Int) (bb : Int) (c : Int) (n : Nat) (da : Nat → Int) (db : Nat → Int) {K0 : Int → Int → Int → Int → Prop} (h : P_r3_BoxOf k ba bb c n da db) (hK : K0 (F_r3_BoxOf_0 k ba bb c n da db) (F_r3_BoxOf_1 k ba bb c n da db) (F_r3_BoxOf_2 k ba bb c n da db) (F_r3_BoxOf_3 k ba bb c n da db)) : B_r3_BoxOf k ba bb c n da db K0 (W_r3_BoxOf_0 k ba bb c n da db fuel) := by
  have hn : n ≤ 1000000 := h
  unfold F_r3_BoxOf_0 F_r3_BoxOf_1 F_r3_BoxOf_2 F_r3_BoxOf_3 at hK
  unfold B_r3_BoxOf
  simp only [Ts_iff]
  refine ⟨h, cond_intro (fun hc => ?_) (fun hc => ?_)⟩
  · rw [hc] at hK
    exact hK
  · rw [hc] at hK
    simp only [cond_false] at hK
    rw [ine_f] at hc
    obtain ⟨c1, c2, c3, c4⟩ := check_zero hc
    refine cond_intro (fun hk => ?_) (fun hk => ?_)
    · rw [hk] at hK
      exact ⟨trivial, hK⟩
    · rw [hk] at hK
      simp only [cond_false] at hK
      obtain ⟨d1, d2, d3⟩ := c3 hk
      have hv := spotsOK_iff.1 c2
      have h0 := spotOK_iff.1 (hv 0 (by omega))
      refine ⟨⟨by omega, by omega⟩, trivial, ?_⟩
      unfold F_r3_around_0 F_r3_around_1 F_r3_around_2 F_r3_around_3
      rw [isub64 (a := da 0) (by omega) (by omega), isub64 (a := db 0) (by omega) (by omega), iadd64 (a := da 0) (by omega) (by omega), iadd64 (a := db 0) (by omega) (by omega), Int.sub_zero, Int.sub_zero, Int.add_zero, Int.add_zero]
      exact W_r3_BoxOf_ok hn hv (fun v => hK) fuel 1 (by omega) (by omega) (by rw [fuel_eq]; omega)
/-! ### bagatelle/bagatellekit.SameSpots -/
def B_kt_SameSpots_0 (a0n : Nat) (a0a : Nat → Int) (a0b : Nat → Int) (a1n : Nat) (a1a : Nat → Int) (a1b : Nat → Int) (v0t5 : Int) (c : Int → Prop) (x0 : Int → Prop) (x1 : Int → Prop)  : Prop := Ts 4 (cond (ilt v0t5 ((a0n : Nat) : Int)) (Ts 2 (((0 ≤ v0t5 ∧ v0t5 < ((a0n : Nat) : Int)) ∧ Ts 3 (((0 ≤ v0t5 ∧ v0t5 < ((a1n : Nat) : Int)) ∧ Ts 2 ((true = true ∧ cond (!((ieq (a0a (Int.toNat v0t5)) (a1a (Int.toNat v0t5))) && (ieq (a0b (Int.toNat v0t5)) (a1b (Int.toNat v0t5))))) (Ts 1 (x1 v0t5)) (Ts 3 (c (iadd .i64 v0t5 1)))))))))) (x0 v0t5))
def W_kt_SameSpots_0 (a0n : Nat) (a0a : Nat → Int) (a0b : Nat → Int) (a1n : Nat) (a1a : Nat → Int) (a1b : Nat → Int) : Nat → Int → (Int → Prop) → (Int → Prop) → Prop
  | 0, _, _, _ => False
  | f + 1, w0, x0, x1 => B_kt_SameSpots_0 a0n a0a a0b a1n a1a a1b w0 (fun u0 => W_kt_SameSpots_0 a0n a0a a0b a1n a1a a1b f u0 x0 x1) x0 x1 
theorem BM_kt_SameSpots_0 (a0n : Nat) (a0a : Nat → Int) (a0b : Nat → Int) (a1n : Nat) (a1a : Nat → Int) (a1b : Nat → Int) (v0t5 : Int) {c c' : Int → Prop} {x0 y0 : Int → Prop} {x1 y1 : Int → Prop} (hc : ∀ w0, c w0 → c' w0) (h0 : ∀ o0, x0 o0 → y0 o0) (h1 : ∀ o0, x1 o0 → y1 o0) : B_kt_SameSpots_0 a0n a0a a0b a1n a1a a1b v0t5 c x0 x1  → B_kt_SameSpots_0 a0n a0a a0b a1n a1a a1b v0t5 c' y0 y1  := by
  unfold B_kt_SameSpots_0
  repeat' first
    | exact hc _
    | exact h0 _
    | exact h1 _
    | refine Ts_imp ?_
    | refine cond_imp ?_ ?_
    | refine and_imp' ?_
theorem WM_kt_SameSpots_0 (a0n : Nat) (a0a : Nat → Int) (a0b : Nat → Int) (a1n : Nat) (a1a : Nat → Int) (a1b : Nat → Int) {x0 y0 : Int → Prop} {x1 y1 : Int → Prop} (h0 : ∀ o0, x0 o0 → y0 o0) (h1 : ∀ o0, x1 o0 → y1 o0) : ∀ (f : Nat) (v0t5 : Int), W_kt_SameSpots_0 a0n a0a a0b a1n a1a a1b f v0t5 x0 x1 → W_kt_SameSpots_0 a0n a0a a0b a1n a1a a1b f v0t5 y0 y1
  | 0, w0 => fun h => h
  | f + 1, w0 => BM_kt_SameSpots_0 a0n a0a a0b a1n a1a a1b w0 (fun u0 => WM_kt_SameSpots_0 a0n a0a a0b a1n a1a a1b h0 h1 f u0) h0 h1
def B_kt_SameSpots (a0n : Nat) (a0a : Nat → Int) (a0b : Nat → Int) (a1n : Nat) (a1a : Nat → Int) (a1b : Nat → Int) (K0 : Bool → Prop) (l0 : Int → (Int → Prop) → (Int → Prop) → Prop) : Prop := Ts 6 (cond (ine ((a0n : Nat) : Int) ((a1n : Nat) : Int)) (Ts 1 (K0 false)) (Ts 1 ((l0 0 (fun o0t5 => Ts 1 (K0 true)) (fun o0t5 => K0 false)))))
def P_kt_SameSpots (a0n : Nat) (a0a : Nat → Int) (a0b : Nat → Int) (a1n : Nat) (a1a : Nat → Int) (a1b : Nat → Int) : Prop := a0n ≤ 1000000 ∧ a1n ≤ 1000000
def F_kt_SameSpots_0 (n : Nat) (a : Nat → Int) (b : Nat → Int) (n' : Nat) (a' : Nat → Int) (b' : Nat → Int) : Bool := decide (n = n') && (List.range n).all fun k => decide (a k = a' k) && decide (b k = b' k)
theorem sameSpots_iff {n : Nat} {a b : Nat → Int} {n' : Nat} {a' b' : Nat → Int} : F_kt_SameSpots_0 n a b n' a' b' = true ↔ (n = n' ∧ ∀ k, k < n → a k = a' k ∧ b k = b' k) := by
  unfold F_kt_SameSpots_0
  rw [Bool.and_eq_true, List.all_eq_true]
  constructor
  · rintro ⟨h1, h2⟩
    exact ⟨by simpa using h1, fun k hk => by simpa using h2 k (List.mem_range.2 hk)⟩
  · rintro ⟨h1, h2⟩
    exact ⟨by simpa using h1, fun k hk => by simpa using h2 k (List.mem_range.1 hk)⟩
theorem W_kt_SameSpots_ok {n : Nat} {a b a' b' : Nat → Int} (hn : n ≤ 1000000) {x0 x1 : Int → Prop} : ∀ (f i : Nat), i ≤ n → n < f + i → ((∀ k, i ≤ k → k < n → a k = a' k ∧ b k = b' k) → ∀ v, x0 v) → (∀ k, k < n → ¬ (a k = a' k ∧ b k = b' k) → ∀ v, x1 v) → W_kt_SameSpots_0 n a b n a' b' f i x0 x1
  | 0, i, h1, h2, _, _ => by omega
  | f + 1, i, h1, h2, h3, h4 => by
    show B_kt_SameSpots_0 n a b n a' b' i _ _ _
    unfold B_kt_SameSpots_0
    simp only [Ts_iff, true_and, Int.toNat_natCast, Nat.zero_add]
    refine cond_intro (fun hc => ?_) (fun hc => ?_)
    · rw [ilt_t] at hc
      refine ⟨⟨by omega, hc⟩, ⟨by omega, hc⟩, cond_intro (fun he => ?_) (fun he => ?_)⟩
      · refine h4 i (by omega) (fun ⟨e1, e2⟩ => ?_) _
        rw [ieq_t.2 e1, ieq_t.2 e2] at he
        cases he
      · have he : (ieq (a i) (a' i) && ieq (b i) (b' i)) = true := by
          cases hh : (ieq (a i) (a' i) && ieq (b i) (b' i)) with
          | true => rfl
          | false => rw [hh] at he; cases he
        rw [Bool.and_eq_true, ieq_t, ieq_t] at he
        rw [iadd64 (by omega) (by omega)]
        refine W_kt_SameSpots_ok hn f (i + 1) (by omega) (by omega) (fun h => h3 fun k hk1 hk2 => ?_) h4
        by_cases hk : k = i
        · subst hk; exact he
        · exact h k (by omega) hk2
    · rw [ilt_f] at hc
      exact h3 (fun k hk1 hk2 => by omega) _
theorem H_kt_SameSpots (a0n : Nat) (a0a : Nat → Int) (a0b : Nat → Int) (a1n : Nat) (a1a : Nat → Int) (a1b : Nat → Int) {K0 : Bool → Prop} (h : P_kt_SameSpots a0n a0a a0b a1n a1a a1b) (hK : K0 (F_kt_SameSpots_0 a0n a0a a0b a1n a1a a1b)) : B_kt_SameSpots a0n a0a a0b a1n a1a a1b K0 (W_kt_SameSpots_0 a0n a0a a0b a1n a1a a1b fuel) := by
  unfold B_kt_SameSpots
  simp only [Ts_iff, true_and]
  have no : ¬ (a0n = a1n ∧ ∀ k, k < a0n → a0a k = a1a k ∧ a0b k = a1b k) → K0 false := fun hh => by
    have : F_kt_SameSpots_0 a0n a0a a0b a1n a1a a1b = false := by
      cases hf : F_kt_SameSpots_0 a0n a0a a0b a1n a1a a1b with
      | false => rfl
      | true => exact absurd (sameSpots_iff.1 hf) hh
    rw [this] at hK
    exact hK
  refine cond_intro (fun hc => ?_) (fun hc => ?_)
  · rw [ine_t] at hc
    exact no (fun hh => hc (by rw [hh.1]))
  · rw [ine_f] at hc
    have e : a0n = a1n := by omega
    subst e
    refine W_kt_SameSpots_ok h.1 fuel 0 (Nat.zero_le _) (by rw [fuel_eq]; have := h.1; omega) (fun hh v => ?_) (fun k hk hs v => no (fun hh => hs (hh.2 k hk)))
    have : F_kt_SameSpots_0 a0n a0a a0b a0n a1a a1b = true := sameSpots_iff.2 ⟨rfl, fun k hk => hh k (Nat.zero_le _) hk⟩
    rw [this] at hK
    exact hK
/-! ### bagatelle/bagatellekit.SameForm -/
def B_kt_SameForm (a0a : Int) (a0ba : Int) (a0bb : Int) (a0c : Int) (a0dn : Nat) (a0da : Nat → Int) (a0db : Nat → Int) (a1a : Int) (a1ba : Int) (a1bb : Int) (a1c : Int) (a1dn : Nat) (a1da : Nat → Int) (a1db : Nat → Int) (K0 : Bool → Prop)  : Prop := Ts 9 (cond (ieq a0a a1a) (Ts 7 (cond ((ieq a0ba a1ba) && (ieq a0bb a1bb)) (Ts 7 (cond (ieq a0c a1c) (Ts 4 (((P_kt_SameSpots a0dn a0da a0db a1dn a1da a1db) ∧ Ts 2 (K0 (F_kt_SameSpots_0 a0dn a0da a0db a1dn a1da a1db))))) (Ts 2 (K0 false)))) (Ts 4 (K0 false)))) (Ts 6 (K0 false)))
def P_kt_SameForm (a0a : Int) (a0ba : Int) (a0bb : Int) (a0c : Int) (a0dn : Nat) (a0da : Nat → Int) (a0db : Nat → Int) (a1a : Int) (a1ba : Int) (a1bb : Int) (a1c : Int) (a1dn : Nat) (a1da : Nat → Int) (a1db : Nat → Int) : Prop := (cond (ieq a0a a1a) (cond ((ieq a0ba a1ba) && (ieq a0bb a1bb)) (cond (ieq a0c a1c) (P_kt_SameSpots a0dn a0da a0db a1dn a1da a1db) True) True) True)
def F_kt_SameForm_0 (a0a : Int) (a0ba : Int) (a0bb : Int) (a0c : Int) (a0dn : Nat) (a0da : Nat → Int) (a0db : Nat → Int) (a1a : Int) (a1ba : Int) (a1bb : Int) (a1c : Int) (a1dn : Nat) (a1da : Nat → Int) (a1db : Nat → Int) : Bool := (cond (ieq a0a a1a) (cond ((ieq a0ba a1ba) && (ieq a0bb a1bb)) (cond (ieq a0c a1c) (F_kt_SameSpots_0 a0dn a0da a0db a1dn a1da a1db) false) false) false)
theorem H_kt_SameForm (a0a : Int) (a0ba : Int) (a0bb : Int) (a0c : Int) (a0dn : Nat) (a0da : Nat → Int) (a0db : Nat → Int) (a1a : Int) (a1ba : Int) (a1bb : Int) (a1c : Int) (a1dn : Nat) (a1da : Nat → Int) (a1db : Nat → Int) {K0 : Bool → Prop} (h : P_kt_SameForm a0a a0ba a0bb a0c a0dn a0da a0db a1a a1ba a1bb a1c a1dn a1da a1db) (hK : K0 (F_kt_SameForm_0 a0a a0ba a0bb a0c a0dn a0da a0db a1a a1ba a1bb a1c a1dn a1da a1db)) : B_kt_SameForm a0a a0ba a0bb a0c a0dn a0da a0db a1a a1ba a1bb a1c a1dn a1da a1db K0  := by
  unfold B_kt_SameForm P_kt_SameForm F_kt_SameForm_0 at *
  simp only [Ts_iff, true_and]
  try simp only [Ts_iff, true_and] at h
  repeat' first
    | exact hK
    | (refine cond_intro (fun hc => ?_) (fun hc => ?_) <;> (try simp only [hc, cond_true, cond_false] at h) <;> (try simp only [hc, cond_true, cond_false] at hK) <;> (try simp only [hc, cond_true, cond_false]))
    | (refine ⟨rfl, ?_⟩)
    | (refine ⟨trivial, ?_⟩)
    | (refine ⟨by decide, ?_⟩)
    | (refine ⟨h.1, ?_⟩; replace h := h.2)
    | (refine ⟨h, ?_⟩)
    | (refine ⟨fun _ _ => rfl, ?_⟩)
/-! ### bagatelle/bagatellelaw03.SolidHolds -/
def B_lw_SolidHolds (a0a : Int) (a0ba : Int) (a0bb : Int) (a0c : Int) (a0dn : Nat) (a0da : Nat → Int) (a0db : Nat → Int) (a1a : Int) (a1b : Int) (K0 : Bool → Prop)  : Prop := Ts 4 (((P_lw_light a0a a0ba a0bb a0c a0dn a0da a0db) ∧ Ts 1 (cond (!(F_lw_light_0 a0a a0ba a0bb a0c a0dn a0da a0db)) (((P_lw_awake ) ∧ Ts 1 (K0 F_lw_awake_0))) (Ts 1 (((P_kt_OwnForm a0a a0ba a0bb a0c a0dn a0da a0db) ∧ Ts 4 (((P_sd_Holds (F_kt_OwnForm_0 a0a a0ba a0bb a0c a0dn a0da a0db) (F_kt_OwnForm_1 a0a a0ba a0bb a0c a0dn a0da a0db) (F_kt_OwnForm_2 a0a a0ba a0bb a0c a0dn a0da a0db) (F_kt_OwnForm_3 a0a a0ba a0bb a0c a0dn a0da a0db) (F_kt_OwnForm_4 a0a a0ba a0bb a0c a0dn a0da a0db) (F_kt_OwnForm_5 a0a a0ba a0bb a0c a0dn a0da a0db) (F_kt_OwnForm_6 a0a a0ba a0bb a0c a0dn a0da a0db) a1a a1b) ∧ Ts 2 (((P_r3_Holds a0a a0ba a0bb a0c a0dn a0da a0db a1a a1b) ∧ Ts 2 (cond (beqB (F_sd_Holds_0 (F_kt_OwnForm_0 a0a a0ba a0bb a0c a0dn a0da a0db) (F_kt_OwnForm_1 a0a a0ba a0bb a0c a0dn a0da a0db) (F_kt_OwnForm_2 a0a a0ba a0bb a0c a0dn a0da a0db) (F_kt_OwnForm_3 a0a a0ba a0bb a0c a0dn a0da a0db) (F_kt_OwnForm_4 a0a a0ba a0bb a0c a0dn a0da a0db) (F_kt_OwnForm_5 a0a a0ba a0bb a0c a0dn a0da a0db) (F_kt_OwnForm_6 a0a a0ba a0bb a0c a0dn a0da a0db) a1a a1b) (F_r3_Holds_0 a0a a0ba a0bb a0c a0dn a0da a0db a1a a1b)) (Ts 1 (((P_sd_BoxOf (F_kt_OwnForm_0 a0a a0ba a0bb a0c a0dn a0da a0db) (F_kt_OwnForm_1 a0a a0ba a0bb a0c a0dn a0da a0db) (F_kt_OwnForm_2 a0a a0ba a0bb a0c a0dn a0da a0db) (F_kt_OwnForm_3 a0a a0ba a0bb a0c a0dn a0da a0db) (F_kt_OwnForm_4 a0a a0ba a0bb a0c a0dn a0da a0db) (F_kt_OwnForm_5 a0a a0ba a0bb a0c a0dn a0da a0db) (F_kt_OwnForm_6 a0a a0ba a0bb a0c a0dn a0da a0db)) ∧ Ts 1 (((P_r3_BoxOf a0a a0ba a0bb a0c a0dn a0da a0db) ∧ Ts 3 (cond ((ieq (F_sd_BoxOf_0 (F_kt_OwnForm_0 a0a a0ba a0bb a0c a0dn a0da a0db) (F_kt_OwnForm_1 a0a a0ba a0bb a0c a0dn a0da a0db) (F_kt_OwnForm_2 a0a a0ba a0bb a0c a0dn a0da a0db) (F_kt_OwnForm_3 a0a a0ba a0bb a0c a0dn a0da a0db) (F_kt_OwnForm_4 a0a a0ba a0bb a0c a0dn a0da a0db) (F_kt_OwnForm_5 a0a a0ba a0bb a0c a0dn a0da a0db) (F_kt_OwnForm_6 a0a a0ba a0bb a0c a0dn a0da a0db)) (F_r3_BoxOf_0 a0a a0ba a0bb a0c a0dn a0da a0db)) && ((ieq (F_sd_BoxOf_1 (F_kt_OwnForm_0 a0a a0ba a0bb a0c a0dn a0da a0db) (F_kt_OwnForm_1 a0a a0ba a0bb a0c a0dn a0da a0db) (F_kt_OwnForm_2 a0a a0ba a0bb a0c a0dn a0da a0db) (F_kt_OwnForm_3 a0a a0ba a0bb a0c a0dn a0da a0db) (F_kt_OwnForm_4 a0a a0ba a0bb a0c a0dn a0da a0db) (F_kt_OwnForm_5 a0a a0ba a0bb a0c a0dn a0da a0db) (F_kt_OwnForm_6 a0a a0ba a0bb a0c a0dn a0da a0db)) (F_r3_BoxOf_1 a0a a0ba a0bb a0c a0dn a0da a0db)) && ((ieq (F_sd_BoxOf_2 (F_kt_OwnForm_0 a0a a0ba a0bb a0c a0dn a0da a0db) (F_kt_OwnForm_1 a0a a0ba a0bb a0c a0dn a0da a0db) (F_kt_OwnForm_2 a0a a0ba a0bb a0c a0dn a0da a0db) (F_kt_OwnForm_3 a0a a0ba a0bb a0c a0dn a0da a0db) (F_kt_OwnForm_4 a0a a0ba a0bb a0c a0dn a0da a0db) (F_kt_OwnForm_5 a0a a0ba a0bb a0c a0dn a0da a0db) (F_kt_OwnForm_6 a0a a0ba a0bb a0c a0dn a0da a0db)) (F_r3_BoxOf_2 a0a a0ba a0bb a0c a0dn a0da a0db)) && (ieq (F_sd_BoxOf_3 (F_kt_OwnForm_0 a0a a0ba a0bb a0c a0dn a0da a0db) (F_kt_OwnForm_1 a0a a0ba a0bb a0c a0dn a0da a0db) (F_kt_OwnForm_2 a0a a0ba a0bb a0c a0dn a0da a0db) (F_kt_OwnForm_3 a0a a0ba a0bb a0c a0dn a0da a0db) (F_kt_OwnForm_4 a0a a0ba a0bb a0c a0dn a0da a0db) (F_kt_OwnForm_5 a0a a0ba a0bb a0c a0dn a0da a0db) (F_kt_OwnForm_6 a0a a0ba a0bb a0c a0dn a0da a0db)) (F_r3_BoxOf_3 a0a a0ba a0bb a0c a0dn a0da a0db))))) (Ts 2 (((P_kt_SameForm (F_kt_OwnForm_0 a0a a0ba a0bb a0c a0dn a0da a0db) (F_kt_OwnForm_1 a0a a0ba a0bb a0c a0dn a0da a0db) (F_kt_OwnForm_2 a0a a0ba a0bb a0c a0dn a0da a0db) (F_kt_OwnForm_3 a0a a0ba a0bb a0c a0dn a0da a0db) (F_kt_OwnForm_4 a0a a0ba a0bb a0c a0dn a0da a0db) (F_kt_OwnForm_5 a0a a0ba a0bb a0c a0dn a0da a0db) (F_kt_OwnForm_6 a0a a0ba a0bb a0c a0dn a0da a0db) a0a a0ba a0bb a0c a0dn a0da a0db) ∧ Ts 2 (cond (F_kt_SameForm_0 (F_kt_OwnForm_0 a0a a0ba a0bb a0c a0dn a0da a0db) (F_kt_OwnForm_1 a0a a0ba a0bb a0c a0dn a0da a0db) (F_kt_OwnForm_2 a0a a0ba a0bb a0c a0dn a0da a0db) (F_kt_OwnForm_3 a0a a0ba a0bb a0c a0dn a0da a0db) (F_kt_OwnForm_4 a0a a0ba a0bb a0c a0dn a0da a0db) (F_kt_OwnForm_5 a0a a0ba a0bb a0c a0dn a0da a0db) (F_kt_OwnForm_6 a0a a0ba a0bb a0c a0dn a0da a0db) a0a a0ba a0bb a0c a0dn a0da a0db) (((P_lw_awake ) ∧ Ts 2 ((true = true ∧ K0 F_lw_awake_0)))) (Ts 2 ((true = true ∧ K0 false))))))) (Ts 4 ((true = true ∧ K0 false))))))))) (Ts 6 ((true = true ∧ K0 false))))))))))))))
theorem valid_iff (a b : Int) : F_r3_valid_0 a b = true ↔ (-2097152 ≤ a ∧ a ≤ 2097152 ∧ -2097152 ≤ b ∧ b ≤ 2097152) := by
  unfold F_r3_valid_0
  simp only [cond_tt, ige_t, ile_t, ige_f, ile_f, Bool.false_eq_true, and_false, or_false]
  all_goals omega
theorem check_r3 (a b c d : Int) : (F_r3_CheckBox_0 a b c d = 3 ∧ ¬ boxIn a b c d) ∨ (F_r3_CheckBox_0 a b c d = 5 ∧ boxIn a b c d ∧ (c < a ∨ d < b)) ∨ (F_r3_CheckBox_0 a b c d = 0 ∧ boxIn a b c d ∧ a ≤ c ∧ b ≤ d) := by
  unfold F_r3_CheckBox_0 boxIn
  have e1 := valid_iff a b
  have e2 := valid_iff c d
  cases h1 : F_r3_valid_0 a b with
  | false => rw [h1] at e1; left; exact ⟨rfl, fun h => by have := e1.2 h.1; cases this⟩
  | true =>
    rw [h1] at e1
    have e1 := e1.1 rfl
    cases h2 : F_r3_valid_0 c d with
    | false => rw [h2] at e2; left; exact ⟨rfl, fun h => by have := e2.2 h.2; cases this⟩
    | true =>
      rw [h2] at e2
      have e2 := e2.1 rfl
      right
      cases h1 : igt a c with
      | true => rw [igt_t] at h1; exact .inl ⟨rfl, ⟨e1, e2⟩, .inl h1⟩
      | false =>
        rw [igt_f] at h1
        cases h2 : igt b d with
        | true => rw [igt_t] at h2; exact .inl ⟨rfl, ⟨e1, e2⟩, .inr h2⟩
        | false => rw [igt_f] at h2; exact .inr ⟨rfl, ⟨e1, e2⟩, h1, h2⟩
theorem check_eq (a b c d : Int) : F_sd_CheckBox_0 a b c d = F_r3_CheckBox_0 a b c d := by
  rcases check_sd a b c d with ⟨h1, h2⟩ | ⟨h1, h2, h3⟩ | ⟨h1, h2, h3⟩ <;> rcases check_r3 a b c d with ⟨g1, g2⟩ | ⟨g1, g2, g3⟩ | ⟨g1, g2, g3⟩ <;> rw [h1, g1] <;> exfalso <;>
    first | exact h2 g2 | exact g2 h2 | omega
theorem bool_eq {x y : Bool} {p q : Prop} (hx : x = true ↔ p) (hy : y = true ↔ q) (h : p ↔ q) : x = y := by
  rw [Bool.eq_iff_iff, hx, hy, h]
theorem crossT_congr {n : Nat} {a b a' b' : Nat → Int} (h : ∀ k, k < n → a k = a' k ∧ b k = b' k) {i j k : Nat} (hi : i < n) (hj : j < n) (hk : k < n) : crossT a b i k j = crossT a' b' i k j := by
  unfold crossT
  rw [(h i hi).1, (h i hi).2, (h j hj).1, (h j hj).2, (h k hk).1, (h k hk).2]
theorem convP_congr {n : Nat} {a b a' b' : Nat → Int} (h : ∀ k, k < n → a k = a' k ∧ b k = b' k) : convP n a b ↔ convP n a' b' := by
  have go : ∀ {a b a' b' : Nat → Int}, (∀ k, k < n → a k = a' k ∧ b k = b' k) → convP n a b → convP n a' b' := by
    intro a b a' b' h hc
    refine ⟨fun k hk => by rw [← (h k hk).1, ← (h k hk).2]; exact hc.1 k hk, fun i hi j hj h1 h2 => ?_⟩
    rw [← crossT_congr h hi hj (nxE_lt hi)]
    exact hc.2 i hi j hj h1 h2
  exact ⟨go h, go (fun k hk => ⟨(h k hk).1.symm, (h k hk).2.symm⟩)⟩
theorem convF_congr {n : Nat} {a b a' b' : Nat → Int} (h : ∀ k, k < n → a k = a' k ∧ b k = b' k) : convF n a b = convF n a' b' := by
  rw [Bool.eq_iff_iff, convF_iff, convF_iff, convP_congr h]
theorem beqB_self (x : Bool) : beqB x x = true := by rw [beqB_eq]; simp
theorem fair1 (a b : Int) : F_sd_fair_0 1 (fun _ => a) (fun _ => b) = spotOK a b := by
  unfold F_sd_fair_0 spotsOK
  rw [show List.range 1 = [0] from rfl]
  simp only [List.all_cons, List.all_nil, Bool.and_true]
theorem spotsOK_congr {n : Nat} {a b a' b' : Nat → Int} (h : ∀ k, k < n → a k = a' k ∧ b k = b' k) : spotsOK n a b = spotsOK n a' b' := by
  rw [Bool.eq_iff_iff, spotsOK_iff, spotsOK_iff]
  constructor
  · intro g k hk
    rw [← (h k hk).1, ← (h k hk).2]
    exact g k hk
  · intro g k hk
    rw [(h k hk).1, (h k hk).2]
    exact g k hk
theorem igt0_ige1 (c : Int) : igt c 0 = ige c 1 := by
  rw [Bool.eq_iff_iff, igt_t, ige_t]
  omega
/-- The program's check of a form, read over a copy of its corners, is the reference's. -/
theorem form_check {k ba bb c : Int} {n : Nat} {da db da' db' : Nat → Int} (h : ∀ j, j < n → da' j = da j ∧ db' j = db j) : F_sd_Check_0 k ba bb c n da' db' = F_r3_Check_0 k ba bb c n da db := by
  unfold F_sd_Check_0 F_r3_Check_0
  have e1 : F_sd_fair_0 n da' db' = spotsOK n da db := spotsOK_congr h
  have e2 : F_sd_Convex_0 n da' db' = F_r3_Convex_0 n da db := convF_congr h
  have e3 : F_sd_CheckBox_0 (F_sd_grown_0 ba bb c) (F_sd_grown_1 ba bb c) (F_sd_grown_2 ba bb c) (F_sd_grown_3 ba bb c) = F_r3_CheckBox_0 (F_r3_around_0 ba bb c) (F_r3_around_1 ba bb c) (F_r3_around_2 ba bb c) (F_r3_around_3 ba bb c) := check_eq _ _ _ _
  rw [fair1, valid_eq, e1, e2, e3, igt0_ige1]
  cases hl : ilt (n : Int) 3 with
  | false => rfl
  | true =>
    rw [ilt_t] at hl
    have e4 : F_r3_Convex_0 n da db = false := convF_false (fun hh => by omega)
    have e5 : igt (n : Int) 8 = false := by rw [igt_f]; omega
    rw [e4, e5]
    rfl
theorem turn_side {x0 y0 x1 y1 x2 y2 : Int} (h0 : spotOK x0 y0 = true) (h1 : spotOK x1 y1 = true) (h2 : spotOK x2 y2 = true) : ilt (F_sd_turn_0 x0 y0 x1 y1 x2 y2) 0 = ilt (F_r3_Side_0 x0 y0 x1 y1 x2 y2) 0 := by
  rw [turn_eq h0 h1 h2, side_r3 h0 h1 h2, Bool.eq_iff_iff, ilt_t, ilt_t]
  split
  · omega
  · split <;> omega
theorem holds_eq {k ba bb c : Int} {n : Nat} {da db da' db' : Nat → Int} {px py : Int} (h : ∀ j, j < n → da' j = da j ∧ db' j = db j) : F_sd_Holds_0 k ba bb c n da' db' px py = F_r3_Holds_0 k ba bb c n da db px py := by
  unfold F_sd_Holds_0 F_r3_Holds_0 C_sd_figureOf_0 C_sd_figureOf_1 F_sd_figureOf_1_0 F_sd_figureOf_1_1 F_sd_figureOf_1_2 F_sd_figureOf_2_0 F_sd_figureOf_2_1 F_sd_figureOf_2_2
  rw [form_check h, fair1, valid_eq]
  cases hc : ieq (F_r3_Check_0 k ba bb c n da db) 0 with
  | false =>
    rw [ieq_f] at hc
    rw [ine_t.2 hc]
    rfl
  | true =>
    rw [ieq_t] at hc
    rw [ine_f.2 hc]
    simp only [cond_false, cond_true]
    obtain ⟨c1, c2, c3, c4⟩ := check_zero hc
    cases hk : ieq k 1 with
    | true =>
      unfold F_r3_holds_0
      rw [hk]
      rfl
    | false =>
      unfold F_r3_holds_0
      rw [hk]
      simp only [cond_false]
      cases hp : spotOK px py with
      | false => rfl
      | true =>
        simp only [cond_true]
        have hv := spotsOK_iff.1 c2
        rw [Bool.eq_iff_iff, has_iff, List.all_eq_true]
        have key : ∀ j, j < n → hasOK n da' db' px py j = has3 n da db px py j := fun j hj => by
          unfold hasOK has3
          rw [(h j hj).1, (h j hj).2, (h _ (nxE_lt hj)).1, (h _ (nxE_lt hj)).2, turn_side (hv j hj) (hv _ (nxE_lt hj)) hp]
        exact ⟨fun g j hj => by rw [← key j (List.mem_range.1 hj)]; exact g j (List.mem_range.1 hj), fun g j hj => by rw [key j hj]; exact g j (List.mem_range.2 hj)⟩
theorem boxof_eq {k ba bb c : Int} {n : Nat} {da db da' db' : Nat → Int} (h : ∀ j, j < n → da' j = da j ∧ db' j = db j) : F_sd_BoxOf_0 k ba bb c n da' db' = F_r3_BoxOf_0 k ba bb c n da db ∧ F_sd_BoxOf_1 k ba bb c n da' db' = F_r3_BoxOf_1 k ba bb c n da db ∧
    F_sd_BoxOf_2 k ba bb c n da' db' = F_r3_BoxOf_2 k ba bb c n da db ∧ F_sd_BoxOf_3 k ba bb c n da' db' = F_r3_BoxOf_3 k ba bb c n da db := by
  unfold F_sd_BoxOf_0 F_sd_BoxOf_1 F_sd_BoxOf_2 F_sd_BoxOf_3 F_r3_BoxOf_0 F_r3_BoxOf_1 F_r3_BoxOf_2 F_r3_BoxOf_3 C_sd_figureOf_0 C_sd_figureOf_1 F_sd_figureOf_1_0 F_sd_figureOf_1_1 F_sd_figureOf_1_2 F_sd_figureOf_2_0 F_sd_figureOf_2_1 F_sd_figureOf_2_2
  rw [form_check h]
  cases hc : ine (F_r3_Check_0 k ba bb c n da db) 0 with
  | true => exact ⟨rfl, rfl, rfl, rfl⟩
  | false =>
    rw [ine_f] at hc
    obtain ⟨c1, c2, c3, c4⟩ := check_zero hc
    cases hk : ieq k 1 with
    | true => exact ⟨rfl, rfl, rfl, rfl⟩
    | false =>
      simp only [cond_false]
      have hv := spotsOK_iff.1 c2
      unfold F_sd_polygon_box_0 F_sd_polygon_box_1 F_sd_polygon_box_2 F_sd_polygon_box_3 F_sd_Join_0 F_sd_Join_1 F_sd_Join_2 F_sd_Join_3
      have hok : ok_sd_Join n da' db' da' db' = true := ok_sd_Join_iff.2 fun j hj => by
        have := spotOK_iff.1 (hv j hj)
        rw [(h j hj).1, (h j hj).2, check_0]
        unfold boxIn
        omega
      rw [hok]
      exact ⟨minF_congr n (fun j hj => (h j hj).1), minF_congr n (fun j hj => (h j hj).2), maxF_congr n (fun j hj => (h j hj).1), maxF_congr n (fun j hj => (h j hj).2)⟩
theorem sameForm_eq {k ba bb c : Int} {n : Nat} {da db da' db' : Nat → Int} (h : ∀ j, j < n → da' j = da j ∧ db' j = db j) : F_kt_SameForm_0 k ba bb c n da' db' k ba bb c n da db = true := by
  unfold F_kt_SameForm_0
  rw [ieq_t.2 rfl, ieq_t.2 rfl, ieq_t.2 rfl, ieq_t.2 rfl, sameSpots_iff.2 ⟨rfl, h⟩]
  rfl
theorem sameFormP {k ba bb c : Int} {n : Nat} {da db da' db' : Nat → Int} (h : n ≤ 1000000) : P_kt_SameForm k ba bb c n da' db' k ba bb c n da db :=
  cond_intro (fun _ => cond_intro (fun _ => cond_intro (fun _ => ⟨h, h⟩) (fun _ => trivial)) (fun _ => trivial)) (fun _ => trivial)
theorem copies (n : Nat) (da db : Nat → Int) : ∀ j, j < n → copyF da n j = da j ∧ copyF db n j = db j := fun j hj => ⟨copyF_lt _ _ _ hj, copyF_lt _ _ _ hj⟩
theorem FormI.copy {k ba bb c : Int} {n : Nat} {da db : Nat → Int} (h : FormI k ba bb c n da db) : FormI k ba bb c n (copyF da n) (copyF db n) :=
  ⟨h.1, h.2.1, fun j hj => by rw [(copies n da db j hj).1, (copies n da db j hj).2]; exact h.2.2 j hj⟩
def P_lw_SolidHolds (k : Int) (ba : Int) (bb : Int) (c : Int) (n : Nat) (da : Nat → Int) (db : Nat → Int) (px : Int) (py : Int) : Prop := (I64 k ∧ I64 ba ∧ I64 bb ∧ I64 c) ∧ (∀ j, j < n → I64 (da j) ∧ I64 (db j)) ∧ I64 px ∧ I64 py
def F_lw_SolidHolds_0 (k : Int) (ba : Int) (bb : Int) (c : Int) (n : Nat) (da : Nat → Int) (db : Nat → Int) (px : Int) (py : Int) : Bool := true
theorem H_lw_SolidHolds (k : Int) (ba : Int) (bb : Int) (c : Int) (n : Nat) (da : Nat → Int) (db : Nat → Int) (px : Int) (py : Int) {K0 : Bool → Prop} (h : P_lw_SolidHolds k ba bb c n da db px py) (hK : K0 (F_lw_SolidHolds_0 k ba bb c n da db px py)) : B_lw_SolidHolds k ba bb c n da db px py K0 := by
  have hK : K0 true := hK
  obtain ⟨h1, h2, h3, h4⟩ := h
  unfold B_lw_SolidHolds
  simp only [Ts_iff, true_and]
  refine ⟨trivial, cond_intro (fun hc => ?_) (fun hc => ?_)⟩
  · exact ⟨awakeP, by rw [awake_true]; exact hK⟩
  · have hn : n ≤ 12 := by
      unfold F_lw_light_0 at hc
      simp only [Bool.not_eq_false', ile_t] at hc
      omega
    have hF : FormI k ba bb c n da db := ⟨h1, by omega, h2⟩
    have hF' : FormI k ba bb c n (copyF da n) (copyF db n) := hF.copy
    have hp : P_sd_fair 1 (fun _ => px) (fun _ => py) := ⟨by omega, fun _ _ => ⟨h3, h4⟩⟩
    have hn6 : n ≤ 1000000 := by omega
    refine ⟨hn6, ⟨hF', cond_intro (fun _ => trivial) (fun _ => cond_intro (fun _ => hp) (fun _ => ⟨hp, cond_intro (fun _ => hn6) (fun _ => trivial)⟩))⟩, ⟨hn6, cond_intro (fun _ => cond_intro (fun _ => hn6) (fun _ => trivial)) (fun _ => trivial)⟩, ?_⟩
    have e1 : F_sd_Holds_0 (F_kt_OwnForm_0 k ba bb c n da db) (F_kt_OwnForm_1 k ba bb c n da db) (F_kt_OwnForm_2 k ba bb c n da db) (F_kt_OwnForm_3 k ba bb c n da db) (F_kt_OwnForm_4 k ba bb c n da db) (F_kt_OwnForm_5 k ba bb c n da db) (F_kt_OwnForm_6 k ba bb c n da db) px py = F_r3_Holds_0 k ba bb c n da db px py := holds_eq (copies n da db)
    rw [e1, beqB_self, cond_true]
    refine ⟨⟨hF', cond_intro (fun _ => trivial) (fun _ => cond_intro (fun _ => trivial) (fun _ => ⟨hn6, hF'.2.2⟩))⟩, hn6, ?_⟩
    obtain ⟨b0, b1, b2, b3⟩ := boxof_eq (k := k) (ba := ba) (bb := bb) (c := c) (copies n da db)
    refine cond_intro (fun _ => ?_) (fun hf => ?_)
    · refine ⟨sameFormP hn6, ?_⟩
      have e2 : F_kt_SameForm_0 (F_kt_OwnForm_0 k ba bb c n da db) (F_kt_OwnForm_1 k ba bb c n da db) (F_kt_OwnForm_2 k ba bb c n da db) (F_kt_OwnForm_3 k ba bb c n da db) (F_kt_OwnForm_4 k ba bb c n da db) (F_kt_OwnForm_5 k ba bb c n da db) (F_kt_OwnForm_6 k ba bb c n da db) k ba bb c n da db = true := sameForm_eq (copies n da db)
      rw [e2, cond_true]
      exact ⟨awakeP, by rw [awake_true]; exact hK⟩
    · exfalso
      have e3 : ((ieq (F_sd_BoxOf_0 k ba bb c n (copyF da n) (copyF db n)) (F_r3_BoxOf_0 k ba bb c n da db)) && ((ieq (F_sd_BoxOf_1 k ba bb c n (copyF da n) (copyF db n)) (F_r3_BoxOf_1 k ba bb c n da db)) && ((ieq (F_sd_BoxOf_2 k ba bb c n (copyF da n) (copyF db n)) (F_r3_BoxOf_2 k ba bb c n da db)) && (ieq (F_sd_BoxOf_3 k ba bb c n (copyF da n) (copyF db n)) (F_r3_BoxOf_3 k ba bb c n da db))))) = true := by
        rw [ieq_t.2 b0, ieq_t.2 b1, ieq_t.2 b2, ieq_t.2 b3]
        rfl
      exact Bool.noConfusion (e3.symm.trans hf)
end
end Go.Ag
