import Derived.Test.YtbcegholicnflaaBgV
set_option linter.unusedVariables false
set_option linter.unusedSimpArgs false
set_option maxRecDepth 100000
namespace Go.Ag
open Go.RowKit
noncomputable section
/-! ### bagatelle/solid.fair -/
def B_sd_fair_0 (a0n : Nat) (a0a : Nat → Int) (a0b : Nat → Int) (v0t7 : Int) (c : Int → Prop) (x0 : Int → Prop) (x1 : Int → Prop)  : Prop := Ts 1 (cond (ilt v0t7 ((a0n : Nat) : Int)) (((0 ≤ v0t7 ∧ v0t7 < ((a0n : Nat) : Int)) ∧ Ts 16 (cond (igt (imax (imax (imax (a0a (Int.toNat v0t7)) (ineg .i64 (a0a (Int.toNat v0t7)))) (a0b (Int.toNat v0t7))) (ineg .i64 (a0b (Int.toNat v0t7)))) 2097152) (Ts 4 (x1 v0t7)) (Ts 5 (cond (ilt (a0a (Int.toNat v0t7)) (-2097152)) (Ts 2 (x1 v0t7)) (Ts 4 (cond (ilt (a0b (Int.toNat v0t7)) (-2097152)) (Ts 1 (x1 v0t7)) (Ts 2 (c (iadd .i64 v0t7 1)))))))))) (x0 v0t7))
def W_sd_fair_0 (a0n : Nat) (a0a : Nat → Int) (a0b : Nat → Int) : Nat → Int → (Int → Prop) → (Int → Prop) → Prop
  | 0, _, _, _ => False
  | f + 1, w0, x0, x1 => B_sd_fair_0 a0n a0a a0b w0 (fun u0 => W_sd_fair_0 a0n a0a a0b f u0 x0 x1) x0 x1 
theorem BM_sd_fair_0 (a0n : Nat) (a0a : Nat → Int) (a0b : Nat → Int) (v0t7 : Int) {c c' : Int → Prop} {x0 y0 : Int → Prop} {x1 y1 : Int → Prop} (hc : ∀ w0, c w0 → c' w0) (h0 : ∀ o0, x0 o0 → y0 o0) (h1 : ∀ o0, x1 o0 → y1 o0) : B_sd_fair_0 a0n a0a a0b v0t7 c x0 x1  → B_sd_fair_0 a0n a0a a0b v0t7 c' y0 y1  := by
  unfold B_sd_fair_0
  repeat' first
    | exact hc _
    | exact h0 _
    | exact h1 _
    | refine Ts_imp ?_
    | refine cond_imp ?_ ?_
    | refine and_imp' ?_
theorem WM_sd_fair_0 (a0n : Nat) (a0a : Nat → Int) (a0b : Nat → Int) {x0 y0 : Int → Prop} {x1 y1 : Int → Prop} (h0 : ∀ o0, x0 o0 → y0 o0) (h1 : ∀ o0, x1 o0 → y1 o0) : ∀ (f : Nat) (v0t7 : Int), W_sd_fair_0 a0n a0a a0b f v0t7 x0 x1 → W_sd_fair_0 a0n a0a a0b f v0t7 y0 y1
  | 0, w0 => fun h => h
  | f + 1, w0 => BM_sd_fair_0 a0n a0a a0b w0 (fun u0 => WM_sd_fair_0 a0n a0a a0b h0 h1 f u0) h0 h1
def B_sd_fair (a0n : Nat) (a0a : Nat → Int) (a0b : Nat → Int) (K0 : Bool → Prop) (l0 : Int → (Int → Prop) → (Int → Prop) → Prop) : Prop := Ts 4 ((l0 0 (fun o0t7 => Ts 1 (K0 true)) (fun o0t7 => K0 false)))
def spotsOK (n : Nat) (x y : Nat → Int) : Bool := (List.range n).all fun k => spotOK (x k) (y k)
theorem spotsOK_iff {n : Nat} {x y : Nat → Int} : spotsOK n x y = true ↔ ∀ k, k < n → spotOK (x k) (y k) = true := by
  unfold spotsOK
  rw [List.all_eq_true]
  exact ⟨fun h k hk => h k (List.mem_range.2 hk), fun h k hk => h k (List.mem_range.1 hk)⟩
def P_sd_fair (n : Nat) (x : Nat → Int) (y : Nat → Int) : Prop := n ≤ 1000000 ∧ ∀ k, k < n → I64 (x k) ∧ I64 (y k)
def F_sd_fair_0 (n : Nat) (x : Nat → Int) (y : Nat → Int) : Bool := spotsOK n x y
theorem W_sd_fair_ok {n : Nat} {x y : Nat → Int} (hp : P_sd_fair n x y) {x0 x1 : Int → Prop} : ∀ (f i : Nat), i ≤ n → n < f + i → ((∀ k, i ≤ k → k < n → spotOK (x k) (y k) = true) → ∀ v, x0 v) → (∀ k, k < n → spotOK (x k) (y k) = false → ∀ v, x1 v) → W_sd_fair_0 n x y f i x0 x1
  | 0, i, h1, h2, _, _ => by omega
  | f + 1, i, h1, h2, h3, h4 => by
    show B_sd_fair_0 n x y i _ _ _
    unfold B_sd_fair_0
    simp only [Ts_iff, true_and, Int.toNat_natCast, Nat.zero_add]
    refine cond_intro (fun hc => ?_) (fun hc => ?_)
    · rw [ilt_t] at hc
      have hi : i < n := by omega
      refine ⟨⟨by omega, hc⟩, ?_⟩
      obtain ⟨⟨hx1, hx2⟩, ⟨hy1, hy2⟩⟩ := hp.2 i hi
      have key : spotOK (x i) (y i) = false → ∀ v, x1 v := h4 i hi
      have nk : ¬ (-2097152 ≤ x i ∧ x i ≤ 2097152 ∧ -2097152 ≤ y i ∧ y i ≤ 2097152) → ∀ v, x1 v := fun h => key (by rw [← Bool.not_eq_true, spotOK_iff]; exact h)
      have hnx : ineg .i64 (x i) = -(x i) ∨ (x i = -9223372036854775808 ∧ ineg .i64 (x i) = -9223372036854775808) := by
        by_cases h : x i = -9223372036854775808
        · exact .inr ⟨h, by rw [h, ineg64_min]⟩
        · exact .inl (ineg64 (by omega) hx2)
      have hny : ineg .i64 (y i) = -(y i) ∨ (y i = -9223372036854775808 ∧ ineg .i64 (y i) = -9223372036854775808) := by
        by_cases h : y i = -9223372036854775808
        · exact .inr ⟨h, by rw [h, ineg64_min]⟩
        · exact .inl (ineg64 (by omega) hy2)
      refine cond_intro (fun hc => ?_) (fun hc => ?_)
      · rw [igt_t, imax_m, imax_m, imax_m] at hc
        exact nk (by omega) _
      · rw [igt_f, imax_m, imax_m, imax_m] at hc
        refine cond_intro (fun hc => ?_) (fun hc => ?_)
        · rw [ilt_t] at hc
          exact nk (by omega) _
        · rw [ilt_f] at hc
          refine cond_intro (fun hc => ?_) (fun hc => ?_)
          · rw [ilt_t] at hc
            exact nk (by omega) _
          · rw [ilt_f] at hc
            have hn := hp.1
            rw [iadd64 (by omega) (by omega)]
            refine W_sd_fair_ok hp f (i + 1) (by omega) (by omega) (fun h => h3 fun k hk1 hk2 => ?_) h4
            by_cases hk : k = i
            · subst hk
              rw [spotOK_iff]
              omega
            · exact h k (by omega) hk2
    · rw [ilt_f] at hc
      exact h3 (fun k hk1 hk2 => by omega) _
theorem H_sd_fair (a0n : Nat) (a0a : Nat → Int) (a0b : Nat → Int) {K0 : Bool → Prop} (h : P_sd_fair a0n a0a a0b) (hK : K0 (F_sd_fair_0 a0n a0a a0b)) : B_sd_fair a0n a0a a0b K0 (W_sd_fair_0 a0n a0a a0b fuel) := by
  unfold B_sd_fair
  simp only [Ts_iff, true_and]
  refine W_sd_fair_ok h fuel 0 (Nat.zero_le _) (by rw [fuel_eq]; have := h.1; omega) (fun h => ?_) (fun k hk hs => ?_)
  · intro v
    have : F_sd_fair_0 a0n a0a a0b = true := spotsOK_iff.2 fun k hk => h k (Nat.zero_le _) hk
    rw [this] at hK
    exact hK
  · intro v
    have : F_sd_fair_0 a0n a0a a0b = false := by
      cases hf : F_sd_fair_0 a0n a0a a0b with
      | false => rfl
      | true => rw [spotsOK_iff.1 hf k hk] at hs; cases hs
    rw [this] at hK
    exact hK
/-! ### bagatelle/solid.CheckBox -/
def B_sd_CheckBox (a0a : Int) (a0b : Int) (a0c : Int) (a0d : Int) (K0 : Int → Prop)  : Prop := Ts 16 ((true = true ∧ Ts 3 (((P_sd_fair 2 (pushF 1 (fun _ => a0a) a0c) (pushF 1 (fun _ => a0b) a0d)) ∧ Ts 2 (cond (!(F_sd_fair_0 2 (pushF 1 (fun _ => a0a) a0c) (pushF 1 (fun _ => a0b) a0d))) (Ts 1 (K0 3)) (Ts 6 (cond (igt a0a a0c) (Ts 3 (K0 5)) (Ts 7 (cond (igt a0b a0d) (Ts 1 (K0 5)) (Ts 1 (K0 0)))))))))))
def P_sd_CheckBox (a0a : Int) (a0b : Int) (a0c : Int) (a0d : Int) : Prop := (P_sd_fair 2 (pushF 1 (fun _ => a0a) a0c) (pushF 1 (fun _ => a0b) a0d))
def F_sd_CheckBox_0 (a0a : Int) (a0b : Int) (a0c : Int) (a0d : Int) : Int := (cond (!(F_sd_fair_0 2 (pushF 1 (fun _ => a0a) a0c) (pushF 1 (fun _ => a0b) a0d))) 3 (cond (igt a0a a0c) 5 (cond (igt a0b a0d) 5 0)))
theorem H_sd_CheckBox (a0a : Int) (a0b : Int) (a0c : Int) (a0d : Int) {K0 : Int → Prop} (h : P_sd_CheckBox a0a a0b a0c a0d) (hK : K0 (F_sd_CheckBox_0 a0a a0b a0c a0d)) : B_sd_CheckBox a0a a0b a0c a0d K0  := by
  unfold B_sd_CheckBox P_sd_CheckBox F_sd_CheckBox_0 at *
  simp only [Ts_iff, true_and]
  try simp only [Ts_iff, true_and] at h
  repeat' first
    | exact hK
    | (refine cond_intro (fun hc => ?_) (fun hc => ?_) <;> (try simp only [hc, cond_true, cond_false] at h) <;> (try simp only [hc, cond_true, cond_false] at hK) <;> (try simp only [hc, cond_true, cond_false]))
    | (refine ⟨rfl, ?_⟩)
    | (refine ⟨trivial, ?_⟩)
    | (refine ⟨by decide, ?_⟩)
    | (refine ⟨h.1, ?_⟩; replace h := h.2)
    | (refine ⟨h, ?_⟩)
    | (refine ⟨fun _ _ => rfl, ?_⟩)
/-! ### bagatelle/solid.Grow -/
def B_sd_Grow (a0a : Int) (a0b : Int) (a0c : Int) (a0d : Int) (a1 : Int) (K0 : Int → Int → Int → Int → Prop)  : Prop := Ts 3 (((P_sd_CheckBox a0a a0b a0c a0d) ∧ Ts 1 (cond (ine (F_sd_CheckBox_0 a0a a0b a0c a0d) 0) (Ts 3 (K0 a0a a0b a0c a0d)) (Ts 35 (K0 (imax (isub .i64 a0a (imax 0 (imin a1 4194304))) (-2097152)) (imax (isub .i64 a0b (imax 0 (imin a1 4194304))) (-2097152)) (imin (iadd .i64 a0c (imax 0 (imin a1 4194304))) 2097152) (imin (iadd .i64 a0d (imax 0 (imin a1 4194304))) 2097152))))))
def P_sd_Grow (a0a : Int) (a0b : Int) (a0c : Int) (a0d : Int) (a1 : Int) : Prop := (P_sd_CheckBox a0a a0b a0c a0d)
def F_sd_Grow_0 (a0a : Int) (a0b : Int) (a0c : Int) (a0d : Int) (a1 : Int) : Int := (cond (ine (F_sd_CheckBox_0 a0a a0b a0c a0d) 0) a0a (imax (isub .i64 a0a (imax 0 (imin a1 4194304))) (-2097152)))
def F_sd_Grow_1 (a0a : Int) (a0b : Int) (a0c : Int) (a0d : Int) (a1 : Int) : Int := (cond (ine (F_sd_CheckBox_0 a0a a0b a0c a0d) 0) a0b (imax (isub .i64 a0b (imax 0 (imin a1 4194304))) (-2097152)))
def F_sd_Grow_2 (a0a : Int) (a0b : Int) (a0c : Int) (a0d : Int) (a1 : Int) : Int := (cond (ine (F_sd_CheckBox_0 a0a a0b a0c a0d) 0) a0c (imin (iadd .i64 a0c (imax 0 (imin a1 4194304))) 2097152))
def F_sd_Grow_3 (a0a : Int) (a0b : Int) (a0c : Int) (a0d : Int) (a1 : Int) : Int := (cond (ine (F_sd_CheckBox_0 a0a a0b a0c a0d) 0) a0d (imin (iadd .i64 a0d (imax 0 (imin a1 4194304))) 2097152))
theorem H_sd_Grow (a0a : Int) (a0b : Int) (a0c : Int) (a0d : Int) (a1 : Int) {K0 : Int → Int → Int → Int → Prop} (h : P_sd_Grow a0a a0b a0c a0d a1) (hK : K0 (F_sd_Grow_0 a0a a0b a0c a0d a1) (F_sd_Grow_1 a0a a0b a0c a0d a1) (F_sd_Grow_2 a0a a0b a0c a0d a1) (F_sd_Grow_3 a0a a0b a0c a0d a1)) : B_sd_Grow a0a a0b a0c a0d a1 K0  := by
  unfold B_sd_Grow P_sd_Grow F_sd_Grow_0 F_sd_Grow_1 F_sd_Grow_2 F_sd_Grow_3 at *
  simp only [Ts_iff, true_and]
  try simp only [Ts_iff, true_and] at h
  repeat' first
    | exact hK
    | (refine cond_intro (fun hc => ?_) (fun hc => ?_) <;> (try simp only [hc, cond_true, cond_false] at h) <;> (try simp only [hc, cond_true, cond_false] at hK) <;> (try simp only [hc, cond_true, cond_false]))
    | (refine ⟨rfl, ?_⟩)
    | (refine ⟨trivial, ?_⟩)
    | (refine ⟨by decide, ?_⟩)
    | (refine ⟨h.1, ?_⟩; replace h := h.2)
    | (refine ⟨h, ?_⟩)
    | (refine ⟨fun _ _ => rfl, ?_⟩)
/-! ### bagatelle/solid.cross -/
def B_sd_cross (a0a : Int) (a0b : Int) (a1a : Int) (a1b : Int) (K0 : Int → Prop)  : Prop := Ts 15 (K0 (isub .i64 (imul .i64 a0a a1b) (imul .i64 a0b a1a)))
def P_sd_cross (a0a : Int) (a0b : Int) (a1a : Int) (a1b : Int) : Prop := True
def F_sd_cross_0 (a0a : Int) (a0b : Int) (a1a : Int) (a1b : Int) : Int := (isub .i64 (imul .i64 a0a a1b) (imul .i64 a0b a1a))
theorem H_sd_cross (a0a : Int) (a0b : Int) (a1a : Int) (a1b : Int) {K0 : Int → Prop} (h : P_sd_cross a0a a0b a1a a1b) (hK : K0 (F_sd_cross_0 a0a a0b a1a a1b)) : B_sd_cross a0a a0b a1a a1b K0  := by
  unfold B_sd_cross P_sd_cross F_sd_cross_0 at *
  simp only [Ts_iff, true_and]
  try simp only [Ts_iff, true_and] at h
  repeat' first
    | exact hK
    | (refine cond_intro (fun hc => ?_) (fun hc => ?_) <;> (try simp only [hc, cond_true, cond_false] at h) <;> (try simp only [hc, cond_true, cond_false] at hK) <;> (try simp only [hc, cond_true, cond_false]))
    | (refine ⟨rfl, ?_⟩)
    | (refine ⟨trivial, ?_⟩)
    | (refine ⟨by decide, ?_⟩)
    | (refine ⟨h.1, ?_⟩; replace h := h.2)
    | (refine ⟨h, ?_⟩)
    | (refine ⟨fun _ _ => rfl, ?_⟩)
/-! ### bagatelle/solid.way -/
def B_sd_way (a0a : Int) (a0b : Int) (a1a : Int) (a1b : Int) (K0 : Int → Int → Prop)  : Prop := Ts 16 (K0 (isub .i64 a1a a0a) (isub .i64 a1b a0b))
def P_sd_way (a0a : Int) (a0b : Int) (a1a : Int) (a1b : Int) : Prop := True
def F_sd_way_0 (a0a : Int) (a0b : Int) (a1a : Int) (a1b : Int) : Int := (isub .i64 a1a a0a)
def F_sd_way_1 (a0a : Int) (a0b : Int) (a1a : Int) (a1b : Int) : Int := (isub .i64 a1b a0b)
theorem H_sd_way (a0a : Int) (a0b : Int) (a1a : Int) (a1b : Int) {K0 : Int → Int → Prop} (h : P_sd_way a0a a0b a1a a1b) (hK : K0 (F_sd_way_0 a0a a0b a1a a1b) (F_sd_way_1 a0a a0b a1a a1b)) : B_sd_way a0a a0b a1a a1b K0  := by
  unfold B_sd_way P_sd_way F_sd_way_0 F_sd_way_1 at *
  simp only [Ts_iff, true_and]
  try simp only [Ts_iff, true_and] at h
  repeat' first
    | exact hK
    | (refine cond_intro (fun hc => ?_) (fun hc => ?_) <;> (try simp only [hc, cond_true, cond_false] at h) <;> (try simp only [hc, cond_true, cond_false] at hK) <;> (try simp only [hc, cond_true, cond_false]))
    | (refine ⟨rfl, ?_⟩)
    | (refine ⟨trivial, ?_⟩)
    | (refine ⟨by decide, ?_⟩)
    | (refine ⟨h.1, ?_⟩; replace h := h.2)
    | (refine ⟨h, ?_⟩)
    | (refine ⟨fun _ _ => rfl, ?_⟩)
/-! ### bagatelle/solid.turn -/
def B_sd_turn (a0a : Int) (a0b : Int) (a1a : Int) (a1b : Int) (a2a : Int) (a2b : Int) (K0 : Int → Prop)  : Prop := Ts 6 (((P_sd_way a0a a0b a1a a1b) ∧ Ts 2 (((P_sd_way a0a a0b a2a a2b) ∧ ((P_sd_cross (F_sd_way_0 a0a a0b a1a a1b) (F_sd_way_1 a0a a0b a1a a1b) (F_sd_way_0 a0a a0b a2a a2b) (F_sd_way_1 a0a a0b a2a a2b)) ∧ Ts 1 ((true = true ∧ K0 (F_sd_cross_0 (F_sd_way_0 a0a a0b a1a a1b) (F_sd_way_1 a0a a0b a1a a1b) (F_sd_way_0 a0a a0b a2a a2b) (F_sd_way_1 a0a a0b a2a a2b)))))))))
def P_sd_turn (a0a : Int) (a0b : Int) (a1a : Int) (a1b : Int) (a2a : Int) (a2b : Int) : Prop := True
def F_sd_turn_0 (a0a : Int) (a0b : Int) (a1a : Int) (a1b : Int) (a2a : Int) (a2b : Int) : Int := (F_sd_cross_0 (F_sd_way_0 a0a a0b a1a a1b) (F_sd_way_1 a0a a0b a1a a1b) (F_sd_way_0 a0a a0b a2a a2b) (F_sd_way_1 a0a a0b a2a a2b))
theorem H_sd_turn (a0a : Int) (a0b : Int) (a1a : Int) (a1b : Int) (a2a : Int) (a2b : Int) {K0 : Int → Prop} (h : P_sd_turn a0a a0b a1a a1b a2a a2b) (hK : K0 (F_sd_turn_0 a0a a0b a1a a1b a2a a2b)) : B_sd_turn a0a a0b a1a a1b a2a a2b K0  := by
  unfold B_sd_turn P_sd_turn F_sd_turn_0 at *
  simp only [Ts_iff, true_and]
  try simp only [Ts_iff, true_and] at h
  repeat' first
    | exact hK
    | (refine cond_intro (fun hc => ?_) (fun hc => ?_) <;> (try simp only [hc, cond_true, cond_false] at h) <;> (try simp only [hc, cond_true, cond_false] at hK) <;> (try simp only [hc, cond_true, cond_false]))
    | (refine ⟨rfl, ?_⟩)
    | (refine ⟨trivial, ?_⟩)
    | (refine ⟨by decide, ?_⟩)
    | (refine ⟨h.1, ?_⟩; replace h := h.2)
    | (refine ⟨h, ?_⟩)
    | (refine ⟨fun _ _ => rfl, ?_⟩)
/-! ### bagatelle/solid.Side -/
def B_sd_Side (a0a : Int) (a0b : Int) (a1a : Int) (a1b : Int) (a2a : Int) (a2b : Int) (K0 : Int → Prop)  : Prop := Ts 9 (((P_sd_fair 3 (appF 1 (fun _ => a0a) (pushF 1 (fun _ => a1a) a2a)) (appF 1 (fun _ => a0b) (pushF 1 (fun _ => a1b) a2b))) ∧ cond (F_sd_fair_0 3 (appF 1 (fun _ => a0a) (pushF 1 (fun _ => a1a) a2a)) (appF 1 (fun _ => a0b) (pushF 1 (fun _ => a1b) a2b))) (Ts 3 (((P_sd_turn a0a a0b a1a a1b a2a a2b) ∧ Ts 4 (cond (igt (F_sd_turn_0 a0a a0b a1a a1b a2a a2b) 0) (Ts 1 (K0 1)) (Ts 3 (cond (ilt (F_sd_turn_0 a0a a0b a1a a1b a2a a2b) 0) (Ts 1 (K0 (-1))) (Ts 1 (K0 0)))))))) (Ts 3 (cond (igt 0 0) (Ts 1 (K0 1)) (Ts 3 (cond (ilt 0 0) (Ts 1 (K0 (-1))) (Ts 1 (K0 0))))))))
def P_sd_Side (a0a : Int) (a0b : Int) (a1a : Int) (a1b : Int) (a2a : Int) (a2b : Int) : Prop := (P_sd_fair 3 (appF 1 (fun _ => a0a) (pushF 1 (fun _ => a1a) a2a)) (appF 1 (fun _ => a0b) (pushF 1 (fun _ => a1b) a2b)))
def F_sd_Side_0 (a0a : Int) (a0b : Int) (a1a : Int) (a1b : Int) (a2a : Int) (a2b : Int) : Int := (cond (F_sd_fair_0 3 (appF 1 (fun _ => a0a) (pushF 1 (fun _ => a1a) a2a)) (appF 1 (fun _ => a0b) (pushF 1 (fun _ => a1b) a2b))) (cond (igt (F_sd_turn_0 a0a a0b a1a a1b a2a a2b) 0) 1 (cond (ilt (F_sd_turn_0 a0a a0b a1a a1b a2a a2b) 0) (-1) 0)) (cond (igt 0 0) 1 (cond (ilt 0 0) (-1) 0)))
theorem H_sd_Side (a0a : Int) (a0b : Int) (a1a : Int) (a1b : Int) (a2a : Int) (a2b : Int) {K0 : Int → Prop} (h : P_sd_Side a0a a0b a1a a1b a2a a2b) (hK : K0 (F_sd_Side_0 a0a a0b a1a a1b a2a a2b)) : B_sd_Side a0a a0b a1a a1b a2a a2b K0  := by
  unfold B_sd_Side P_sd_Side F_sd_Side_0 at *
  simp only [Ts_iff, true_and]
  try simp only [Ts_iff, true_and] at h
  repeat' first
    | exact hK
    | (refine cond_intro (fun hc => ?_) (fun hc => ?_) <;> (try simp only [hc, cond_true, cond_false] at h) <;> (try simp only [hc, cond_true, cond_false] at hK) <;> (try simp only [hc, cond_true, cond_false]))
    | (refine ⟨rfl, ?_⟩)
    | (refine ⟨trivial, ?_⟩)
    | (refine ⟨by decide, ?_⟩)
    | (refine ⟨h.1, ?_⟩; replace h := h.2)
    | (refine ⟨h, ?_⟩)
    | (refine ⟨fun _ _ => rfl, ?_⟩)
/-! ### bagatelle/bagatellelaw03.awake -/
def B_lw_awake  (K0 : Bool → Prop)  : Prop := Ts 4 (((P_sd_Side 0 0 1 0 0 1) ∧ Ts 2 (cond (ieq (F_sd_Side_0 0 0 1 0 0 1) 1) (Ts 1 (((P_sd_Grow 0 0 1 1 2) ∧ Ts 4 (K0 ((ieq (F_sd_Grow_0 0 0 1 1 2) (-2)) && ((ieq (F_sd_Grow_1 0 0 1 1 2) (-2)) && ((ieq (F_sd_Grow_2 0 0 1 1 2) 3) && (ieq (F_sd_Grow_3 0 0 1 1 2) 3)))))))) (Ts 2 (K0 false)))))
def P_lw_awake  : Prop := ((P_sd_Side 0 0 1 0 0 1) ∧ (cond (ieq (F_sd_Side_0 0 0 1 0 0 1) 1) (P_sd_Grow 0 0 1 1 2) True))
def F_lw_awake_0  : Bool := (cond (ieq (F_sd_Side_0 0 0 1 0 0 1) 1) ((ieq (F_sd_Grow_0 0 0 1 1 2) (-2)) && ((ieq (F_sd_Grow_1 0 0 1 1 2) (-2)) && ((ieq (F_sd_Grow_2 0 0 1 1 2) 3) && (ieq (F_sd_Grow_3 0 0 1 1 2) 3)))) false)
theorem H_lw_awake  {K0 : Bool → Prop} (h : P_lw_awake ) (hK : K0 F_lw_awake_0) : B_lw_awake  K0  := by
  unfold B_lw_awake P_lw_awake F_lw_awake_0 at *
  simp only [Ts_iff, true_and]
  try simp only [Ts_iff, true_and] at h
  repeat' first
    | exact hK
    | (refine cond_intro (fun hc => ?_) (fun hc => ?_) <;> (try simp only [hc, cond_true, cond_false] at h) <;> (try simp only [hc, cond_true, cond_false] at hK) <;> (try simp only [hc, cond_true, cond_false]))
    | (refine ⟨rfl, ?_⟩)
    | (refine ⟨trivial, ?_⟩)
    | (refine ⟨by decide, ?_⟩)
    | (refine ⟨h.1, ?_⟩; replace h := h.2)
    | (refine ⟨h, ?_⟩)
    | (refine ⟨fun _ _ => rfl, ?_⟩)
/-! ### Boxes in plain words -/
theorem fair2 (a b c d : Int) : F_sd_fair_0 2 (pushF 1 (fun _ => a) c) (pushF 1 (fun _ => b) d) = (spotOK a b && spotOK c d) := by
  unfold F_sd_fair_0 spotsOK
  rw [show List.range 2 = [0, 1] from rfl]
  simp only [List.all_cons, List.all_nil, Bool.and_true]
  rfl
theorem fairP2 {a b c d : Int} (h1 : I64 a) (h2 : I64 b) (h3 : I64 c) (h4 : I64 d) : P_sd_fair 2 (pushF 1 (fun _ => a) c) (pushF 1 (fun _ => b) d) := by
  refine ⟨by omega, fun k hk => ?_⟩
  have : k = 0 ∨ k = 1 := by omega
  rcases this with rfl | rfl
  · exact ⟨h1, h2⟩
  · exact ⟨h3, h4⟩
theorem fair3 (a b c d e f : Int) : F_sd_fair_0 3 (appF 1 (fun _ => a) (pushF 1 (fun _ => c) e)) (appF 1 (fun _ => b) (pushF 1 (fun _ => d) f)) = (spotOK a b && spotOK c d && spotOK e f) := by
  unfold F_sd_fair_0 spotsOK
  rw [show List.range 3 = [0, 1, 2] from rfl]
  simp only [List.all_cons, List.all_nil, Bool.and_true]
  rw [Bool.and_assoc]
  rfl
theorem fairP3 {a b c d e f : Int} (h1 : I64 a) (h2 : I64 b) (h3 : I64 c) (h4 : I64 d) (h5 : I64 e) (h6 : I64 f) : P_sd_fair 3 (appF 1 (fun _ => a) (pushF 1 (fun _ => c) e)) (appF 1 (fun _ => b) (pushF 1 (fun _ => d) f)) := by
  refine ⟨by omega, fun k hk => ?_⟩
  have : k = 0 ∨ k = 1 ∨ k = 2 := by omega
  rcases this with rfl | rfl | rfl
  · exact ⟨h1, h2⟩
  · exact ⟨h3, h4⟩
  · exact ⟨h5, h6⟩
theorem cond_tt {b x y : Bool} : (cond b x y = true) ↔ ((b = true ∧ x = true) ∨ (b = false ∧ y = true)) := by cases b <;> simp
def boxIn (a b c d : Int) : Prop := (-2097152 ≤ a ∧ a ≤ 2097152 ∧ -2097152 ≤ b ∧ b ≤ 2097152) ∧ (-2097152 ≤ c ∧ c ≤ 2097152 ∧ -2097152 ≤ d ∧ d ≤ 2097152)
instance (a b c d : Int) : Decidable (boxIn a b c d) := by unfold boxIn; infer_instance
theorem checkP {a b c d : Int} (h1 : I64 a) (h2 : I64 b) (h3 : I64 c) (h4 : I64 d) : P_sd_CheckBox a b c d := fairP2 h1 h2 h3 h4
theorem check_sd (a b c d : Int) : (F_sd_CheckBox_0 a b c d = 3 ∧ ¬ boxIn a b c d) ∨ (F_sd_CheckBox_0 a b c d = 5 ∧ boxIn a b c d ∧ (c < a ∨ d < b)) ∨ (F_sd_CheckBox_0 a b c d = 0 ∧ boxIn a b c d ∧ a ≤ c ∧ b ≤ d) := by
  unfold F_sd_CheckBox_0 boxIn
  rw [fair2]
  cases h : (spotOK a b && spotOK c d) with
  | false =>
    left
    refine ⟨rfl, fun ⟨h1, h2⟩ => ?_⟩
    rw [spotOK_iff.2 h1, spotOK_iff.2 h2] at h
    cases h
  | true =>
    right
    rw [Bool.and_eq_true, spotOK_iff, spotOK_iff] at h
    cases h1 : igt a c with
    | true => rw [igt_t] at h1; exact .inl ⟨rfl, h, .inl h1⟩
    | false =>
      rw [igt_f] at h1
      cases h2 : igt b d with
      | true => rw [igt_t] at h2; exact .inl ⟨rfl, h, .inr h2⟩
      | false => rw [igt_f] at h2; exact .inr ⟨rfl, h, h1, h2⟩
theorem check_0 (a b c d : Int) : F_sd_CheckBox_0 a b c d = 0 ↔ (boxIn a b c d ∧ a ≤ c ∧ b ≤ d) := by
  rcases check_sd a b c d with ⟨h1, h2⟩ | ⟨h1, h2, h3⟩ | ⟨h1, h2, h3⟩ <;> rw [h1]
  · exact ⟨fun h => by omega, fun h => absurd h.1 h2⟩
  · exact ⟨fun h => by omega, fun h => by omega⟩
  · exact ⟨fun _ => ⟨h2, h3⟩, fun _ => rfl⟩
theorem grow_sd (a b c d r : Int) : (F_sd_Grow_0 a b c d r, F_sd_Grow_1 a b c d r, F_sd_Grow_2 a b c d r, F_sd_Grow_3 a b c d r) =
    if boxIn a b c d ∧ a ≤ c ∧ b ≤ d then (max (a - max 0 (min r 4194304)) (-2097152), max (b - max 0 (min r 4194304)) (-2097152), min (c + max 0 (min r 4194304)) 2097152, min (d + max 0 (min r 4194304)) 2097152) else (a, b, c, d) := by
  unfold F_sd_Grow_0 F_sd_Grow_1 F_sd_Grow_2 F_sd_Grow_3
  cases h : ine (F_sd_CheckBox_0 a b c d) 0 with
  | true => rw [ine_t, check_0] at h; rw [if_neg h]; rfl
  | false =>
    rw [ine_f, check_0] at h
    rw [if_pos h]
    unfold boxIn at h
    simp only [cond_false, imax_m, imin_m]
    rw [isub64 (by omega) (by omega), isub64 (by omega) (by omega), iadd64 (by omega) (by omega), iadd64 (by omega) (by omega)]
theorem i64_small {x : Int} (h1 : -2305843009213693952 ≤ x) (h2 : x ≤ 2305843009213693952) : I64 x := by unfold I64; omega
theorem side_pos : F_sd_Side_0 0 0 1 0 0 1 = 1 := by
  unfold F_sd_Side_0
  rw [fair3]
  have h1 : spotOK 0 0 = true := by rw [spotOK_iff]; omega
  have h2 : spotOK 1 0 = true := by rw [spotOK_iff]; omega
  have h3 : spotOK 0 1 = true := by rw [spotOK_iff]; omega
  rw [h1, h2, h3]
  unfold F_sd_turn_0 F_sd_cross_0 F_sd_way_0 F_sd_way_1
  have h : igt (isub .i64 (imul .i64 (isub .i64 1 0) (isub .i64 1 0)) (imul .i64 (isub .i64 0 0) (isub .i64 0 0))) 0 = true := by
    have e0 : isub .i64 0 0 = 0 := by rw [isub64] <;> omega
    have e1 : isub .i64 1 0 = 1 := by rw [isub64] <;> omega
    have e2 : imul .i64 0 0 = 0 := by rw [imul64] <;> omega
    have e3 : imul .i64 1 1 = 1 := by rw [imul64] <;> omega
    rw [e0, e1, e2, e3, e1, igt_t]
    omega
  rw [h]
  rfl
theorem awakeP : P_lw_awake := by
  refine ⟨fairP3 ?_ ?_ ?_ ?_ ?_ ?_, cond_intro (fun _ => checkP ?_ ?_ ?_ ?_) (fun _ => trivial)⟩ <;> exact i64_small (by omega) (by omega)
theorem awake_true : F_lw_awake_0 = true := by
  unfold F_lw_awake_0
  rw [side_pos]
  have h := grow_sd 0 0 1 1 2
  rw [if_pos (by unfold boxIn; omega)] at h
  simp only [Prod.mk.injEq] at h
  obtain ⟨h1, h2, h3, h4⟩ := h
  rw [h1, h2, h3, h4]
  simp only [Bool.cond_eq_ite, ieq_t, if_true, Bool.and_eq_true]
  omega
/-! ### bagatelle/bagatellekit.Spots -/
def B_kt_Spots_0 (a0n : Nat) (a0a : Nat → Int) (a0b : Nat → Int) (v0t3q : Bool) (v0t4 : Int) (v0b0n : Nat) (v0b0c0 : (Nat → Int)) (v0b0c1 : (Nat → Int)) (c : Bool → Int → Nat → (Nat → Int) → (Nat → Int) → Prop) (x0 : Bool → Int → Nat → (Nat → Int) → (Nat → Int) → Prop)  : Prop := Ts 4 (cond (ilt v0t4 ((a0n : Nat) : Int)) (Ts 3 (((0 ≤ v0t4 ∧ v0t4 < ((a0n : Nat) : Int)) ∧ Ts 2 ((((v0b0n + 1) * 16 ≤ 1000000000000 ∧ (v0b0n + 1) ≤ 1000000000000) ∧ Ts 4 (c false (iadd .i64 v0t4 1) (v0b0n + 1) (pushF v0b0n v0b0c0 (a0a (Int.toNat v0t4))) (pushF v0b0n v0b0c1 (a0b (Int.toNat v0t4))))))))) (x0 v0t3q v0t4 v0b0n v0b0c0 v0b0c1))
def W_kt_Spots_0 (a0n : Nat) (a0a : Nat → Int) (a0b : Nat → Int) : Nat → Bool → Int → Nat → (Nat → Int) → (Nat → Int) → (Bool → Int → Nat → (Nat → Int) → (Nat → Int) → Prop) → Prop
  | 0, _, _, _, _, _, _ => False
  | f + 1, w0, w1, w2, w3, w4, x0 => B_kt_Spots_0 a0n a0a a0b w0 w1 w2 w3 w4 (fun u0 u1 u2 u3 u4 => W_kt_Spots_0 a0n a0a a0b f u0 u1 u2 u3 u4 x0) x0 
theorem BM_kt_Spots_0 (a0n : Nat) (a0a : Nat → Int) (a0b : Nat → Int) (v0t3q : Bool) (v0t4 : Int) (v0b0n : Nat) (v0b0c0 : (Nat → Int)) (v0b0c1 : (Nat → Int)) {c c' : Bool → Int → Nat → (Nat → Int) → (Nat → Int) → Prop} {x0 y0 : Bool → Int → Nat → (Nat → Int) → (Nat → Int) → Prop} (hc : ∀ w0 w1 w2 w3 w4, c w0 w1 w2 w3 w4 → c' w0 w1 w2 w3 w4) (h0 : ∀ o0 o1 o2 o3 o4, x0 o0 o1 o2 o3 o4 → y0 o0 o1 o2 o3 o4) : B_kt_Spots_0 a0n a0a a0b v0t3q v0t4 v0b0n v0b0c0 v0b0c1 c x0  → B_kt_Spots_0 a0n a0a a0b v0t3q v0t4 v0b0n v0b0c0 v0b0c1 c' y0  := by
  unfold B_kt_Spots_0
  repeat' first
    | exact hc _ _ _ _ _
    | exact h0 _ _ _ _ _
    | refine Ts_imp ?_
    | refine cond_imp ?_ ?_
    | refine and_imp' ?_
theorem WM_kt_Spots_0 (a0n : Nat) (a0a : Nat → Int) (a0b : Nat → Int) {x0 y0 : Bool → Int → Nat → (Nat → Int) → (Nat → Int) → Prop} (h0 : ∀ o0 o1 o2 o3 o4, x0 o0 o1 o2 o3 o4 → y0 o0 o1 o2 o3 o4) : ∀ (f : Nat) (v0t3q : Bool) (v0t4 : Int) (v0b0n : Nat) (v0b0c0 : (Nat → Int)) (v0b0c1 : (Nat → Int)), W_kt_Spots_0 a0n a0a a0b f v0t3q v0t4 v0b0n v0b0c0 v0b0c1 x0 → W_kt_Spots_0 a0n a0a a0b f v0t3q v0t4 v0b0n v0b0c0 v0b0c1 y0
  | 0, w0, w1, w2, w3, w4 => fun h => h
  | f + 1, w0, w1, w2, w3, w4 => BM_kt_Spots_0 a0n a0a a0b w0 w1 w2 w3 w4 (fun u0 u1 u2 u3 u4 => WM_kt_Spots_0 a0n a0a a0b h0 f u0 u1 u2 u3 u4) h0
def B_kt_Spots (a0n : Nat) (a0a : Nat → Int) (a0b : Nat → Int) (K0 : Nat → (Nat → Int) → (Nat → Int) → Prop) (l0 : Bool → Int → Nat → (Nat → Int) → (Nat → Int) → (Bool → Int → Nat → (Nat → Int) → (Nat → Int) → Prop) → Prop) : Prop := Ts 3 ((l0 true 0 0 (fun _ => 0) (fun _ => 0) (fun o0t3q o0t4 o0b0n o0b0c0 o0b0c1 => Ts 2 (K0 o0b0n o0b0c0 o0b0c1))))
def copyF (f : Nat → Int) : Nat → (Nat → Int)
  | 0 => fun _ => 0
  | k + 1 => pushF k (copyF f k) (f k)
theorem pushF_lt' {n k : Nat} (f : Nat → Int) (x : Int) (h : k < n) : pushF n f x k = f k := by
  unfold pushF
  rw [show Nat.blt k n = true by rw [Nat.blt_eq]; exact h]
  rfl
theorem pushF_at' (n : Nat) (f : Nat → Int) (x : Int) : pushF n f x n = x := by
  unfold pushF
  rw [show Nat.blt n n = false by cases h : Nat.blt n n with | false => rfl | true => (rw [Nat.blt_eq] at h; omega)]
  rfl
theorem copyF_lt (f : Nat → Int) : ∀ (n k : Nat), k < n → copyF f n k = f k
  | 0, k, h => by omega
  | n + 1, k, h => by
    unfold copyF
    by_cases hk : k = n
    · subst hk; exact pushF_at' _ _ _
    · rw [pushF_lt' _ _ (by omega)]; exact copyF_lt f n k (by omega)
def P_kt_Spots (a0n : Nat) (a0a : Nat → Int) (a0b : Nat → Int) : Prop := a0n ≤ 1000000
def F_kt_Spots_0 (a0n : Nat) (a0a : Nat → Int) (a0b : Nat → Int) : Nat := a0n
def F_kt_Spots_1 (a0n : Nat) (a0a : Nat → Int) (a0b : Nat → Int) : (Nat → Int) := copyF a0a a0n
def F_kt_Spots_2 (a0n : Nat) (a0a : Nat → Int) (a0b : Nat → Int) : (Nat → Int) := copyF a0b a0n
theorem W_kt_Spots_ok {n : Nat} {a b : Nat → Int} (hn : n ≤ 1000000) {x0 : Bool → Int → Nat → (Nat → Int) → (Nat → Int) → Prop} (hx : ∀ q v, x0 q v n (copyF a n) (copyF b n)) : ∀ (f i : Nat) (q : Bool), i ≤ n → n < f + i → W_kt_Spots_0 n a b f q i i (copyF a i) (copyF b i) x0
  | 0, i, q, h1, h2 => by omega
  | f + 1, i, q, h1, h2 => by
    show B_kt_Spots_0 n a b q i i (copyF a i) (copyF b i) _ _
    unfold B_kt_Spots_0
    simp only [Ts_iff, true_and, Int.toNat_natCast, Nat.zero_add]
    refine cond_intro (fun hc => ?_) (fun hc => ?_)
    · rw [ilt_t] at hc
      rw [iadd64 (by omega) (by omega)]
      exact ⟨⟨by omega, hc⟩, ⟨by omega, by omega⟩, W_kt_Spots_ok hn hx f (i + 1) _ (by omega) (by omega)⟩
    · rw [ilt_f] at hc
      have : i = n := by omega
      subst this
      exact hx _ _
theorem H_kt_Spots (a0n : Nat) (a0a : Nat → Int) (a0b : Nat → Int) {K0 : Nat → (Nat → Int) → (Nat → Int) → Prop} (h : P_kt_Spots a0n a0a a0b) (hK : K0 (F_kt_Spots_0 a0n a0a a0b) (F_kt_Spots_1 a0n a0a a0b) (F_kt_Spots_2 a0n a0a a0b)) : B_kt_Spots a0n a0a a0b K0 (W_kt_Spots_0 a0n a0a a0b fuel) := by
  unfold B_kt_Spots
  simp only [Ts_iff, true_and]
  have h : a0n ≤ 1000000 := h
  exact W_kt_Spots_ok h (fun q v => hK) fuel 0 true (Nat.zero_le _) (by rw [fuel_eq]; omega)
/-! ### bagatelle/bagatelleref03.valid -/
def B_r3_valid (a0a : Int) (a0b : Int) (K0 : Bool → Prop)  : Prop := Ts 6 (cond (ige a0a (-2097152)) (Ts 5 (cond (ile a0a 2097152) (Ts 5 (cond (ige a0b (-2097152)) (Ts 5 (K0 (ile a0b 2097152))) (Ts 2 (K0 false)))) (Ts 4 (K0 false)))) (Ts 6 (K0 false)))
def P_r3_valid (a0a : Int) (a0b : Int) : Prop := True
def F_r3_valid_0 (a0a : Int) (a0b : Int) : Bool := (cond (ige a0a (-2097152)) (cond (ile a0a 2097152) (cond (ige a0b (-2097152)) (ile a0b 2097152) false) false) false)
theorem H_r3_valid (a0a : Int) (a0b : Int) {K0 : Bool → Prop} (h : P_r3_valid a0a a0b) (hK : K0 (F_r3_valid_0 a0a a0b)) : B_r3_valid a0a a0b K0  := by
  unfold B_r3_valid P_r3_valid F_r3_valid_0 at *
  simp only [Ts_iff, true_and]
  try simp only [Ts_iff, true_and] at h
  repeat' first
    | exact hK
    | (refine cond_intro (fun hc => ?_) (fun hc => ?_) <;> (try simp only [hc, cond_true, cond_false] at h) <;> (try simp only [hc, cond_true, cond_false] at hK) <;> (try simp only [hc, cond_true, cond_false]))
    | (refine ⟨rfl, ?_⟩)
    | (refine ⟨trivial, ?_⟩)
    | (refine ⟨by decide, ?_⟩)
    | (refine ⟨h.1, ?_⟩; replace h := h.2)
    | (refine ⟨h, ?_⟩)
    | (refine ⟨fun _ _ => rfl, ?_⟩)
/-! ### bagatelle/bagatelleref03.cross -/
def B_r3_cross (a0a : Int) (a0b : Int) (a1a : Int) (a1b : Int) (K0 : Int → Prop)  : Prop := Ts 15 (K0 (isub .i64 (imul .i64 a0a a1b) (imul .i64 a0b a1a)))
def P_r3_cross (a0a : Int) (a0b : Int) (a1a : Int) (a1b : Int) : Prop := True
def F_r3_cross_0 (a0a : Int) (a0b : Int) (a1a : Int) (a1b : Int) : Int := (isub .i64 (imul .i64 a0a a1b) (imul .i64 a0b a1a))
theorem H_r3_cross (a0a : Int) (a0b : Int) (a1a : Int) (a1b : Int) {K0 : Int → Prop} (h : P_r3_cross a0a a0b a1a a1b) (hK : K0 (F_r3_cross_0 a0a a0b a1a a1b)) : B_r3_cross a0a a0b a1a a1b K0  := by
  unfold B_r3_cross P_r3_cross F_r3_cross_0 at *
  simp only [Ts_iff, true_and]
  try simp only [Ts_iff, true_and] at h
  repeat' first
    | exact hK
    | (refine cond_intro (fun hc => ?_) (fun hc => ?_) <;> (try simp only [hc, cond_true, cond_false] at h) <;> (try simp only [hc, cond_true, cond_false] at hK) <;> (try simp only [hc, cond_true, cond_false]))
    | (refine ⟨rfl, ?_⟩)
    | (refine ⟨trivial, ?_⟩)
    | (refine ⟨by decide, ?_⟩)
    | (refine ⟨h.1, ?_⟩; replace h := h.2)
    | (refine ⟨h, ?_⟩)
    | (refine ⟨fun _ _ => rfl, ?_⟩)
/-! ### bagatelle/bagatelleref03.minus -/
def B_r3_minus (a0a : Int) (a0b : Int) (a1a : Int) (a1b : Int) (K0 : Int → Int → Prop)  : Prop := Ts 16 (K0 (isub .i64 a0a a1a) (isub .i64 a0b a1b))
def P_r3_minus (a0a : Int) (a0b : Int) (a1a : Int) (a1b : Int) : Prop := True
def F_r3_minus_0 (a0a : Int) (a0b : Int) (a1a : Int) (a1b : Int) : Int := (isub .i64 a0a a1a)
def F_r3_minus_1 (a0a : Int) (a0b : Int) (a1a : Int) (a1b : Int) : Int := (isub .i64 a0b a1b)
theorem H_r3_minus (a0a : Int) (a0b : Int) (a1a : Int) (a1b : Int) {K0 : Int → Int → Prop} (h : P_r3_minus a0a a0b a1a a1b) (hK : K0 (F_r3_minus_0 a0a a0b a1a a1b) (F_r3_minus_1 a0a a0b a1a a1b)) : B_r3_minus a0a a0b a1a a1b K0  := by
  unfold B_r3_minus P_r3_minus F_r3_minus_0 F_r3_minus_1 at *
  simp only [Ts_iff, true_and]
  try simp only [Ts_iff, true_and] at h
  repeat' first
    | exact hK
    | (refine cond_intro (fun hc => ?_) (fun hc => ?_) <;> (try simp only [hc, cond_true, cond_false] at h) <;> (try simp only [hc, cond_true, cond_false] at hK) <;> (try simp only [hc, cond_true, cond_false]))
    | (refine ⟨rfl, ?_⟩)
    | (refine ⟨trivial, ?_⟩)
    | (refine ⟨by decide, ?_⟩)
    | (refine ⟨h.1, ?_⟩; replace h := h.2)
    | (refine ⟨h, ?_⟩)
    | (refine ⟨fun _ _ => rfl, ?_⟩)
/-! ### bagatelle/bagatelleref03.Side -/
def B_r3_Side (a0a : Int) (a0b : Int) (a1a : Int) (a1b : Int) (a2a : Int) (a2b : Int) (K0 : Int → Prop)  : Prop := Ts 5 (((P_r3_valid a0a a0b) ∧ Ts 2 (cond (!(F_r3_valid_0 a0a a0b)) (Ts 4 (K0 0)) (Ts 1 (((P_r3_valid a1a a1b) ∧ Ts 3 (cond (!(F_r3_valid_0 a1a a1b)) (Ts 2 (K0 0)) (Ts 1 (((P_r3_valid a2a a2b) ∧ Ts 2 (cond (!(F_r3_valid_0 a2a a2b)) (Ts 1 (K0 0)) (Ts 2 (((P_r3_minus a1a a1b a0a a0b) ∧ Ts 2 (((P_r3_minus a2a a2b a0a a0b) ∧ ((P_r3_cross (F_r3_minus_0 a1a a1b a0a a0b) (F_r3_minus_1 a1a a1b a0a a0b) (F_r3_minus_0 a2a a2b a0a a0b) (F_r3_minus_1 a2a a2b a0a a0b)) ∧ Ts 1 ((true = true ∧ Ts 2 (cond (igt (F_r3_cross_0 (F_r3_minus_0 a1a a1b a0a a0b) (F_r3_minus_1 a1a a1b a0a a0b) (F_r3_minus_0 a2a a2b a0a a0b) (F_r3_minus_1 a2a a2b a0a a0b)) 0) (Ts 1 (K0 1)) (Ts 2 (cond (ilt (F_r3_cross_0 (F_r3_minus_0 a1a a1b a0a a0b) (F_r3_minus_1 a1a a1b a0a a0b) (F_r3_minus_0 a2a a2b a0a a0b) (F_r3_minus_1 a2a a2b a0a a0b)) 0) (Ts 1 (K0 (-1))) (Ts 1 (K0 0))))))))))))))))))))))))
def P_r3_Side (a0a : Int) (a0b : Int) (a1a : Int) (a1b : Int) (a2a : Int) (a2b : Int) : Prop := True
def F_r3_Side_0 (a0a : Int) (a0b : Int) (a1a : Int) (a1b : Int) (a2a : Int) (a2b : Int) : Int := (cond (!(F_r3_valid_0 a0a a0b)) 0 (cond (!(F_r3_valid_0 a1a a1b)) 0 (cond (!(F_r3_valid_0 a2a a2b)) 0 (cond (igt (F_r3_cross_0 (F_r3_minus_0 a1a a1b a0a a0b) (F_r3_minus_1 a1a a1b a0a a0b) (F_r3_minus_0 a2a a2b a0a a0b) (F_r3_minus_1 a2a a2b a0a a0b)) 0) 1 (cond (ilt (F_r3_cross_0 (F_r3_minus_0 a1a a1b a0a a0b) (F_r3_minus_1 a1a a1b a0a a0b) (F_r3_minus_0 a2a a2b a0a a0b) (F_r3_minus_1 a2a a2b a0a a0b)) 0) (-1) 0)))))
theorem H_r3_Side (a0a : Int) (a0b : Int) (a1a : Int) (a1b : Int) (a2a : Int) (a2b : Int) {K0 : Int → Prop} (h : P_r3_Side a0a a0b a1a a1b a2a a2b) (hK : K0 (F_r3_Side_0 a0a a0b a1a a1b a2a a2b)) : B_r3_Side a0a a0b a1a a1b a2a a2b K0  := by
  unfold B_r3_Side P_r3_Side F_r3_Side_0 at *
  simp only [Ts_iff, true_and]
  try simp only [Ts_iff, true_and] at h
  repeat' first
    | exact hK
    | (refine cond_intro (fun hc => ?_) (fun hc => ?_) <;> (try simp only [hc, cond_true, cond_false] at h) <;> (try simp only [hc, cond_true, cond_false] at hK) <;> (try simp only [hc, cond_true, cond_false]))
    | (refine ⟨rfl, ?_⟩)
    | (refine ⟨trivial, ?_⟩)
    | (refine ⟨by decide, ?_⟩)
    | (refine ⟨h.1, ?_⟩; replace h := h.2)
    | (refine ⟨h, ?_⟩)
    | (refine ⟨fun _ _ => rfl, ?_⟩)
/-! ### (bagatelle/solid.polygon).edges -/
def B_sd_polygon_edges (a0an : Nat) (a0aa : Nat → Int) (a0ab : Nat → Int) (K0 : Nat → (Nat → Int) → (Nat → Int) → Prop)  : Prop := Ts 4 (K0 a0an a0aa a0ab)
def P_sd_polygon_edges (a0an : Nat) (a0aa : Nat → Int) (a0ab : Nat → Int) : Prop := True
def F_sd_polygon_edges_0 (a0an : Nat) (a0aa : Nat → Int) (a0ab : Nat → Int) : Nat := a0an
def F_sd_polygon_edges_1 (a0an : Nat) (a0aa : Nat → Int) (a0ab : Nat → Int) : (Nat → Int) := a0aa
def F_sd_polygon_edges_2 (a0an : Nat) (a0aa : Nat → Int) (a0ab : Nat → Int) : (Nat → Int) := a0ab
theorem H_sd_polygon_edges (a0an : Nat) (a0aa : Nat → Int) (a0ab : Nat → Int) {K0 : Nat → (Nat → Int) → (Nat → Int) → Prop} (h : P_sd_polygon_edges a0an a0aa a0ab) (hK : K0 (F_sd_polygon_edges_0 a0an a0aa a0ab) (F_sd_polygon_edges_1 a0an a0aa a0ab) (F_sd_polygon_edges_2 a0an a0aa a0ab)) : B_sd_polygon_edges a0an a0aa a0ab K0  := by
  unfold B_sd_polygon_edges P_sd_polygon_edges F_sd_polygon_edges_0 F_sd_polygon_edges_1 F_sd_polygon_edges_2 at *
  simp only [Ts_iff, true_and]
  try simp only [Ts_iff, true_and] at h
  repeat' first
    | exact hK
    | (refine cond_intro (fun hc => ?_) (fun hc => ?_) <;> (try simp only [hc, cond_true, cond_false] at h) <;> (try simp only [hc, cond_true, cond_false] at hK) <;> (try simp only [hc, cond_true, cond_false]))
    | (refine ⟨rfl, ?_⟩)
    | (refine ⟨trivial, ?_⟩)
    | (refine ⟨by decide, ?_⟩)
    | (refine ⟨h.1, ?_⟩; replace h := h.2)
    | (refine ⟨h, ?_⟩)
    | (refine ⟨fun _ _ => rfl, ?_⟩)
/-! ### bagatelle/solid.Convex -/
def B_sd_Convex_0_0 (a0n : Nat) (a0a : Nat → Int) (a0b : Nat → Int) (j0 : Nat) (v0m20 : Int) (v00t23 : Int) (c : Int → Prop) (x0 : Int → Prop) (x1 : Int → Prop)  : Prop := Ts 1 (cond (ilt v00t23 ((a0n : Nat) : Int)) (Ts 1 (((0 ≤ v00t23 ∧ v00t23 < ((a0n : Nat) : Int)) ∧ Ts 8 (cond (ine v00t23 v0m20) (Ts 5 (((((a0n : Nat) : Int) ≠ 0) ∧ Ts 3 (cond (ine v00t23 (irem .i64 (iadd .i64 v0m20 1) ((a0n : Nat) : Int))) (Ts 3 (((P_sd_turn ((F_sd_polygon_edges_1 a0n a0a a0b) j0) ((F_sd_polygon_edges_2 a0n a0a a0b) j0) ((F_sd_polygon_edges_1 a0n a0a a0b) (nxE (F_sd_polygon_edges_0 a0n a0a a0b) j0)) ((F_sd_polygon_edges_2 a0n a0a a0b) (nxE (F_sd_polygon_edges_0 a0n a0a a0b) j0)) (a0a (Int.toNat v00t23)) (a0b (Int.toNat v00t23))) ∧ Ts 2 (cond (ile (F_sd_turn_0 ((F_sd_polygon_edges_1 a0n a0a a0b) j0) ((F_sd_polygon_edges_2 a0n a0a a0b) j0) ((F_sd_polygon_edges_1 a0n a0a a0b) (nxE (F_sd_polygon_edges_0 a0n a0a a0b) j0)) ((F_sd_polygon_edges_2 a0n a0a a0b) (nxE (F_sd_polygon_edges_0 a0n a0a a0b) j0)) (a0a (Int.toNat v00t23)) (a0b (Int.toNat v00t23))) 0) (Ts 1 (x1 v00t23)) (Ts 2 (c (iadd .i64 v00t23 1))))))) (Ts 3 (c (iadd .i64 v00t23 1))))))) (Ts 5 (c (iadd .i64 v00t23 1))))))) (x0 v00t23))
def W_sd_Convex_0_0 (a0n : Nat) (a0a : Nat → Int) (a0b : Nat → Int) (j0 : Nat) (v0m20 : Int) : Nat → Int → (Int → Prop) → (Int → Prop) → Prop
  | 0, _, _, _ => False
  | f + 1, w0, x0, x1 => B_sd_Convex_0_0 a0n a0a a0b j0 v0m20 w0 (fun u0 => W_sd_Convex_0_0 a0n a0a a0b j0 v0m20 f u0 x0 x1) x0 x1 
theorem BM_sd_Convex_0_0 (a0n : Nat) (a0a : Nat → Int) (a0b : Nat → Int) (j0 : Nat) (v0m20 : Int) (v00t23 : Int) {c c' : Int → Prop} {x0 y0 : Int → Prop} {x1 y1 : Int → Prop} (hc : ∀ w0, c w0 → c' w0) (h0 : ∀ o0, x0 o0 → y0 o0) (h1 : ∀ o0, x1 o0 → y1 o0) : B_sd_Convex_0_0 a0n a0a a0b j0 v0m20 v00t23 c x0 x1  → B_sd_Convex_0_0 a0n a0a a0b j0 v0m20 v00t23 c' y0 y1  := by
  unfold B_sd_Convex_0_0
  repeat' first
    | exact hc _
    | exact h0 _
    | exact h1 _
    | refine Ts_imp ?_
    | refine cond_imp ?_ ?_
    | refine and_imp' ?_
theorem WM_sd_Convex_0_0 (a0n : Nat) (a0a : Nat → Int) (a0b : Nat → Int) (j0 : Nat) (v0m20 : Int) {x0 y0 : Int → Prop} {x1 y1 : Int → Prop} (h0 : ∀ o0, x0 o0 → y0 o0) (h1 : ∀ o0, x1 o0 → y1 o0) : ∀ (f : Nat) (v00t23 : Int), W_sd_Convex_0_0 a0n a0a a0b j0 v0m20 f v00t23 x0 x1 → W_sd_Convex_0_0 a0n a0a a0b j0 v0m20 f v00t23 y0 y1
  | 0, w0 => fun h => h
  | f + 1, w0 => BM_sd_Convex_0_0 a0n a0a a0b j0 v0m20 w0 (fun u0 => WM_sd_Convex_0_0 a0n a0a a0b j0 v0m20 h0 h1 f u0) h0 h1
def NN_sd_Convex_0 (a0n : Nat) (a0a : Nat → Int) (a0b : Nat → Int) : Nat := (F_sd_polygon_edges_0 a0n a0a a0b)
def PP_sd_Convex_0 (a0n : Nat) (a0a : Nat → Int) (a0b : Nat → Int) : Prop := (F_sd_polygon_edges_0 a0n a0a a0b) ≤ 1000000
def B_sd_Convex_0 (a0n : Nat) (a0a : Nat → Int) (a0b : Nat → Int) (j0 : Nat) (v0m20 : Int) (c : Int → Prop) (x0 : Int → Prop) (l0 : Int → (Int → Prop) → (Int → Prop) → Prop) : Prop := Ts 7 ((l0 0 (fun o00t23 => Ts 3 (c (iadd .i64 v0m20 1))) (fun o00t23 => x0 v0m20)))
def W_sd_Convex_0 (a0n : Nat) (a0a : Nat → Int) (a0b : Nat → Int) : Nat → Nat → Int → (Int → Prop) → (Int → Prop) → Prop
  | 0, _, w0, x0, _ => x0 w0
  | r + 1, j, w0, x0, x1 => B_sd_Convex_0 a0n a0a a0b j w0 (fun u0 => W_sd_Convex_0 a0n a0a a0b r (j + 1) u0 x0 x1) x1 (W_sd_Convex_0_0 a0n a0a a0b j w0 fuel)
theorem BM_sd_Convex_0 (a0n : Nat) (a0a : Nat → Int) (a0b : Nat → Int) (j0 : Nat) (v0m20 : Int) {c c' : Int → Prop} {x0 y0 : Int → Prop} (hc : ∀ w0, c w0 → c' w0) (h0 : ∀ o0, x0 o0 → y0 o0) : B_sd_Convex_0 a0n a0a a0b j0 v0m20 c x0 (W_sd_Convex_0_0 a0n a0a a0b j0 v0m20 fuel) → B_sd_Convex_0 a0n a0a a0b j0 v0m20 c' y0 (W_sd_Convex_0_0 a0n a0a a0b j0 v0m20 fuel) := by
  unfold B_sd_Convex_0
  repeat' first
    | exact hc _
    | exact h0 _
    | refine Ts_imp ?_
    | refine cond_imp ?_ ?_
    | refine and_imp' ?_
    | refine WM_sd_Convex_0_0 _ _ _ _ _  (fun _ => ?_) (fun _ => ?_) _ _ 
theorem WM_sd_Convex_0 (a0n : Nat) (a0a : Nat → Int) (a0b : Nat → Int) {x0 y0 : Int → Prop} {x1 y1 : Int → Prop} (h0 : ∀ o0, x0 o0 → y0 o0) (h1 : ∀ o0, x1 o0 → y1 o0) : ∀ (r j : Nat) (v0m20 : Int), W_sd_Convex_0 a0n a0a a0b r j v0m20 x0 x1 → W_sd_Convex_0 a0n a0a a0b r j v0m20 y0 y1
  | 0, j, w0 => h0 w0
  | r + 1, j, w0 => BM_sd_Convex_0 a0n a0a a0b j w0 (fun u0 => WM_sd_Convex_0 a0n a0a a0b h0 h1 r (j + 1) u0) h1
def B_sd_Convex (a0n : Nat) (a0a : Nat → Int) (a0b : Nat → Int) (K0 : Bool → Prop) (l0 : Int → (Int → Prop) → (Int → Prop) → Prop) : Prop := Ts 6 (cond (ilt ((a0n : Nat) : Int) 3) (Ts 3 (K0 false)) (Ts 1 (((P_sd_fair a0n a0a a0b) ∧ Ts 2 (cond (!(F_sd_fair_0 a0n a0a a0b)) (Ts 2 (K0 false)) (Ts 4 (((P_sd_polygon_edges a0n a0a a0b) ∧ (l0 0 (fun o0m20 => Ts 2 (K0 true)) (fun o0m20 => Ts 1 (K0 false)))))))))))
theorem mul_in {p q B : Int} (h1 : -B ≤ p) (h2 : p ≤ B) (h3 : -B ≤ q) (h4 : q ≤ B) : -(B * B) ≤ p * q ∧ p * q ≤ B * B := by
  have hB : 0 ≤ B := by omega
  have e1 : p.natAbs ≤ B.natAbs := by omega
  have e2 : q.natAbs ≤ B.natAbs := by omega
  have e3 : (p * q).natAbs ≤ (B * B).natAbs := by rw [Int.natAbs_mul, Int.natAbs_mul]; exact Nat.mul_le_mul e1 e2
  have e4 : 0 ≤ B * B := Int.mul_nonneg hB hB
  omega
def crossT (a b : Nat → Int) (i k j : Nat) : Int := (a k - a i) * (b j - b i) - (b k - b i) * (a j - a i)
theorem turn_eq {x0 y0 x1 y1 x2 y2 : Int} (h0 : spotOK x0 y0 = true) (h1 : spotOK x1 y1 = true) (h2 : spotOK x2 y2 = true) : F_sd_turn_0 x0 y0 x1 y1 x2 y2 = (x1 - x0) * (y2 - y0) - (y1 - y0) * (x2 - x0) := by
  rw [spotOK_iff] at h0 h1 h2
  unfold F_sd_turn_0 F_sd_cross_0 F_sd_way_0 F_sd_way_1
  rw [isub64 (a := x1) (by omega) (by omega), isub64 (a := y2) (by omega) (by omega), isub64 (a := y1) (by omega) (by omega), isub64 (a := x2) (by omega) (by omega)]
  have m1 := mul_in (p := x1 - x0) (q := y2 - y0) (B := 4194304) (by omega) (by omega) (by omega) (by omega)
  have m2 := mul_in (p := y1 - y0) (q := x2 - x0) (B := 4194304) (by omega) (by omega) (by omega) (by omega)
  rw [imul64 (a := x1 - x0) (by omega) (by omega), imul64 (a := y1 - y0) (by omega) (by omega), isub64 (by omega) (by omega)]
def rowOK (n : Nat) (a b : Nat → Int) (i : Nat) : Prop := ∀ j, j < n → j ≠ i → j ≠ nxE n i → 0 < crossT a b i (nxE n i) j
def convP (n : Nat) (a b : Nat → Int) : Prop := (∀ k, k < n → spotOK (a k) (b k) = true) ∧ ∀ i, i < n → rowOK n a b i
theorem nxE_lt {n i : Nat} (h : i < n) : nxE n i < n := by unfold nxE; split <;> omega
theorem nx_rem {n i : Nat} (h : i < n) (hn : n ≤ 1000000) : irem .i64 (iadd .i64 (i : Int) 1) (n : Int) = ((nxE n i : Nat) : Int) := by
  rw [iadd64 (by omega) (by omega), irem_eq]
  show ((i : Int) + 1).tmod (n : Int) = _
  rw [Int.tmod_eq_emod_of_nonneg (by omega)]
  unfold nxE
  split
  · rw [Int.emod_eq_of_lt (by omega) (by omega)]; omega
  · have : (i : Int) + 1 = n := by omega
    rw [this, Int.emod_self]; rfl
open Classical in
def convF (n : Nat) (a b : Nat → Int) : Bool := decide (3 ≤ n ∧ convP n a b)
def P_sd_Convex (n : Nat) (a : Nat → Int) (b : Nat → Int) : Prop := n ≤ 1000000 ∧ ∀ k, k < n → I64 (a k) ∧ I64 (b k)
def F_sd_Convex_0 (n : Nat) (a : Nat → Int) (b : Nat → Int) : Bool := convF n a b
theorem convF_iff {n : Nat} {a b : Nat → Int} : convF n a b = true ↔ (3 ≤ n ∧ convP n a b) := by unfold convF; simp
theorem convF_false {n : Nat} {a b : Nat → Int} (h : ¬ (3 ≤ n ∧ convP n a b)) : convF n a b = false := by
  cases hf : convF n a b with
  | false => rfl
  | true => exact absurd (convF_iff.1 hf) h
theorem W_sd_Convex_0_0_ok {n : Nat} {a b : Nat → Int} (hn : n ≤ 1000000) (hv : ∀ k, k < n → spotOK (a k) (b k) = true) {i : Nat} (hi : i < n) {x0 x1 : Int → Prop} : ∀ (f j : Nat), j ≤ n → n < f + j → ((∀ j', j ≤ j' → j' < n → j' ≠ i → j' ≠ nxE n i → 0 < crossT a b i (nxE n i) j') → ∀ v, x0 v) → (¬ rowOK n a b i → ∀ v, x1 v) →
    W_sd_Convex_0_0 n a b i i f j x0 x1
  | 0, j, h1, h2, _, _ => by omega
  | f + 1, j, h1, h2, h3, h4 => by
    show B_sd_Convex_0_0 n a b i i j _ _ _
    unfold B_sd_Convex_0_0 F_sd_polygon_edges_0 F_sd_polygon_edges_1 F_sd_polygon_edges_2
    simp only [Ts_iff, true_and, Int.toNat_natCast, Nat.zero_add]
    refine cond_intro (fun hc => ?_) (fun hc => ?_)
    · rw [ilt_t] at hc
      have hj : j < n := by omega
      have next : (j ≠ i → j ≠ nxE n i → 0 < crossT a b i (nxE n i) j) → W_sd_Convex_0_0 n a b i i f (iadd .i64 (j : Int) 1) x0 x1 := fun hh => by
        rw [iadd64 (by omega) (by omega)]
        refine W_sd_Convex_0_0_ok hn hv hi f (j + 1) (by omega) (by omega) (fun h => h3 fun j' hj1 hj2 => ?_) h4
        by_cases hk : j' = j
        · subst hk; exact hh
        · exact h j' (by omega) hj2
      refine ⟨⟨by omega, hc⟩, cond_intro (fun he => ?_) (fun he => ?_)⟩
      · rw [ine_t] at he
        refine ⟨by omega, ?_⟩
        rw [nx_rem hi hn]
        refine cond_intro (fun hf => ?_) (fun hf => ?_)
        · rw [ine_t] at hf
          have ht := turn_eq (hv i hi) (hv _ (nxE_lt hi)) (hv j hj)
          refine ⟨trivial, cond_intro (fun hg => ?_) (fun hg => ?_)⟩
          · rw [ile_t, ht] at hg
            refine h4 (fun hr => ?_) _
            have := hr j hj (by omega) (by omega)
            unfold crossT at this
            omega
          · rw [ile_f, ht] at hg
            exact next (fun _ _ => hg)
        · rw [ine_f] at hf
          exact next (fun _ h => absurd (by omega) h)
      · rw [ine_f] at he
        exact next (fun h _ => absurd (by omega) h)
    · exact h3 (fun j' hj1 hj2 => by rw [ilt_f] at hc; omega) _
theorem W_sd_Convex_0_ok {n : Nat} {a b : Nat → Int} (hn : n ≤ 1000000) (hv : ∀ k, k < n → spotOK (a k) (b k) = true) {x0 x1 : Int → Prop} : ∀ (r k : Nat), r + k = n → ((∀ i, k ≤ i → i < n → rowOK n a b i) → ∀ v, x0 v) → (∀ i, i < n → ¬ rowOK n a b i → ∀ v, x1 v) → W_sd_Convex_0 n a b r k k x0 x1
  | 0, k, h1, h2, _ => h2 (fun i h h' => by omega) _
  | r + 1, k, h1, h2, h3 => by
    show B_sd_Convex_0 n a b k k _ _ _
    unfold B_sd_Convex_0
    simp only [Ts_iff]
    refine W_sd_Convex_0_0_ok hn hv (by omega) fuel 0 (Nat.zero_le _) (by rw [fuel_eq]; omega) (fun hh v => ?_) (fun hr v => h3 k (by omega) hr _)
    rw [iadd64 (by omega) (by omega)]
    refine W_sd_Convex_0_ok hn hv r (k + 1) (by omega) (fun h => h2 fun i hi1 hi2 => ?_) h3
    by_cases hik : i = k
    · subst hik; exact fun j hj => hh j (Nat.zero_le _) hj
    · exact h i (by omega) hi2
theorem H_sd_Convex (a0n : Nat) (a0a : Nat → Int) (a0b : Nat → Int) {K0 : Bool → Prop} (h : P_sd_Convex a0n a0a a0b) (hK : K0 (F_sd_Convex_0 a0n a0a a0b)) : B_sd_Convex a0n a0a a0b K0 (fun p0 y0 y1 => PP_sd_Convex_0 a0n a0a a0b  ∧ W_sd_Convex_0 a0n a0a a0b  (NN_sd_Convex_0 a0n a0a a0b ) 0 p0 y0 y1) := by
  have no : ¬ (3 ≤ a0n ∧ convP a0n a0a a0b) → K0 false := fun hh => by
    unfold F_sd_Convex_0 at hK
    rw [convF_false hh] at hK
    exact hK
  have hn := h.1
  unfold B_sd_Convex
  simp only [Ts_iff]
  refine cond_intro (fun hc => ?_) (fun hc => ?_)
  · rw [ilt_t] at hc
    exact no (fun hh => by omega)
  · rw [ilt_f] at hc
    refine ⟨h, cond_intro (fun hf => ?_) (fun hf => ?_)⟩
    · refine no (fun hh => ?_)
      have : F_sd_fair_0 a0n a0a a0b = true := spotsOK_iff.2 hh.2.1
      rw [this] at hf
      cases hf
    · have hv : ∀ k, k < a0n → spotOK (a0a k) (a0b k) = true := by
        cases hh : F_sd_fair_0 a0n a0a a0b with
        | true => exact spotsOK_iff.1 hh
        | false => rw [hh] at hf; cases hf
      refine ⟨trivial, hn, ?_⟩
      refine W_sd_Convex_0_ok hn hv _ 0 rfl (fun hh v => ?_) (fun i hi hr v => no (fun hh => hr (hh.2.2 i hi)))
      unfold F_sd_Convex_0 at hK
      rw [convF_iff.2 ⟨by omega, hv, fun i hi => hh i (Nat.zero_le _) hi⟩] at hK
      exact hK
/-! ### bagatelle/bagatelleref03.Convex -/
def B_r3_Convex_0_0 (a0n : Nat) (a0a : Nat → Int) (a0b : Nat → Int) (v0t3 : Int) (v00t5 : Int) (c : Int → Prop) (x0 : Int → Prop) (x1 : Int → Prop)  : Prop := Ts 4 (cond (ilt v00t5 ((a0n : Nat) : Int)) (Ts 2 (((0 ≤ v00t5 ∧ v00t5 < ((a0n : Nat) : Int)) ∧ Ts 1 (((P_r3_valid (a0a (Int.toNat v00t5)) (a0b (Int.toNat v00t5))) ∧ Ts 2 (cond (!(F_r3_valid_0 (a0a (Int.toNat v00t5)) (a0b (Int.toNat v00t5)))) (Ts 1 ((true = true ∧ Ts 1 (x1 v00t5)))) (Ts 4 (cond (ine v00t5 v0t3) (Ts 5 (cond (ine v00t5 (irem .i64 (iadd .i64 v0t3 1) ((a0n : Nat) : Int))) (Ts 2 (((0 ≤ v0t3 ∧ v0t3 < ((a0n : Nat) : Int)) ∧ Ts 3 (((0 ≤ (irem .i64 (iadd .i64 v0t3 1) ((a0n : Nat) : Int)) ∧ (irem .i64 (iadd .i64 v0t3 1) ((a0n : Nat) : Int)) < ((a0n : Nat) : Int)) ∧ Ts 3 (((0 ≤ v00t5 ∧ v00t5 < ((a0n : Nat) : Int)) ∧ Ts 1 (((P_r3_Side (a0a (Int.toNat v0t3)) (a0b (Int.toNat v0t3)) (a0a (Int.toNat (irem .i64 (iadd .i64 v0t3 1) ((a0n : Nat) : Int)))) (a0b (Int.toNat (irem .i64 (iadd .i64 v0t3 1) ((a0n : Nat) : Int)))) (a0a (Int.toNat v00t5)) (a0b (Int.toNat v00t5))) ∧ Ts 3 ((true = true ∧ cond (ile (F_r3_Side_0 (a0a (Int.toNat v0t3)) (a0b (Int.toNat v0t3)) (a0a (Int.toNat (irem .i64 (iadd .i64 v0t3 1) ((a0n : Nat) : Int)))) (a0b (Int.toNat (irem .i64 (iadd .i64 v0t3 1) ((a0n : Nat) : Int)))) (a0a (Int.toNat v00t5)) (a0b (Int.toNat v00t5))) 0) (Ts 1 (x1 v00t5)) (Ts 3 (c (iadd .i64 v00t5 1)))))))))))))) (Ts 2 ((true = true ∧ Ts 3 (c (iadd .i64 v00t5 1))))))) (Ts 4 ((true = true ∧ Ts 3 (c (iadd .i64 v00t5 1))))))))))))) (x0 v00t5))
def W_r3_Convex_0_0 (a0n : Nat) (a0a : Nat → Int) (a0b : Nat → Int) (v0t3 : Int) : Nat → Int → (Int → Prop) → (Int → Prop) → Prop
  | 0, _, _, _ => False
  | f + 1, w0, x0, x1 => B_r3_Convex_0_0 a0n a0a a0b v0t3 w0 (fun u0 => W_r3_Convex_0_0 a0n a0a a0b v0t3 f u0 x0 x1) x0 x1 
theorem BM_r3_Convex_0_0 (a0n : Nat) (a0a : Nat → Int) (a0b : Nat → Int) (v0t3 : Int) (v00t5 : Int) {c c' : Int → Prop} {x0 y0 : Int → Prop} {x1 y1 : Int → Prop} (hc : ∀ w0, c w0 → c' w0) (h0 : ∀ o0, x0 o0 → y0 o0) (h1 : ∀ o0, x1 o0 → y1 o0) : B_r3_Convex_0_0 a0n a0a a0b v0t3 v00t5 c x0 x1  → B_r3_Convex_0_0 a0n a0a a0b v0t3 v00t5 c' y0 y1  := by
  unfold B_r3_Convex_0_0
  repeat' first
    | exact hc _
    | exact h0 _
    | exact h1 _
    | refine Ts_imp ?_
    | refine cond_imp ?_ ?_
    | refine and_imp' ?_
theorem WM_r3_Convex_0_0 (a0n : Nat) (a0a : Nat → Int) (a0b : Nat → Int) (v0t3 : Int) {x0 y0 : Int → Prop} {x1 y1 : Int → Prop} (h0 : ∀ o0, x0 o0 → y0 o0) (h1 : ∀ o0, x1 o0 → y1 o0) : ∀ (f : Nat) (v00t5 : Int), W_r3_Convex_0_0 a0n a0a a0b v0t3 f v00t5 x0 x1 → W_r3_Convex_0_0 a0n a0a a0b v0t3 f v00t5 y0 y1
  | 0, w0 => fun h => h
  | f + 1, w0 => BM_r3_Convex_0_0 a0n a0a a0b v0t3 w0 (fun u0 => WM_r3_Convex_0_0 a0n a0a a0b v0t3 h0 h1 f u0) h0 h1
def B_r3_Convex_0 (a0n : Nat) (a0a : Nat → Int) (a0b : Nat → Int) (v0t3 : Int) (c : Int → Prop) (x0 : Int → Prop) (x1 : Int → Prop) (l0 : Int → (Int → Prop) → (Int → Prop) → Prop) : Prop := Ts 4 (cond (ilt v0t3 ((a0n : Nat) : Int)) (Ts 4 (((((a0n : Nat) : Int) ≠ 0) ∧ Ts 2 ((l0 0 (fun o00t5 => Ts 3 (c (iadd .i64 v0t3 1))) (fun o00t5 => x1 v0t3)))))) (x0 v0t3))
def W_r3_Convex_0 (a0n : Nat) (a0a : Nat → Int) (a0b : Nat → Int) : Nat → Int → (Int → Prop) → (Int → Prop) → Prop
  | 0, _, _, _ => False
  | f + 1, w0, x0, x1 => B_r3_Convex_0 a0n a0a a0b w0 (fun u0 => W_r3_Convex_0 a0n a0a a0b f u0 x0 x1) x0 x1 (W_r3_Convex_0_0 a0n a0a a0b w0 fuel)
theorem BM_r3_Convex_0 (a0n : Nat) (a0a : Nat → Int) (a0b : Nat → Int) (v0t3 : Int) {c c' : Int → Prop} {x0 y0 : Int → Prop} {x1 y1 : Int → Prop} (hc : ∀ w0, c w0 → c' w0) (h0 : ∀ o0, x0 o0 → y0 o0) (h1 : ∀ o0, x1 o0 → y1 o0) : B_r3_Convex_0 a0n a0a a0b v0t3 c x0 x1 (W_r3_Convex_0_0 a0n a0a a0b v0t3 fuel) → B_r3_Convex_0 a0n a0a a0b v0t3 c' y0 y1 (W_r3_Convex_0_0 a0n a0a a0b v0t3 fuel) := by
  unfold B_r3_Convex_0
  repeat' first
    | exact hc _
    | exact h0 _
    | exact h1 _
    | refine Ts_imp ?_
    | refine cond_imp ?_ ?_
    | refine and_imp' ?_
    | refine WM_r3_Convex_0_0 _ _ _ _  (fun _ => ?_) (fun _ => ?_) _ _ 
theorem WM_r3_Convex_0 (a0n : Nat) (a0a : Nat → Int) (a0b : Nat → Int) {x0 y0 : Int → Prop} {x1 y1 : Int → Prop} (h0 : ∀ o0, x0 o0 → y0 o0) (h1 : ∀ o0, x1 o0 → y1 o0) : ∀ (f : Nat) (v0t3 : Int), W_r3_Convex_0 a0n a0a a0b f v0t3 x0 x1 → W_r3_Convex_0 a0n a0a a0b f v0t3 y0 y1
  | 0, w0 => fun h => h
  | f + 1, w0 => BM_r3_Convex_0 a0n a0a a0b w0 (fun u0 => WM_r3_Convex_0 a0n a0a a0b h0 h1 f u0) h0 h1
def B_r3_Convex (a0n : Nat) (a0a : Nat → Int) (a0b : Nat → Int) (K0 : Bool → Prop) (l0 : Int → (Int → Prop) → (Int → Prop) → Prop) : Prop := Ts 4 (cond (ilt ((a0n : Nat) : Int) 3) (Ts 1 (K0 false)) (Ts 1 ((l0 0 (fun o0t3 => Ts 1 (K0 true)) (fun o0t3 => K0 false)))))
theorem valid_eq (a b : Int) : F_r3_valid_0 a b = spotOK a b := by
  rw [Bool.eq_iff_iff, spotOK_iff]
  unfold F_r3_valid_0
  have tt : ∀ {b x y : Bool}, (cond b x y = true) ↔ ((b = true ∧ x = true) ∨ (b = false ∧ y = true)) := fun {b x y} => by cases b <;> simp
  simp only [tt, ige_t, ile_t, ige_f, ile_f, Bool.false_eq_true, and_false, or_false]
  all_goals omega
theorem side_r3 {x0 y0 x1 y1 x2 y2 : Int} (h0 : spotOK x0 y0 = true) (h1 : spotOK x1 y1 = true) (h2 : spotOK x2 y2 = true) : F_r3_Side_0 x0 y0 x1 y1 x2 y2 = (if 0 < (x1 - x0) * (y2 - y0) - (y1 - y0) * (x2 - x0) then 1 else if (x1 - x0) * (y2 - y0) - (y1 - y0) * (x2 - x0) < 0 then -1 else 0) := by
  unfold F_r3_Side_0
  rw [valid_eq, valid_eq, valid_eq, h0, h1, h2]
  have e : F_r3_cross_0 (F_r3_minus_0 x1 y1 x0 y0) (F_r3_minus_1 x1 y1 x0 y0) (F_r3_minus_0 x2 y2 x0 y0) (F_r3_minus_1 x2 y2 x0 y0) = (x1 - x0) * (y2 - y0) - (y1 - y0) * (x2 - x0) := by
    rw [spotOK_iff] at h0 h1 h2
    unfold F_r3_cross_0 F_r3_minus_0 F_r3_minus_1
    rw [isub64 (a := x1) (by omega) (by omega), isub64 (a := y2) (by omega) (by omega), isub64 (a := y1) (by omega) (by omega), isub64 (a := x2) (by omega) (by omega)]
    have m1 := mul_in (p := x1 - x0) (q := y2 - y0) (B := 4194304) (by omega) (by omega) (by omega) (by omega)
    have m2 := mul_in (p := y1 - y0) (q := x2 - x0) (B := 4194304) (by omega) (by omega) (by omega) (by omega)
    rw [imul64 (a := x1 - x0) (by omega) (by omega), imul64 (a := y1 - y0) (by omega) (by omega), isub64 (by omega) (by omega)]
  rw [e]
  simp only [Bool.not_true, cond_false]
  cases hg : igt ((x1 - x0) * (y2 - y0) - (y1 - y0) * (x2 - x0)) 0 with
  | true => rw [igt_t] at hg; rw [if_pos hg]; rfl
  | false =>
    rw [igt_f] at hg
    rw [if_neg (by omega), cond_false]
    cases hl : ilt ((x1 - x0) * (y2 - y0) - (y1 - y0) * (x2 - x0)) 0 with
    | true => rw [ilt_t] at hl; rw [if_pos hl]; rfl
    | false => rw [ilt_f] at hl; rw [if_neg (by omega)]; rfl
theorem side_r3_bad {x0 y0 x1 y1 x2 y2 : Int} (h : ¬ (spotOK x0 y0 = true ∧ spotOK x1 y1 = true ∧ spotOK x2 y2 = true)) : F_r3_Side_0 x0 y0 x1 y1 x2 y2 = 0 := by
  unfold F_r3_Side_0
  rw [valid_eq, valid_eq, valid_eq]
  cases h0 : spotOK x0 y0 with
  | false => rfl
  | true =>
    cases h1 : spotOK x1 y1 with
    | false => rfl
    | true =>
      cases h2 : spotOK x2 y2 with
      | false => rfl
      | true => exact absurd ⟨h0, h1, h2⟩ h
theorem side_pos_iff {x0 y0 x1 y1 x2 y2 : Int} : 0 < F_r3_Side_0 x0 y0 x1 y1 x2 y2 ↔ (spotOK x0 y0 = true ∧ spotOK x1 y1 = true ∧ spotOK x2 y2 = true) ∧ 0 < (x1 - x0) * (y2 - y0) - (y1 - y0) * (x2 - x0) := by
  by_cases h : spotOK x0 y0 = true ∧ spotOK x1 y1 = true ∧ spotOK x2 y2 = true
  · rw [side_r3 h.1 h.2.1 h.2.2]
    constructor
    · intro hh
      refine ⟨h, ?_⟩
      split at hh
      · assumption
      · split at hh <;> omega
    · intro hh; rw [if_pos hh.2]; omega
  · rw [side_r3_bad h]
    exact ⟨fun hh => by omega, fun hh => absurd hh.1 h⟩
def P_r3_Convex (n : Nat) (a : Nat → Int) (b : Nat → Int) : Prop := n ≤ 1000000
def F_r3_Convex_0 (n : Nat) (a : Nat → Int) (b : Nat → Int) : Bool := convF n a b
def ok3 (n : Nat) (a b : Nat → Int) (i j : Nat) : Prop := spotOK (a j) (b j) = true ∧ (j ≠ i → j ≠ nxE n i → 0 < F_r3_Side_0 (a i) (b i) (a (nxE n i)) (b (nxE n i)) (a j) (b j))
theorem ok3_of {n : Nat} {a b : Nat → Int} (h : convP n a b) {i j : Nat} (hi : i < n) (hj : j < n) : ok3 n a b i j :=
  ⟨h.1 j hj, fun h1 h2 => side_pos_iff.2 ⟨⟨h.1 i hi, h.1 _ (nxE_lt hi), h.1 j hj⟩, h.2 i hi j hj h1 h2⟩⟩
theorem convP_of {n : Nat} {a b : Nat → Int} (h : ∀ i j, i < n → j < n → ok3 n a b i j) (hn : 0 < n) : convP n a b :=
  ⟨fun k hk => (h 0 k hn hk).1, fun i hi j hj h1 h2 => (side_pos_iff.1 ((h i j hi hj).2 h1 h2)).2⟩
theorem W_r3_Convex_0_0_ok {n : Nat} {a b : Nat → Int} (hn : n ≤ 1000000) {i : Nat} (hi : i < n) {x0 x1 : Int → Prop} : ∀ (f j : Nat), j ≤ n → n < f + j → ((∀ j', j ≤ j' → j' < n → ok3 n a b i j') → ∀ v, x0 v) → (∀ j', j' < n → ¬ ok3 n a b i j' → ∀ v, x1 v) → W_r3_Convex_0_0 n a b i f j x0 x1
  | 0, j, h1, h2, _, _ => by omega
  | f + 1, j, h1, h2, h3, h4 => by
    show B_r3_Convex_0_0 n a b i j _ _ _
    unfold B_r3_Convex_0_0
    simp only [Ts_iff, true_and, Int.toNat_natCast, Nat.zero_add]
    rw [nx_rem hi hn, Int.toNat_natCast, valid_eq]
    refine cond_intro (fun hc => ?_) (fun hc => ?_)
    · rw [ilt_t] at hc
      have hj : j < n := by omega
      have hnx := nxE_lt hi
      have next : ok3 n a b i j → W_r3_Convex_0_0 n a b i f (iadd .i64 (j : Int) 1) x0 x1 := fun hh => by
        rw [iadd64 (by omega) (by omega)]
        refine W_r3_Convex_0_0_ok hn hi f (j + 1) (by omega) (by omega) (fun h => h3 fun j' hj1 hj2 => ?_) h4
        by_cases hk : j' = j
        · subst hk; exact hh
        · exact h j' (by omega) hj2
      refine ⟨⟨by omega, hc⟩, trivial, cond_intro (fun he => ?_) (fun he => ?_)⟩
      · refine h4 j hj (fun hk => ?_) _
        rw [hk.1] at he
        cases he
      · have hvj : spotOK (a j) (b j) = true := by
          cases hh : spotOK (a j) (b j) with
          | true => rfl
          | false => rw [hh] at he; cases he
        refine cond_intro (fun hf => ?_) (fun hf => ?_)
        · rw [ine_t] at hf
          refine cond_intro (fun hg => ?_) (fun hg => ?_)
          · rw [ine_t] at hg
            refine ⟨⟨by omega, by omega⟩, ⟨by omega, by omega⟩, ⟨by omega, by omega⟩, trivial, cond_intro (fun hs => ?_) (fun hs => ?_)⟩
            · rw [ile_t] at hs
              refine h4 j hj (fun hk => ?_) _
              have := hk.2 (by omega) (by omega)
              omega
            · rw [ile_f] at hs
              exact next ⟨hvj, fun _ _ => hs⟩
          · rw [ine_f] at hg
            exact next ⟨hvj, fun _ h => absurd (by omega) h⟩
        · rw [ine_f] at hf
          exact next ⟨hvj, fun h _ => absurd (by omega) h⟩
    · exact h3 (fun j' hj1 hj2 => by rw [ilt_f] at hc; omega) _
theorem W_r3_Convex_0_ok {n : Nat} {a b : Nat → Int} (hn : n ≤ 1000000) {x0 x1 : Int → Prop} : ∀ (f i : Nat), i ≤ n → n < f + i → ((∀ i' j, i ≤ i' → i' < n → j < n → ok3 n a b i' j) → ∀ v, x0 v) → (∀ i' j, i' < n → j < n → ¬ ok3 n a b i' j → ∀ v, x1 v) → W_r3_Convex_0 n a b f i x0 x1
  | 0, i, h1, h2, _, _ => by omega
  | f + 1, i, h1, h2, h3, h4 => by
    show B_r3_Convex_0 n a b i _ _ _ _
    unfold B_r3_Convex_0
    simp only [Ts_iff]
    refine cond_intro (fun hc => ?_) (fun hc => ?_)
    · rw [ilt_t] at hc
      have hi : i < n := by omega
      refine ⟨by omega, ?_⟩
      refine W_r3_Convex_0_0_ok hn hi fuel 0 (Nat.zero_le _) (by rw [fuel_eq]; omega) (fun hh v => ?_) (fun j hj hr v => h4 i j hi hj hr _)
      rw [iadd64 (by omega) (by omega)]
      refine W_r3_Convex_0_ok hn f (i + 1) (by omega) (by omega) (fun h => h3 fun i' j hi1 hi2 hj => ?_) h4
      by_cases hik : i' = i
      · subst hik; exact hh j (Nat.zero_le _) hj
      · exact h i' j (by omega) hi2 hj
    · exact h3 (fun i' j hi1 hi2 => by rw [ilt_f] at hc; omega) _
theorem H_r3_Convex (a0n : Nat) (a0a : Nat → Int) (a0b : Nat → Int) {K0 : Bool → Prop} (h : P_r3_Convex a0n a0a a0b) (hK : K0 (F_r3_Convex_0 a0n a0a a0b)) : B_r3_Convex a0n a0a a0b K0 (W_r3_Convex_0 a0n a0a a0b fuel) := by
  have no : ¬ (3 ≤ a0n ∧ convP a0n a0a a0b) → K0 false := fun hh => by
    unfold F_r3_Convex_0 at hK
    rw [convF_false hh] at hK
    exact hK
  have hn : a0n ≤ 1000000 := h
  unfold B_r3_Convex
  simp only [Ts_iff]
  refine cond_intro (fun hc => ?_) (fun hc => ?_)
  · rw [ilt_t] at hc
    exact no (fun hh => by omega)
  · rw [ilt_f] at hc
    refine W_r3_Convex_0_ok hn fuel 0 (Nat.zero_le _) (by rw [fuel_eq]; omega) (fun hh v => ?_) (fun i j hi hj hr v => no (fun hh => hr (ok3_of hh.2 hi hj)))
    unfold F_r3_Convex_0 at hK
    rw [convF_iff.2 ⟨by omega, convP_of (fun i j hi hj => hh i j (Nat.zero_le _) hi hj) (by omega)⟩] at hK
    exact hK
/-! ### bagatelle/bagatellekit.SameSpots -/
def B_kt_SameSpots_0 (a0n : Nat) (a0a : Nat → Int) (a0b : Nat → Int) (a1n : Nat) (a1a : Nat → Int) (a1b : Nat → Int) (v0t5 : Int) (c : Int → Prop) (x0 : Int → Prop) (x1 : Int → Prop)  : Prop := Ts 4 (cond (ilt v0t5 ((a0n : Nat) : Int)) (Ts 2 (((0 ≤ v0t5 ∧ v0t5 < ((a0n : Nat) : Int)) ∧ Ts 3 (((0 ≤ v0t5 ∧ v0t5 < ((a1n : Nat) : Int)) ∧ Ts 2 ((true = true ∧ cond (!((ieq (a0a (Int.toNat v0t5)) (a1a (Int.toNat v0t5))) && (ieq (a0b (Int.toNat v0t5)) (a1b (Int.toNat v0t5))))) (Ts 1 (x1 v0t5)) (Ts 3 (c (iadd .i64 v0t5 1)))))))))) (x0 v0t5))
def W_kt_SameSpots_0 (a0n : Nat) (a0a : Nat → Int) (a0b : Nat → Int) (a1n : Nat) (a1a : Nat → Int) (a1b : Nat → Int) : Nat → Int → (Int → Prop) → (Int → Prop) → Prop
  | 0, _, _, _ => False
  | f + 1, w0, x0, x1 => B_kt_SameSpots_0 a0n a0a a0b a1n a1a a1b w0 (fun u0 => W_kt_SameSpots_0 a0n a0a a0b a1n a1a a1b f u0 x0 x1) x0 x1 
theorem BM_kt_SameSpots_0 (a0n : Nat) (a0a : Nat → Int) (a0b : Nat → Int) (a1n : Nat) (a1a : Nat → Int) (a1b : Nat → Int) (v0t5 : Int) {c c' : Int → Prop} {x0 y0 : Int → Prop} {x1 y1 : Int → Prop} (hc : ∀ w0, c w0 → c' w0) (h0 : ∀ o0, x0 o0 → y0 o0) (h1 : ∀ o0, x1 o0 → y1 o0) : B_kt_SameSpots_0 a0n a0a a0b a1n a1a a1b v0t5 c x0 x1  → B_kt_SameSpots_0 a0n a0a a0b a1n a1a a1b v0t5 c' y0 y1  := by
  unfold B_kt_SameSpots_0
  repeat' first
    | exact hc _
    | exact h0 _
    | exact h1 _
    | refine Ts_imp ?_
    | refine cond_imp ?_ ?_
    | refine and_imp' ?_
theorem WM_kt_SameSpots_0 (a0n : Nat) (a0a : Nat → Int) (a0b : Nat → Int) (a1n : Nat) (a1a : Nat → Int) (a1b : Nat → Int) {x0 y0 : Int → Prop} {x1 y1 : Int → Prop} (h0 : ∀ o0, x0 o0 → y0 o0) (h1 : ∀ o0, x1 o0 → y1 o0) : ∀ (f : Nat) (v0t5 : Int), W_kt_SameSpots_0 a0n a0a a0b a1n a1a a1b f v0t5 x0 x1 → W_kt_SameSpots_0 a0n a0a a0b a1n a1a a1b f v0t5 y0 y1
  | 0, w0 => fun h => h
  | f + 1, w0 => BM_kt_SameSpots_0 a0n a0a a0b a1n a1a a1b w0 (fun u0 => WM_kt_SameSpots_0 a0n a0a a0b a1n a1a a1b h0 h1 f u0) h0 h1
def B_kt_SameSpots (a0n : Nat) (a0a : Nat → Int) (a0b : Nat → Int) (a1n : Nat) (a1a : Nat → Int) (a1b : Nat → Int) (K0 : Bool → Prop) (l0 : Int → (Int → Prop) → (Int → Prop) → Prop) : Prop := Ts 6 (cond (ine ((a0n : Nat) : Int) ((a1n : Nat) : Int)) (Ts 1 (K0 false)) (Ts 1 ((l0 0 (fun o0t5 => Ts 1 (K0 true)) (fun o0t5 => K0 false)))))
def P_kt_SameSpots (a0n : Nat) (a0a : Nat → Int) (a0b : Nat → Int) (a1n : Nat) (a1a : Nat → Int) (a1b : Nat → Int) : Prop := a0n ≤ 1000000 ∧ a1n ≤ 1000000
def F_kt_SameSpots_0 (n : Nat) (a : Nat → Int) (b : Nat → Int) (n' : Nat) (a' : Nat → Int) (b' : Nat → Int) : Bool := decide (n = n') && (List.range n).all fun k => decide (a k = a' k) && decide (b k = b' k)
theorem sameSpots_iff {n : Nat} {a b : Nat → Int} {n' : Nat} {a' b' : Nat → Int} : F_kt_SameSpots_0 n a b n' a' b' = true ↔ (n = n' ∧ ∀ k, k < n → a k = a' k ∧ b k = b' k) := by
  unfold F_kt_SameSpots_0
  rw [Bool.and_eq_true, List.all_eq_true]
  constructor
  · rintro ⟨h1, h2⟩
    exact ⟨by simpa using h1, fun k hk => by simpa using h2 k (List.mem_range.2 hk)⟩
  · rintro ⟨h1, h2⟩
    exact ⟨by simpa using h1, fun k hk => by simpa using h2 k (List.mem_range.1 hk)⟩
theorem W_kt_SameSpots_ok {n : Nat} {a b a' b' : Nat → Int} (hn : n ≤ 1000000) {x0 x1 : Int → Prop} : ∀ (f i : Nat), i ≤ n → n < f + i → ((∀ k, i ≤ k → k < n → a k = a' k ∧ b k = b' k) → ∀ v, x0 v) → (∀ k, k < n → ¬ (a k = a' k ∧ b k = b' k) → ∀ v, x1 v) → W_kt_SameSpots_0 n a b n a' b' f i x0 x1
  | 0, i, h1, h2, _, _ => by omega
  | f + 1, i, h1, h2, h3, h4 => by
    show B_kt_SameSpots_0 n a b n a' b' i _ _ _
    unfold B_kt_SameSpots_0
    simp only [Ts_iff, true_and, Int.toNat_natCast, Nat.zero_add]
    refine cond_intro (fun hc => ?_) (fun hc => ?_)
    · rw [ilt_t] at hc
      refine ⟨⟨by omega, hc⟩, ⟨by omega, hc⟩, cond_intro (fun he => ?_) (fun he => ?_)⟩
      · refine h4 i (by omega) (fun ⟨e1, e2⟩ => ?_) _
        rw [ieq_t.2 e1, ieq_t.2 e2] at he
        cases he
      · have he : (ieq (a i) (a' i) && ieq (b i) (b' i)) = true := by
          cases hh : (ieq (a i) (a' i) && ieq (b i) (b' i)) with
          | true => rfl
          | false => rw [hh] at he; cases he
        rw [Bool.and_eq_true, ieq_t, ieq_t] at he
        rw [iadd64 (by omega) (by omega)]
        refine W_kt_SameSpots_ok hn f (i + 1) (by omega) (by omega) (fun h => h3 fun k hk1 hk2 => ?_) h4
        by_cases hk : k = i
        · subst hk; exact he
        · exact h k (by omega) hk2
    · rw [ilt_f] at hc
      exact h3 (fun k hk1 hk2 => by omega) _
theorem H_kt_SameSpots (a0n : Nat) (a0a : Nat → Int) (a0b : Nat → Int) (a1n : Nat) (a1a : Nat → Int) (a1b : Nat → Int) {K0 : Bool → Prop} (h : P_kt_SameSpots a0n a0a a0b a1n a1a a1b) (hK : K0 (F_kt_SameSpots_0 a0n a0a a0b a1n a1a a1b)) : B_kt_SameSpots a0n a0a a0b a1n a1a a1b K0 (W_kt_SameSpots_0 a0n a0a a0b a1n a1a a1b fuel) := by
  unfold B_kt_SameSpots
  simp only [Ts_iff, true_and]
  have no : ¬ (a0n = a1n ∧ ∀ k, k < a0n → a0a k = a1a k ∧ a0b k = a1b k) → K0 false := fun hh => by
    have : F_kt_SameSpots_0 a0n a0a a0b a1n a1a a1b = false := by
      cases hf : F_kt_SameSpots_0 a0n a0a a0b a1n a1a a1b with
      | false => rfl
      | true => exact absurd (sameSpots_iff.1 hf) hh
    rw [this] at hK
    exact hK
  refine cond_intro (fun hc => ?_) (fun hc => ?_)
  · rw [ine_t] at hc
    exact no (fun hh => hc (by rw [hh.1]))
  · rw [ine_f] at hc
    have e : a0n = a1n := by omega
    subst e
    refine W_kt_SameSpots_ok h.1 fuel 0 (Nat.zero_le _) (by rw [fuel_eq]; have := h.1; omega) (fun hh v => ?_) (fun k hk hs v => no (fun hh => hs (hh.2 k hk)))
    have : F_kt_SameSpots_0 a0n a0a a0b a0n a1a a1b = true := sameSpots_iff.2 ⟨rfl, fun k hk => hh k (Nat.zero_le _) hk⟩
    rw [this] at hK
    exact hK
/-! ### bagatelle/bagatellelaw03.SolidSpots -/
def B_lw_SolidSpots (a0a : Int) (a0b : Int) (a1a : Int) (a1b : Int) (a2a : Int) (a2b : Int) (a3n : Nat) (a3a : Nat → Int) (a3b : Nat → Int) (K0 : Bool → Prop)  : Prop := Ts 7 (cond (igt ((a3n : Nat) : Int) 12) (((P_lw_awake ) ∧ Ts 1 (K0 F_lw_awake_0))) (Ts 1 (((P_kt_Spots a3n a3a a3b) ∧ Ts 4 (((P_sd_Side a0a a0b a1a a1b a2a a2b) ∧ Ts 3 (((P_r3_Side a0a a0b a1a a1b a2a a2b) ∧ Ts 2 (cond (ieq (F_sd_Side_0 a0a a0b a1a a1b a2a a2b) (F_r3_Side_0 a0a a0b a1a a1b a2a a2b)) (Ts 1 (((P_sd_Convex (F_kt_Spots_0 a3n a3a a3b) (F_kt_Spots_1 a3n a3a a3b) (F_kt_Spots_2 a3n a3a a3b)) ∧ Ts 1 (((P_r3_Convex a3n a3a a3b) ∧ Ts 3 (cond (beqB (F_sd_Convex_0 (F_kt_Spots_0 a3n a3a a3b) (F_kt_Spots_1 a3n a3a a3b) (F_kt_Spots_2 a3n a3a a3b)) (F_r3_Convex_0 a3n a3a a3b)) (Ts 2 (((P_kt_SameSpots (F_kt_Spots_0 a3n a3a a3b) (F_kt_Spots_1 a3n a3a a3b) (F_kt_Spots_2 a3n a3a a3b) a3n a3a a3b) ∧ Ts 2 (cond (F_kt_SameSpots_0 (F_kt_Spots_0 a3n a3a a3b) (F_kt_Spots_1 a3n a3a a3b) (F_kt_Spots_2 a3n a3a a3b) a3n a3a a3b) (((P_lw_awake ) ∧ Ts 2 ((true = true ∧ K0 F_lw_awake_0)))) (Ts 2 ((true = true ∧ K0 false))))))) (Ts 4 ((true = true ∧ K0 false))))))))) (Ts 6 ((true = true ∧ K0 false))))))))))))
theorem side_eq (x0 y0 x1 y1 x2 y2 : Int) : F_sd_Side_0 x0 y0 x1 y1 x2 y2 = F_r3_Side_0 x0 y0 x1 y1 x2 y2 := by
  unfold F_sd_Side_0
  rw [fair3]
  cases h : (spotOK x0 y0 && spotOK x1 y1 && spotOK x2 y2) with
  | false =>
    rw [side_r3_bad (fun hh => by rw [hh.1, hh.2.1, hh.2.2] at h; cases h)]
    have e1 : igt 0 0 = false := by rw [igt_f]; omega
    have e2 : ilt 0 0 = false := by rw [ilt_f]; omega
    rw [e1, e2]
    rfl
  | true =>
    rw [Bool.and_eq_true, Bool.and_eq_true] at h
    rw [side_r3 h.1.1 h.1.2 h.2, turn_eq h.1.1 h.1.2 h.2]
    cases hg : igt ((x1 - x0) * (y2 - y0) - (y1 - y0) * (x2 - x0)) 0 with
    | true => rw [igt_t] at hg; rw [if_pos hg]; rfl
    | false =>
      rw [igt_f] at hg
      rw [if_neg (by omega), cond_true, cond_false]
      cases hl : ilt ((x1 - x0) * (y2 - y0) - (y1 - y0) * (x2 - x0)) 0 with
      | true => rw [ilt_t] at hl; rw [if_pos hl]; rfl
      | false => rw [ilt_f] at hl; rw [if_neg (by omega)]; rfl
theorem crossT_congr {n : Nat} {a b a' b' : Nat → Int} (h : ∀ k, k < n → a k = a' k ∧ b k = b' k) {i j k : Nat} (hi : i < n) (hj : j < n) (hk : k < n) : crossT a b i k j = crossT a' b' i k j := by
  unfold crossT
  rw [(h i hi).1, (h i hi).2, (h j hj).1, (h j hj).2, (h k hk).1, (h k hk).2]
theorem convP_congr {n : Nat} {a b a' b' : Nat → Int} (h : ∀ k, k < n → a k = a' k ∧ b k = b' k) : convP n a b ↔ convP n a' b' := by
  have go : ∀ {a b a' b' : Nat → Int}, (∀ k, k < n → a k = a' k ∧ b k = b' k) → convP n a b → convP n a' b' := by
    intro a b a' b' h hc
    refine ⟨fun k hk => by rw [← (h k hk).1, ← (h k hk).2]; exact hc.1 k hk, fun i hi j hj h1 h2 => ?_⟩
    rw [← crossT_congr h hi hj (nxE_lt hi)]
    exact hc.2 i hi j hj h1 h2
  exact ⟨go h, go (fun k hk => ⟨(h k hk).1.symm, (h k hk).2.symm⟩)⟩
theorem convF_congr {n : Nat} {a b a' b' : Nat → Int} (h : ∀ k, k < n → a k = a' k ∧ b k = b' k) : convF n a b = convF n a' b' := by
  rw [Bool.eq_iff_iff, convF_iff, convF_iff, convP_congr h]
theorem beqB_self (x : Bool) : beqB x x = true := by rw [beqB_eq]; simp
def P_lw_SolidSpots (a0a : Int) (a0b : Int) (a1a : Int) (a1b : Int) (a2a : Int) (a2b : Int) (a3n : Nat) (a3a : Nat → Int) (a3b : Nat → Int) : Prop := (I64 a0a ∧ I64 a0b ∧ I64 a1a ∧ I64 a1b ∧ I64 a2a ∧ I64 a2b) ∧ ∀ k, k < a3n → I64 (a3a k) ∧ I64 (a3b k)
def F_lw_SolidSpots_0 (a0a : Int) (a0b : Int) (a1a : Int) (a1b : Int) (a2a : Int) (a2b : Int) (a3n : Nat) (a3a : Nat → Int) (a3b : Nat → Int) : Bool := true
theorem H_lw_SolidSpots (a0a : Int) (a0b : Int) (a1a : Int) (a1b : Int) (a2a : Int) (a2b : Int) (a3n : Nat) (a3a : Nat → Int) (a3b : Nat → Int) {K0 : Bool → Prop} (h : P_lw_SolidSpots a0a a0b a1a a1b a2a a2b a3n a3a a3b) (hK : K0 (F_lw_SolidSpots_0 a0a a0b a1a a1b a2a a2b a3n a3a a3b)) : B_lw_SolidSpots a0a a0b a1a a1b a2a a2b a3n a3a a3b K0 := by
  have hK : K0 true := hK
  obtain ⟨⟨h1, h2, h3, h4, h5, h6⟩, h7⟩ := h
  unfold B_lw_SolidSpots
  simp only [Ts_iff, true_and]
  refine cond_intro (fun hc => ?_) (fun hc => ?_)
  · exact ⟨awakeP, by rw [awake_true]; exact hK⟩
  · rw [igt_f] at hc
    have hcp : ∀ k, k < a3n → copyF a3a a3n k = a3a k ∧ copyF a3b a3n k = a3b k := fun k hk => ⟨copyF_lt _ _ _ hk, copyF_lt _ _ _ hk⟩
    refine ⟨show a3n ≤ 1000000 by omega, fairP3 h1 h2 h3 h4 h5 h6, trivial, ?_⟩
    rw [ieq_t.2 (side_eq _ _ _ _ _ _), cond_true]
    refine ⟨⟨by show a3n ≤ 1000000; omega, fun k hk => ?_⟩, show a3n ≤ 1000000 by omega, ?_⟩
    · show I64 (copyF a3a a3n k) ∧ I64 (copyF a3b a3n k)
      rw [(hcp k hk).1, (hcp k hk).2]
      exact h7 k hk
    · have e1 : F_sd_Convex_0 (F_kt_Spots_0 a3n a3a a3b) (F_kt_Spots_1 a3n a3a a3b) (F_kt_Spots_2 a3n a3a a3b) = F_r3_Convex_0 a3n a3a a3b := convF_congr hcp
      rw [e1, beqB_self, cond_true]
      refine ⟨⟨by show a3n ≤ 1000000; omega, by omega⟩, ?_⟩
      have e2 : F_kt_SameSpots_0 (F_kt_Spots_0 a3n a3a a3b) (F_kt_Spots_1 a3n a3a a3b) (F_kt_Spots_2 a3n a3a a3b) a3n a3a a3b = true := sameSpots_iff.2 ⟨rfl, hcp⟩
      rw [e2, cond_true]
      exact ⟨awakeP, by rw [awake_true]; exact hK⟩
end
end Go.Ag
