import Derived.Test.YtbcegholicnflaaGreatBgZ
set_option linter.unusedVariables false
set_option linter.unusedSimpArgs false
set_option maxRecDepth 100000
namespace Go.Ag
open Go.RowKit
noncomputable section
def str0 : ByteArray := ⟨#[0, 1, 2, 2, 3, 3, 3, 3, 4, 4, 4, 4, 4, 4, 4, 4, 5, 5, 5, 5, 5, 5, 5, 5, 5, 5, 5, 5, 5, 5, 5, 5, 6, 6, 6, 6, 6, 6, 6, 6, 6, 6, 6, 6, 6, 6, 6, 6, 6, 6, 6, 6, 6, 6, 6, 6, 6, 6, 6, 6, 6, 6, 6, 6, 7, 7, 7, 7, 7, 7, 7, 7, 7, 7, 7, 7, 7, 7, 7, 7, 7, 7, 7, 7, 7, 7, 7, 7, 7, 7, 7, 7, 7, 7, 7, 7, 7, 7, 7, 7, 7, 7, 7, 7, 7, 7, 7, 7, 7, 7, 7, 7, 7, 7, 7, 7, 7, 7, 7, 7, 7, 7, 7, 7, 7, 7, 7, 7, 8, 8, 8, 8, 8, 8, 8, 8, 8, 8, 8, 8, 8, 8, 8, 8, 8, 8, 8, 8, 8, 8, 8, 8, 8, 8, 8, 8, 8, 8, 8, 8, 8, 8, 8, 8, 8, 8, 8, 8, 8, 8, 8, 8, 8, 8, 8, 8, 8, 8, 8, 8, 8, 8, 8, 8, 8, 8, 8, 8, 8, 8, 8, 8, 8, 8, 8, 8, 8, 8, 8, 8, 8, 8, 8, 8, 8, 8, 8, 8, 8, 8, 8, 8, 8, 8, 8, 8, 8, 8, 8, 8, 8, 8, 8, 8, 8, 8, 8, 8, 8, 8, 8, 8, 8, 8, 8, 8, 8, 8, 8, 8, 8, 8, 8, 8, 8, 8, 8, 8, 8, 8, 8, 8, 8, 8, 8, 8]⟩
def B_d9 (a0 : Int) (K0 : Int -> Prop)  : Prop := Ts 3 (cond (ige a0 4294967296) (Ts 1 (((0 <= (32 : Int)) /\ Ts 4 (cond (ige (ishr .u64 a0 32) 65536) (Ts 1 (((0 <= (16 : Int)) /\ Ts 6 (cond (ige (ishr .u64 (ishr .u64 a0 32) 16) 256) (Ts 1 (((0 <= (8 : Int)) /\ Ts 7 (((0 <= (iconv .u8 (ishr .u64 (ishr .u64 (ishr .u64 a0 32) 16) 8)) /\ (iconv .u8 (ishr .u64 (ishr .u64 (ishr .u64 a0 32) 16) 8)) < ((256 : Nat) : Int)) /\ Ts 3 (K0 (iadd .i64 (iadd .i64 (iadd .i64 32 16) 8) (iconv .i64 (strAt str0 (Int.toNat (iconv .u8 (ishr .u64 (ishr .u64 (ishr .u64 a0 32) 16) 8)))))))))))) (Ts 3 (((0 <= (iconv .u8 (ishr .u64 (ishr .u64 a0 32) 16)) /\ (iconv .u8 (ishr .u64 (ishr .u64 a0 32) 16)) < ((256 : Nat) : Int)) /\ Ts 3 (K0 (iadd .i64 (iadd .i64 32 16) (iconv .i64 (strAt str0 (Int.toNat (iconv .u8 (ishr .u64 (ishr .u64 a0 32) 16)))))))))))))) (Ts 2 (cond (ige (ishr .u64 a0 32) 256) (Ts 1 (((0 <= (8 : Int)) /\ Ts 7 (((0 <= (iconv .u8 (ishr .u64 (ishr .u64 a0 32) 8)) /\ (iconv .u8 (ishr .u64 (ishr .u64 a0 32) 8)) < ((256 : Nat) : Int)) /\ Ts 3 (K0 (iadd .i64 (iadd .i64 32 8) (iconv .i64 (strAt str0 (Int.toNat (iconv .u8 (ishr .u64 (ishr .u64 a0 32) 8)))))))))))) (Ts 3 (((0 <= (iconv .u8 (ishr .u64 a0 32)) /\ (iconv .u8 (ishr .u64 a0 32)) < ((256 : Nat) : Int)) /\ Ts 3 (K0 (iadd .i64 32 (iconv .i64 (strAt str0 (Int.toNat (iconv .u8 (ishr .u64 a0 32)))))))))))))))) (Ts 2 (cond (ige a0 65536) (Ts 1 (((0 <= (16 : Int)) /\ Ts 6 (cond (ige (ishr .u64 a0 16) 256) (Ts 1 (((0 <= (8 : Int)) /\ Ts 7 (((0 <= (iconv .u8 (ishr .u64 (ishr .u64 a0 16) 8)) /\ (iconv .u8 (ishr .u64 (ishr .u64 a0 16) 8)) < ((256 : Nat) : Int)) /\ Ts 3 (K0 (iadd .i64 (iadd .i64 (iadd .i64 0 16) 8) (iconv .i64 (strAt str0 (Int.toNat (iconv .u8 (ishr .u64 (ishr .u64 a0 16) 8)))))))))))) (Ts 3 (((0 <= (iconv .u8 (ishr .u64 a0 16)) /\ (iconv .u8 (ishr .u64 a0 16)) < ((256 : Nat) : Int)) /\ Ts 3 (K0 (iadd .i64 (iadd .i64 0 16) (iconv .i64 (strAt str0 (Int.toNat (iconv .u8 (ishr .u64 a0 16)))))))))))))) (Ts 2 (cond (ige a0 256) (Ts 1 (((0 <= (8 : Int)) /\ Ts 7 (((0 <= (iconv .u8 (ishr .u64 a0 8)) /\ (iconv .u8 (ishr .u64 a0 8)) < ((256 : Nat) : Int)) /\ Ts 3 (K0 (iadd .i64 (iadd .i64 0 8) (iconv .i64 (strAt str0 (Int.toNat (iconv .u8 (ishr .u64 a0 8)))))))))))) (Ts 3 (((0 <= (iconv .u8 a0) /\ (iconv .u8 a0) < ((256 : Nat) : Int)) /\ Ts 3 (K0 (iadd .i64 0 (iconv .i64 (strAt str0 (Int.toNat (iconv .u8 a0))))))))))))))
def P_d9 (a0 : Int) : Prop := (cond (ige a0 4294967296) (cond (ige (ishr .u64 a0 32) 65536) (cond (ige (ishr .u64 (ishr .u64 a0 32) 16) 256) (0 <= (iconv .u8 (ishr .u64 (ishr .u64 (ishr .u64 a0 32) 16) 8)) /\ (iconv .u8 (ishr .u64 (ishr .u64 (ishr .u64 a0 32) 16) 8)) < ((256 : Nat) : Int)) (0 <= (iconv .u8 (ishr .u64 (ishr .u64 a0 32) 16)) /\ (iconv .u8 (ishr .u64 (ishr .u64 a0 32) 16)) < ((256 : Nat) : Int))) (cond (ige (ishr .u64 a0 32) 256) (0 <= (iconv .u8 (ishr .u64 (ishr .u64 a0 32) 8)) /\ (iconv .u8 (ishr .u64 (ishr .u64 a0 32) 8)) < ((256 : Nat) : Int)) (0 <= (iconv .u8 (ishr .u64 a0 32)) /\ (iconv .u8 (ishr .u64 a0 32)) < ((256 : Nat) : Int)))) (cond (ige a0 65536) (cond (ige (ishr .u64 a0 16) 256) (0 <= (iconv .u8 (ishr .u64 (ishr .u64 a0 16) 8)) /\ (iconv .u8 (ishr .u64 (ishr .u64 a0 16) 8)) < ((256 : Nat) : Int)) (0 <= (iconv .u8 (ishr .u64 a0 16)) /\ (iconv .u8 (ishr .u64 a0 16)) < ((256 : Nat) : Int))) (cond (ige a0 256) (0 <= (iconv .u8 (ishr .u64 a0 8)) /\ (iconv .u8 (ishr .u64 a0 8)) < ((256 : Nat) : Int)) (0 <= (iconv .u8 a0) /\ (iconv .u8 a0) < ((256 : Nat) : Int)))))
def F_d9_0 (a0 : Int) : Int := (cond (ige a0 4294967296) (cond (ige (ishr .u64 a0 32) 65536) (cond (ige (ishr .u64 (ishr .u64 a0 32) 16) 256) (iadd .i64 (iadd .i64 (iadd .i64 32 16) 8) (iconv .i64 (strAt str0 (Int.toNat (iconv .u8 (ishr .u64 (ishr .u64 (ishr .u64 a0 32) 16) 8)))))) (iadd .i64 (iadd .i64 32 16) (iconv .i64 (strAt str0 (Int.toNat (iconv .u8 (ishr .u64 (ishr .u64 a0 32) 16))))))) (cond (ige (ishr .u64 a0 32) 256) (iadd .i64 (iadd .i64 32 8) (iconv .i64 (strAt str0 (Int.toNat (iconv .u8 (ishr .u64 (ishr .u64 a0 32) 8)))))) (iadd .i64 32 (iconv .i64 (strAt str0 (Int.toNat (iconv .u8 (ishr .u64 a0 32)))))))) (cond (ige a0 65536) (cond (ige (ishr .u64 a0 16) 256) (iadd .i64 (iadd .i64 (iadd .i64 0 16) 8) (iconv .i64 (strAt str0 (Int.toNat (iconv .u8 (ishr .u64 (ishr .u64 a0 16) 8)))))) (iadd .i64 (iadd .i64 0 16) (iconv .i64 (strAt str0 (Int.toNat (iconv .u8 (ishr .u64 a0 16))))))) (cond (ige a0 256) (iadd .i64 (iadd .i64 0 8) (iconv .i64 (strAt str0 (Int.toNat (iconv .u8 (ishr .u64 a0 8)))))) (iadd .i64 0 (iconv .i64 (strAt str0 (Int.toNat (iconv .u8 a0))))))))
theorem H_d9 (a0 : Int) {K0 : Int -> Prop} (h : P_d9 a0) (hK : K0 (F_d9_0 a0)) : B_d9 a0 K0  := by
 unfold B_d9 P_d9 F_d9_0 at *
 simp only [Ts_iff, true_and]; try simp only [Ts_iff, true_and] at h
 repeat' first | exact hK | (refine cond_intro (fun c => ?_) (fun c => ?_) <;> try simp only [c, cond_true, cond_false] at h hK ⊢) | refine ⟨rfl, ?_⟩ | refine ⟨trivial, ?_⟩ | refine ⟨by decide, ?_⟩ | (refine ⟨h.1, ?_⟩; replace h := h.2) | refine ⟨h, ?_⟩
theorem tab8 : ∀ v : Nat, v < 256 -> ((str0[v]?.getD 0).toNat) <= 8 /\ v < 2 ^ ((str0[v]?.getD 0).toNat) /\ (v ≠ 0 -> 1 <= ((str0[v]?.getD 0).toNat) /\ 2 ^ (((str0[v]?.getD 0).toNat) - 1) <= v) := by decide +kernel
def isLen (x : Int) (k : Nat) : Prop := x < 2 ^ k /\ (x ≠ 0 -> 1 <= k /\ 2 ^ (k - 1) <= x)
theorem tab8' {x : Int} (h : 0 <= x /\ x < 256) : ∃ k : Nat, strAt str0 x.toNat = (k : Int) /\ k <= 8 /\ isLen x k := by
  obtain ⟨v, rfl⟩ := Int.eq_ofNat_of_zero_le h.1
  obtain ⟨h1, h2, h3⟩ := tab8 v (by omega)
  refine ⟨(str0[v]?.getD 0).toNat, by rw [strAt_eq]; rfl, h1, ?_, fun hne => ?_⟩
  · exact_mod_cast h2
  · obtain ⟨a, b⟩ := h3 (by omega)
    exact ⟨a, by exact_mod_cast b⟩
theorem wrap8 {a : Int} (h : 0 <= a /\ a < 256) : iconv .u8 a = a := by
  rw [iconv_eq]
  show IntKind.u8.wrap a = a
  unfold IntKind.wrap
  simp [IntKind.bits, IntKind.signed]
  omega
theorem isLen_shr {x : Int} {j k : Nat} (hx : 2 ^ j <= x) (h : isLen (x / 2 ^ j) k) : isLen x (j + k) := by
  have hp : (0 : Int) < 2 ^ j := Int.pow_pos (by decide)
  obtain ⟨b1, b2⟩ := ediv_bounds (x := x) hp
  obtain ⟨h1, h2⟩ := h
  have hq : 1 <= x / 2 ^ j := (Int.le_ediv_iff_mul_le hp).2 (by omega)
  obtain ⟨h3, h4⟩ := h2 (by omega)
  generalize x / 2 ^ j = q at *
  refine ⟨?_, fun _ => ⟨by omega, ?_⟩⟩
  · rw [Nat.add_comm, pow_split]
    exact Int.lt_of_lt_of_le b2 (mul_mono (show q + 1 <= 2 ^ k by omega) (by omega))
  · rw [show j + k - 1 = (k - 1) + j by omega, pow_split]
    exact Int.le_trans (mul_mono h4 (by omega)) b1
theorem len_fin {x : Int} {j : Nat} {c : Int} (hx : 0 <= x) (hc : c = (j : Int)) (hj : j <= 56) (hx : 0 <= x /\ x / 2 ^ j < 256) (hb : 2 ^ j <= x ∨ j = 0) :
    (0 <= iconv .u8 (x / 2 ^ j) /\ iconv .u8 (x / 2 ^ j) < ((256 : Nat) : Int)) /\ ∃ k : Nat, iadd .i64 c (iconv .i64 (strAt str0 (Int.toNat (iconv .u8 (x / 2 ^ j))))) = (k : Int) /\ k <= 64 /\ isLen x k := by
  have hp : (0 : Int) < 2 ^ j := Int.pow_pos (by decide)
  have h0 := Int.ediv_nonneg hx.1 (show (0 : Int) <= 2 ^ j by omega)
  rw [wrap8 ⟨h0, hx.2⟩]
  refine ⟨⟨h0, hx.2⟩, ?_⟩
  obtain ⟨k, e, hk, hl⟩ := tab8' ⟨h0, hx.2⟩
  rw [e, iconvI ⟨by omega, by omega⟩, hc, iadd64 (by omega) (by omega)]
  refine ⟨j + k, by omega, by omega, ?_⟩
  rcases hb with hb | hb
  · exact isLen_shr hb hl
  · subst hb
    rw [show x / 2 ^ 0 = x by rw [Int.pow_zero]; exact Int.ediv_one x] at hl
    rwa [Nat.zero_add]
theorem Len64_ok {x : Int} (hx : U64 x) : P_d9 x /\ ∃ k : Nat, F_d9_0 x = (k : Int) /\ k <= 64 /\ isLen x k := by
  obtain ⟨h1, h2⟩ := hx
  unfold P_d9 F_d9_0
  have s32 : ∀ a, ishr .u64 a 32 = a / 4294967296 := ishr32
  have s16 : ∀ a, ishr .u64 a 16 = a / 65536 := fun a => ishrU a 16 (by decide)
  have s8 : ∀ a, ishr .u64 a 8 = a / 256 := fun a => ishrU a 8 (by decide)
  have c1 : iadd .i64 32 16 = 48 := by rw [iadd64] <;> omega
  have c2 : iadd .i64 48 8 = 56 := by rw [iadd64] <;> omega
  have c3 : iadd .i64 32 8 = 40 := by rw [iadd64] <;> omega
  have c4 : iadd .i64 0 16 = 16 := by rw [iadd64] <;> omega
  have c5 : iadd .i64 16 8 = 24 := by rw [iadd64] <;> omega
  have c6 : iadd .i64 0 8 = 8 := by rw [iadd64] <;> omega
  simp only [s32, s16, s8, c1, c2, c3, c4, c5, c6]
  have fin : ∀ (j : Nat) (y : Int), j <= 56 -> x / 2 ^ j = y -> y < 256 -> (2 ^ j <= x ∨ j = 0) -> (0 <= iconv .u8 y /\ iconv .u8 y < ((256 : Nat) : Int)) /\ ∃ k : Nat, iadd .i64 (j : Int) (iconv .i64 (strAt str0 (Int.toNat (iconv .u8 y)))) = (k : Int) /\ k <= 64 /\ isLen x k := by
    intro j y hj hy hlt hb
    subst hy
    exact len_fin h1 rfl hj ⟨h1, hlt⟩ hb
  cases g1 : ige x 4294967296 with
  | true =>
    rw [ige_t] at g1
    simp only [cond_true]
    cases g2 : ige (x / 4294967296) 65536 with
    | true =>
      rw [ige_t] at g2
      simp only [cond_true]
      cases g3 : ige (x / 4294967296 / 65536) 256 with
      | true => rw [ige_t] at g3; simp only [cond_true]; exact fin 56 _ (by omega) (by rw [show (2 : Int) ^ 56 = 72057594037927936 by decide]; omega) (by omega) (.inl (by rw [show (2 : Int) ^ 56 = 72057594037927936 by decide]; omega))
      | false => rw [ige_f] at g3; simp only [cond_false]; exact fin 48 _ (by omega) (by rw [show (2 : Int) ^ 48 = 281474976710656 by decide]; omega) (by omega) (.inl (by rw [show (2 : Int) ^ 48 = 281474976710656 by decide]; omega))
    | false =>
      rw [ige_f] at g2
      simp only [cond_false]
      cases g3 : ige (x / 4294967296) 256 with
      | true => rw [ige_t] at g3; simp only [cond_true]; exact fin 40 _ (by omega) (by rw [show (2 : Int) ^ 40 = 1099511627776 by decide]; omega) (by omega) (.inl (by rw [show (2 : Int) ^ 40 = 1099511627776 by decide]; omega))
      | false => rw [ige_f] at g3; simp only [cond_false]; exact fin 32 _ (by omega) (by rw [show (2 : Int) ^ 32 = 4294967296 by decide]) (by omega) (.inl (by rw [show (2 : Int) ^ 32 = 4294967296 by decide]; omega))
  | false =>
    rw [ige_f] at g1
    simp only [cond_false]
    cases g2 : ige x 65536 with
    | true =>
      rw [ige_t] at g2
      simp only [cond_true]
      cases g3 : ige (x / 65536) 256 with
      | true => rw [ige_t] at g3; simp only [cond_true]; exact fin 24 _ (by omega) (by rw [show (2 : Int) ^ 24 = 16777216 by decide]; omega) (by omega) (.inl (by rw [show (2 : Int) ^ 24 = 16777216 by decide]; omega))
      | false => rw [ige_f] at g3; simp only [cond_false]; exact fin 16 _ (by omega) (by rw [show (2 : Int) ^ 16 = 65536 by decide]) (by omega) (.inl (by rw [show (2 : Int) ^ 16 = 65536 by decide]; omega))
    | false =>
      rw [ige_f] at g2
      simp only [cond_false]
      cases g3 : ige x 256 with
      | true => rw [ige_t] at g3; simp only [cond_true]; exact fin 8 _ (by omega) (by rw [show (2 : Int) ^ 8 = 256 by decide]) (by omega) (.inl (by rw [show (2 : Int) ^ 8 = 256 by decide]; omega))
      | false => rw [ige_f] at g3; simp only [cond_false]; exact fin 0 _ (by omega) (by rw [Int.pow_zero, Int.ediv_one]) (by omega) (.inr rfl)
def B_ak (a0 : Int) (K0 : Int -> Prop)  : Prop := Ts 2 (((P_d9 a0) /\ Ts 2 (K0 (isub .i64 64 (F_d9_0 a0)))))
def P_ak (a0 : Int) : Prop := (P_d9 a0)
def F_ak_0 (a0 : Int) : Int := (isub .i64 64 (F_d9_0 a0))
theorem H_ak (a0 : Int) {K0 : Int -> Prop} (h : P_ak a0) (hK : K0 (F_ak_0 a0)) : B_ak a0 K0  := by
 unfold B_ak P_ak F_ak_0 at *
 simp only [Ts_iff, true_and]; try simp only [Ts_iff, true_and] at h
 repeat' first | exact hK | refine ⟨rfl, ?_⟩ | refine ⟨trivial, ?_⟩ | refine ⟨by decide, ?_⟩ | (refine ⟨h.1, ?_⟩; replace h := h.2) | refine ⟨h, ?_⟩
theorem iquoU {a b : Int} (ha : U64 a) (hb : 0 < b) : iquo .u64 a b = a / b := by
  rw [iquo_eq]
  show IntKind.u64.wrap (a.tdiv b) = a / b
  rw [Int.tdiv_eq_ediv_of_nonneg ha.1, wrapU]
  have h1 := Int.ediv_nonneg ha.1 (show 0 <= b by omega)
  have h2 := Int.ediv_le_self b ha.1
  have := ha.2
  exact Int.emod_eq_of_lt h1 (by omega)
theorem iremU {a b : Int} (ha : 0 <= a) : irem .u64 a b = a - a / b * b := by
  rw [irem_eq]
  show a.tmod b = _
  rw [Int.tmod_eq_emod_of_nonneg ha, Int.emod_def, Int.mul_comm]
theorem KnG.done {u un1 yn1 yn0 q r Y : Int} (h : KnG u un1 yn1 yn0 q r) (hY : Y = yn1 * 4294967296 + yn0) (h0 : 0 < Y) (hle : q * (yn1 * 4294967296 + yn0) <= u * 4294967296 + un1) : (u * 4294967296 + un1) / Y = q := by
  rw [hY] at h0 ⊢
  exact ediv_unique h0 hle h.up
theorem LZ_ok {x : Int} (hx : U64 x) (h0 : x ≠ 0) : P_ak x /\ ∃ s : Nat, iconv .u64 (F_ak_0 x) = (s : Int) /\ s <= 63 /\ x * 2 ^ s < 18446744073709551616 /\ 9223372036854775808 <= x * 2 ^ s /\ isub .u64 64 (s : Int) = ((64 - s : Nat) : Int) := by
  obtain ⟨p, k, e, hk, h1, h2⟩ := Len64_ok hx
  obtain ⟨h2, h3⟩ := h2 h0
  refine ⟨p, 64 - k, ?_, by omega, ?_, ?_, ?_⟩
  · unfold F_ak_0
    rw [e, isub64 (by omega) (by omega), iconvU, Int.emod_eq_of_lt (by omega) (by omega)]
    omega
  · have := Int.mul_lt_mul_of_pos_right h1 (show (0 : Int) < 2 ^ (64 - k) from Int.pow_pos (by decide))
    rw [← pow_split, show k + (64 - k) = 64 by omega] at this
    exact this
  · have := mul_mono h3 (show (0 : Int) <= 2 ^ (64 - k) from Int.le_of_lt (Int.pow_pos (by decide)))
    rw [← pow_split, show k - 1 + (64 - k) = 63 by omega] at this
    exact this
  · rw [isubU, Int.emod_eq_of_lt (by omega) (by omega)]
    omega
theorem shl2 {hi lo : Int} {s : Nat} (hs : s <= 63) (h1 : 0 <= hi) (h2 : U64 lo) (h3 : hi * 2 ^ s < 18446744073709551616) :
    ior .u64 (ishl .u64 hi (s : Int)) (ishr .u64 lo ((64 - s : Nat) : Int)) = hi * 2 ^ s + lo / 2 ^ (64 - s) /\ U64 (ishl .u64 lo (s : Int)) /\
    (hi * 2 ^ s + lo / 2 ^ (64 - s)) * 18446744073709551616 + ishl .u64 lo (s : Int) = (hi * 18446744073709551616 + lo) * 2 ^ s := by
  have hp : (0 : Int) < 2 ^ s := Int.pow_pos (by decide)
  have hq : (0 : Int) < 2 ^ (64 - s) := Int.pow_pos (by decide)
  have e64 : (18446744073709551616 : Int) = 2 ^ (64 - s) * 2 ^ s := by rw [← pow_split, show 64 - s + s = 64 by omega]; decide
  have hd : lo * 2 ^ s / 18446744073709551616 = lo / 2 ^ (64 - s) := by
    rw [e64]
    exact Int.mul_ediv_mul_of_pos_left _ _ hp
  have h0 := Int.mul_nonneg h1 (Int.le_of_lt hp)
  rw [ishlU hi s (by omega), ishrU lo (64 - s) (by omega), ishlU lo s (by omega)]
  have hl0 := Int.ediv_nonneg h2.1 (Int.le_of_lt hq)
  have hl1 : lo / 2 ^ (64 - s) < 2 ^ s := Int.ediv_lt_of_lt_mul hq (by rw [Int.mul_comm, ← e64]; exact h2.2)
  rw [Int.emod_eq_of_lt h0 h3, ior_disj s (by omega) ⟨h0, h3⟩ h1 ⟨hl0, hl1⟩]
  refine ⟨rfl, ⟨Int.emod_nonneg _ (by decide), Int.emod_lt_of_pos _ (by decide)⟩, ?_⟩
  rw [← hd, Int.add_mul, Int.add_mul, Int.mul_right_comm]
  generalize hi * 18446744073709551616 * 2 ^ s = a
  generalize lo * 2 ^ s = b at *
  omega
def B_dy (a0 a1 : Int) (K0 : Int -> Int -> Prop)  : Prop := Ts 6 (((0 <= (32 : Int)) /\ Ts 5 (((0 <= (32 : Int)) /\ Ts 9 (((0 <= (32 : Int)) /\ Ts 6 (((0 <= (32 : Int)) /\ Ts 13 (((0 <= (32 : Int)) /\ Ts 6 (K0 (iadd .u64 (iadd .u64 (imul .u64 (ishr .u64 a0 32) (ishr .u64 a1 32)) (ishr .u64 (iadd .u64 (imul .u64 (ishr .u64 a0 32) (iand .u64 a1 4294967295)) (ishr .u64 (imul .u64 (iand .u64 a0 4294967295) (iand .u64 a1 4294967295)) 32)) 32)) (ishr .u64 (iadd .u64 (iand .u64 (iadd .u64 (imul .u64 (ishr .u64 a0 32) (iand .u64 a1 4294967295)) (ishr .u64 (imul .u64 (iand .u64 a0 4294967295) (iand .u64 a1 4294967295)) 32)) 4294967295) (imul .u64 (iand .u64 a0 4294967295) (ishr .u64 a1 32))) 32)) (imul .u64 a0 a1))))))))))))
def P_dy (a0 a1 : Int) : Prop := True
def F_dy_0 (a0 a1 : Int) : Int := (iadd .u64 (iadd .u64 (imul .u64 (ishr .u64 a0 32) (ishr .u64 a1 32)) (ishr .u64 (iadd .u64 (imul .u64 (ishr .u64 a0 32) (iand .u64 a1 4294967295)) (ishr .u64 (imul .u64 (iand .u64 a0 4294967295) (iand .u64 a1 4294967295)) 32)) 32)) (ishr .u64 (iadd .u64 (iand .u64 (iadd .u64 (imul .u64 (ishr .u64 a0 32) (iand .u64 a1 4294967295)) (ishr .u64 (imul .u64 (iand .u64 a0 4294967295) (iand .u64 a1 4294967295)) 32)) 4294967295) (imul .u64 (iand .u64 a0 4294967295) (ishr .u64 a1 32))) 32))
def F_dy_1 (a0 a1 : Int) : Int := (imul .u64 a0 a1)
theorem H_dy (a0 a1 : Int) {K0 : Int -> Int -> Prop} (h : P_dy a0 a1) (hK : K0 (F_dy_0 a0 a1) (F_dy_1 a0 a1)) : B_dy a0 a1 K0  := by
 unfold B_dy P_dy F_dy_0 F_dy_1 at *
 simp only [Ts_iff, true_and]
 repeat' first | exact hK | refine ⟨rfl, ?_⟩ | refine ⟨trivial, ?_⟩ | refine ⟨by decide, ?_⟩ | (refine ⟨h.1, ?_⟩; replace h := h.2) | refine ⟨h, ?_⟩
def B_de (a0 : Int) (K0 : Bool -> Prop)  : Prop := Ts 5 (K0 (ine a0 a0))
def P_de (a0 : Int) : Prop := True
def F_de_0 (a0 : Int) : Bool := (ine a0 a0)
theorem H_de (a0 : Int) {K0 : Bool -> Prop} (h : P_de a0) (hK : K0 (F_de_0 a0)) : B_de a0 K0  := by
 unfold B_de P_de F_de_0 at *
 exact Ts_iff.2 hK
def B_cl (a0 a1 : Int) (K0 : Int -> Prop)  : Prop := Ts 2 (((P_de a0) /\ Ts 2 (((P_de a1) /\ Ts 2 (cond (F_de_0 a0) (Ts 1 (cond (F_de_0 a1) (Ts 1 (K0 0)) (Ts 1 (K0 (-1))))) (Ts 1 (cond (F_de_0 a1) (Ts 1 (K0 1)) (Ts 3 (cond (ilt a0 a1) (Ts 1 (K0 (-1))) (Ts 3 (cond (igt a0 a1) (Ts 1 (K0 1)) (Ts 1 (K0 0)))))))))))))
def P_cl (a0 a1 : Int) : Prop := True
def F_cl_0 (a0 a1 : Int) : Int := (cond (F_de_0 a0) (cond (F_de_0 a1) 0 (-1)) (cond (F_de_0 a1) 1 (cond (ilt a0 a1) (-1) (cond (igt a0 a1) 1 0))))
theorem H_cl (a0 a1 : Int) {K0 : Int -> Prop} (h : P_cl a0 a1) (hK : K0 (F_cl_0 a0 a1)) : B_cl a0 a1 K0  := by
 unfold B_cl P_cl F_cl_0 at *
 simp only [Ts_iff, true_and]
 repeat' first | exact hK | (refine cond_intro (fun c => ?_) (fun c => ?_) <;> try simp only [c, cond_true, cond_false] at h hK ⊢) | refine ⟨rfl, ?_⟩ | refine ⟨trivial, ?_⟩ | refine ⟨by decide, ?_⟩ | (refine ⟨h.1, ?_⟩; replace h := h.2) | refine ⟨h, ?_⟩
def B_a9_0 (a0 a1 a2 il ju : Int) (c x0 : Int -> Int -> Prop)  : Prop := Ts 3 (cond (ige il 4294967296) (Ts 10 (cond (ige (iadd .u64 ju (ishr .u64 (ishl .u64 a2 (iconv .u64 (F_ak_0 a2))) 32)) 4294967296) (x0 (isub .u64 il 1) (iadd .u64 ju (ishr .u64 (ishl .u64 a2 (iconv .u64 (F_ak_0 a2))) 32))) (c (isub .u64 il 1) (iadd .u64 ju (ishr .u64 (ishl .u64 a2 (iconv .u64 (F_ak_0 a2))) 32))))) (Ts 9 (cond (igt (imul .u64 il (iand .u64 (ishl .u64 a2 (iconv .u64 (F_ak_0 a2))) 4294967295)) (iadd .u64 (imul .u64 4294967296 ju) (ishr .u64 (ishl .u64 a1 (iconv .u64 (F_ak_0 a2))) 32))) (Ts 9 (cond (ige (iadd .u64 ju (ishr .u64 (ishl .u64 a2 (iconv .u64 (F_ak_0 a2))) 32)) 4294967296) (x0 (isub .u64 il 1) (iadd .u64 ju (ishr .u64 (ishl .u64 a2 (iconv .u64 (F_ak_0 a2))) 32))) (c (isub .u64 il 1) (iadd .u64 ju (ishr .u64 (ishl .u64 a2 (iconv .u64 (F_ak_0 a2))) 32))))) (x0 il ju))))
def W_a9_0 (a0 a1 a2 : Int) : Nat -> Int -> Int -> (Int -> Int -> Prop) -> Prop
  | 0, _, _, _ => False
  | f + 1, w0, w1, x0 => B_a9_0 a0 a1 a2 w0 w1 (fun u0 u1 => W_a9_0 a0 a1 a2 f u0 u1 x0) x0 
theorem BM_a9_0 (a0 a1 a2 il ju : Int) {c c' : Int -> Int -> Prop} {x0 y0 : Int -> Int -> Prop} (hc : ∀ w0 w1, c w0 w1 -> c' w0 w1) (h0 : ∀ o0 o1, x0 o0 o1 -> y0 o0 o1) : B_a9_0 a0 a1 a2 il ju c x0  -> B_a9_0 a0 a1 a2 il ju c' y0  := by
  unfold B_a9_0
  repeat' first
    | exact hc _ _
    | exact h0 _ _
    | refine Ts_imp ?_
    | refine cond_imp ?_ ?_
    | refine and_imp' ?_
theorem WM_a9_0 (a0 a1 a2 : Int) {x0 y0 : Int -> Int -> Prop} (h0 : ∀ o0 o1, x0 o0 o1 -> y0 o0 o1) : ∀ (f : Nat) (il ju : Int), W_a9_0 a0 a1 a2 f il ju x0 -> W_a9_0 a0 a1 a2 f il ju y0
  | 0, w0, w1 => fun h => h
  | f + 1, w0, w1 => BM_a9_0 a0 a1 a2 w0 w1 (fun u0 u1 => WM_a9_0 a0 a1 a2 h0 f u0 u1) h0
def B_a9_1 (a0 a1 a2 j6 jv j7 jx : Int) (c x0 : Int -> Int -> Int -> Int -> Prop)  : Prop := Ts 3 (cond (ige jx 4294967296) (Ts 10 (cond (ige (iadd .u64 jv (ishr .u64 (ishl .u64 a2 (iconv .u64 (F_ak_0 a2))) 32)) 4294967296) (x0 j6 (iadd .u64 jv (ishr .u64 (ishl .u64 a2 (iconv .u64 (F_ak_0 a2))) 32)) j7 (isub .u64 jx 1)) (c j6 (iadd .u64 jv (ishr .u64 (ishl .u64 a2 (iconv .u64 (F_ak_0 a2))) 32)) j7 (isub .u64 jx 1)))) (Ts 9 (cond (igt (imul .u64 jx (iand .u64 (ishl .u64 a2 (iconv .u64 (F_ak_0 a2))) 4294967295)) (iadd .u64 (imul .u64 4294967296 jv) (iand .u64 (ishl .u64 a1 (iconv .u64 (F_ak_0 a2))) 4294967295))) (Ts 9 (cond (ige (iadd .u64 jv (ishr .u64 (ishl .u64 a2 (iconv .u64 (F_ak_0 a2))) 32)) 4294967296) (x0 j6 (iadd .u64 jv (ishr .u64 (ishl .u64 a2 (iconv .u64 (F_ak_0 a2))) 32)) j7 (isub .u64 jx 1)) (c j6 (iadd .u64 jv (ishr .u64 (ishl .u64 a2 (iconv .u64 (F_ak_0 a2))) 32)) j7 (isub .u64 jx 1)))) (x0 j6 jv j7 jx))))
def W_a9_1 (a0 a1 a2 : Int) : Nat -> Int -> Int -> Int -> Int -> (Int -> Int -> Int -> Int -> Prop) -> Prop
  | 0, _, _, _, _, _ => False
  | f + 1, w0, w1, w2, w3, x0 => B_a9_1 a0 a1 a2 w0 w1 w2 w3 (fun u0 u1 u2 u3 => W_a9_1 a0 a1 a2 f u0 u1 u2 u3 x0) x0 
theorem BM_a9_1 (a0 a1 a2 j6 jv j7 jx : Int) {c c' : Int -> Int -> Int -> Int -> Prop} {x0 y0 : Int -> Int -> Int -> Int -> Prop} (hc : ∀ w0 w1 w2 w3, c w0 w1 w2 w3 -> c' w0 w1 w2 w3) (h0 : ∀ o0 o1 o2 o3, x0 o0 o1 o2 o3 -> y0 o0 o1 o2 o3) : B_a9_1 a0 a1 a2 j6 jv j7 jx c x0  -> B_a9_1 a0 a1 a2 j6 jv j7 jx c' y0  := by
  unfold B_a9_1
  repeat' first
    | exact hc _ _ _ _
    | exact h0 _ _ _ _
    | refine Ts_imp ?_
    | refine cond_imp ?_ ?_
    | refine and_imp' ?_
theorem WM_a9_1 (a0 a1 a2 : Int) {x0 y0 : Int -> Int -> Int -> Int -> Prop} (h0 : ∀ o0 o1 o2 o3, x0 o0 o1 o2 o3 -> y0 o0 o1 o2 o3) : ∀ (f : Nat) (j6 jv j7 jx : Int), W_a9_1 a0 a1 a2 f j6 jv j7 jx x0 -> W_a9_1 a0 a1 a2 f j6 jv j7 jx y0
  | 0, w0, w1, w2, w3 => fun h => h
  | f + 1, w0, w1, w2, w3 => BM_a9_1 a0 a1 a2 w0 w1 w2 w3 (fun u0 u1 u2 u3 => WM_a9_1 a0 a1 a2 h0 f u0 u1 u2 u3) h0
def B_a9 (a0 a1 a2 : Int) (K0 : Int -> Int -> Prop) (l0 : Int -> Int -> (Int -> Int -> Prop) -> Prop) (l1 : Int -> Int -> Int -> Int -> (Int -> Int -> Int -> Int -> Prop) -> Prop) : Prop := Ts 4 (cond (ieq a2 0) (False) (Ts 3 (cond (ile a2 a0) (False) (Ts 2 (cond (ieq a0 0) (Ts 2 (((a2 ≠ 0) /\ Ts 2 (((a2 ≠ 0) /\ Ts 2 ((true = true /\ K0 (iquo .u64 a1 a2) (irem .u64 a1 a2)))))))) (Ts 1 (((P_ak a2) /\ Ts 4 (((0 <= (iconv .u64 (F_ak_0 a2))) /\ Ts 2 (((0 <= (32 : Int)) /\ Ts 6 (((0 <= (iconv .u64 (F_ak_0 a2))) /\ Ts 3 (((0 <= (isub .u64 64 (iconv .u64 (F_ak_0 a2)))) /\ Ts 4 (((0 <= (iconv .u64 (F_ak_0 a2))) /\ Ts 2 (((0 <= (32 : Int)) /\ Ts 6 ((((ishr .u64 (ishl .u64 a2 (iconv .u64 (F_ak_0 a2))) 32) ≠ 0) /\ Ts 7 ((l0 (iquo .u64 (ior .u64 (ishl .u64 a0 (iconv .u64 (F_ak_0 a2))) (ishr .u64 a1 (isub .u64 64 (iconv .u64 (F_ak_0 a2))))) (ishr .u64 (ishl .u64 a2 (iconv .u64 (F_ak_0 a2))) 32)) (isub .u64 (ior .u64 (ishl .u64 a0 (iconv .u64 (F_ak_0 a2))) (ishr .u64 a1 (isub .u64 64 (iconv .u64 (F_ak_0 a2))))) (imul .u64 (iquo .u64 (ior .u64 (ishl .u64 a0 (iconv .u64 (F_ak_0 a2))) (ishr .u64 a1 (isub .u64 64 (iconv .u64 (F_ak_0 a2))))) (ishr .u64 (ishl .u64 a2 (iconv .u64 (F_ak_0 a2))) 32)) (ishr .u64 (ishl .u64 a2 (iconv .u64 (F_ak_0 a2))) 32))) (fun kl l8 => Ts 11 ((((ishr .u64 (ishl .u64 a2 (iconv .u64 (F_ak_0 a2))) 32) ≠ 0) /\ Ts 7 ((l1 kl (isub .u64 (isub .u64 (iadd .u64 (imul .u64 (ior .u64 (ishl .u64 a0 (iconv .u64 (F_ak_0 a2))) (ishr .u64 a1 (isub .u64 64 (iconv .u64 (F_ak_0 a2))))) 4294967296) (ishr .u64 (ishl .u64 a1 (iconv .u64 (F_ak_0 a2))) 32)) (imul .u64 kl (ishl .u64 a2 (iconv .u64 (F_ak_0 a2))))) (imul .u64 (iquo .u64 (isub .u64 (iadd .u64 (imul .u64 (ior .u64 (ishl .u64 a0 (iconv .u64 (F_ak_0 a2))) (ishr .u64 a1 (isub .u64 64 (iconv .u64 (F_ak_0 a2))))) 4294967296) (ishr .u64 (ishl .u64 a1 (iconv .u64 (F_ak_0 a2))) 32)) (imul .u64 kl (ishl .u64 a2 (iconv .u64 (F_ak_0 a2))))) (ishr .u64 (ishl .u64 a2 (iconv .u64 (F_ak_0 a2))) 32)) (ishr .u64 (ishl .u64 a2 (iconv .u64 (F_ak_0 a2))) 32))) (isub .u64 (iadd .u64 (imul .u64 (ior .u64 (ishl .u64 a0 (iconv .u64 (F_ak_0 a2))) (ishr .u64 a1 (isub .u64 64 (iconv .u64 (F_ak_0 a2))))) 4294967296) (ishr .u64 (ishl .u64 a1 (iconv .u64 (F_ak_0 a2))) 32)) (imul .u64 kl (ishl .u64 a2 (iconv .u64 (F_ak_0 a2))))) (iquo .u64 (isub .u64 (iadd .u64 (imul .u64 (ior .u64 (ishl .u64 a0 (iconv .u64 (F_ak_0 a2))) (ishr .u64 a1 (isub .u64 64 (iconv .u64 (F_ak_0 a2))))) 4294967296) (ishr .u64 (ishl .u64 a1 (iconv .u64 (F_ak_0 a2))) 32)) (imul .u64 kl (ishl .u64 a2 (iconv .u64 (F_ak_0 a2))))) (ishr .u64 (ishl .u64 a2 (iconv .u64 (F_ak_0 a2))) 32)) (fun ln l9 lp lf => Ts 13 (((0 <= (iconv .u64 (F_ak_0 a2))) /\ Ts 2 (K0 (iadd .u64 (imul .u64 ln 4294967296) lf) (ishr .u64 (isub .u64 (iadd .u64 (imul .u64 lp 4294967296) (iand .u64 (ishl .u64 a1 (iconv .u64 (F_ak_0 a2))) 4294967295)) (imul .u64 lf (ishl .u64 a2 (iconv .u64 (F_ak_0 a2))))) (iconv .u64 (F_ak_0 a2))))))))))))))))))))))))))))))))))))
def P_a9 (hi lo y : Int) : Prop := U64 hi /\ U64 lo /\ U64 y /\ hi < y
def F_a9_0 (hi lo y : Int) : Int := (hi * 18446744073709551616 + lo) / y
def F_a9_1 (hi lo y : Int) : Int := hi * 18446744073709551616 + lo - (hi * 18446744073709551616 + lo) / y * y
theorem kn_words {q r yn1 yn0 un : Int} {u : Int} (h : KnG u un yn1 yn0 q r) (hr : r < 4294967296) (hn : 0 <= un /\ un < 4294967296) (hy : 2147483648 <= yn1 /\ yn1 < 4294967296) (h0 : 0 <= yn0 /\ yn0 < 4294967296) :
    iadd .u64 r yn1 = r + yn1 /\ (1 <= q -> isub .u64 q 1 = q - 1) /\ (q < 4294967296 -> imul .u64 q yn0 = q * yn0) /\ iadd .u64 (imul .u64 4294967296 r) un = r * 4294967296 + un := by
  obtain ⟨q0, r0, eq, up, qm⟩ := h
  refine ⟨?_, fun h1 => ?_, fun h1 => ?_, ?_⟩
  · rw [iaddU, Int.emod_eq_of_lt (by omega) (by omega)]
  · rw [isubU, Int.emod_eq_of_lt (by omega) (by omega)]
  · have a := mul_nn q0 h0.1
    have b := Int.mul_le_mul (show q <= 4294967295 by omega) (show yn0 <= 4294967295 by omega) h0.1 (by omega)
    rw [imulU, Int.emod_eq_of_lt (by omega) (by omega)]
  · rw [imulU, iaddU, Int.mul_comm, Int.emod_eq_of_lt (show (0 : Int) <= r * 4294967296 by omega) (by omega), Int.emod_eq_of_lt (by omega) (by omega)]
theorem W_a9_0_ok {a0 a1 a2 Y L u : Int} (hY : ishl .u64 a2 (iconv .u64 (F_ak_0 a2)) = Y) (hL : ishl .u64 a1 (iconv .u64 (F_ak_0 a2)) = L) (hy : 9223372036854775808 <= Y /\ Y < 18446744073709551616) (hn : U64 L) (hu : 0 <= u /\ u < Y)
    {x0 : Int -> Int -> Prop} (hx : ∀ r, x0 ((u * 4294967296 + L / 4294967296) / Y) r) : ∀ (f : Nat) (q r : Int), KnG u (L / 4294967296) (Y / 4294967296) (Y % 4294967296) q r -> r < 4294967296 -> 4294967296 <= r + 2147483648 * (f : Int) -> W_a9_0 a0 a1 a2 f q r x0
  | 0, q, r, h, hr, hf => by omega
  | f + 1, q, r, h, hr, hf => by
    show B_a9_0 a0 a1 a2 q r _ _
    unfold B_a9_0
    have hUY : U64 Y := ⟨by omega, by omega⟩
    simp only [Ts_iff, hY, hL, ishr32, iand32 hUY]
    obtain ⟨n1, n2⟩ := hn
    have hYe : Y = Y / 4294967296 * 4294967296 + Y % 4294967296 := by omega
    have hY0 : 0 < Y := by omega
    have hlt : u < Y / 4294967296 * 4294967296 + Y % 4294967296 := by omega
    have y1 : 2147483648 <= Y / 4294967296 /\ Y / 4294967296 < 4294967296 := by omega
    have y0 : 0 <= Y % 4294967296 /\ Y % 4294967296 < 4294967296 := by omega
    have un : 0 <= L / 4294967296 /\ L / 4294967296 < 4294967296 := by omega
    obtain ⟨w1, w2, w3, w4⟩ := kn_words h hr un y1 y0
    rw [w1, w4]
    have more : (4294967296 <= q ∨ r * 4294967296 + L / 4294967296 < q * (Y % 4294967296)) -> cond (ige (r + Y / 4294967296) 4294967296) (x0 (isub .u64 q 1) (r + Y / 4294967296)) (W_a9_0 a0 a1 a2 f (isub .u64 q 1) (r + Y / 4294967296) x0) := fun ht => by
      have g := h.gt un y1 y0 hlt ht
      rw [w2 (by have := g.q0; omega)]
      refine cond_intro (fun hc => ?_) (fun hc => ?_)
      · rw [ige_t] at hc
        have := g.done hYe hY0 (g.big un y1 y0 hc (by have := h.qm; omega))
        rw [this] at hx
        exact hx _
      · rw [ige_f] at hc
        exact W_a9_0_ok hY hL hy ⟨n1, n2⟩ hu hx f _ _ g hc (by omega)
    refine cond_intro (fun hc => ?_) (fun hc => ?_)
    · rw [ige_t] at hc
      exact more (.inl hc)
    · rw [ige_f] at hc
      rw [w3 hc]
      refine cond_intro (fun hd => ?_) (fun hd => ?_)
      · rw [igt_t] at hd
        exact more (.inr hd)
      · rw [igt_f] at hd
        have := h.done hYe hY0 (h.le un y1 y0 hd)
        rw [this] at hx
        exact hx _
theorem W_a9_1_ok {a0 a1 a2 Y L u q1 : Int} (hY : ishl .u64 a2 (iconv .u64 (F_ak_0 a2)) = Y) (hL : ishl .u64 a1 (iconv .u64 (F_ak_0 a2)) = L) (hy : 9223372036854775808 <= Y /\ Y < 18446744073709551616) (hn : U64 L) (hu : 0 <= u /\ u < Y)
    {x0 : Int -> Int -> Int -> Int -> Prop} (hx : ∀ r, x0 q1 r u ((u * 4294967296 + L % 4294967296) / Y)) : ∀ (f : Nat) (q r : Int), KnG u (L % 4294967296) (Y / 4294967296) (Y % 4294967296) q r -> r < 4294967296 -> 4294967296 <= r + 2147483648 * (f : Int) -> W_a9_1 a0 a1 a2 f q1 r u q x0
  | 0, q, r, h, hr, hf => by omega
  | f + 1, q, r, h, hr, hf => by
    show B_a9_1 a0 a1 a2 q1 r u q _ _
    unfold B_a9_1
    have hUY : U64 Y := ⟨by omega, by omega⟩
    simp only [Ts_iff, hY, hL, ishr32, iand32 hUY, iand32 hn]
    obtain ⟨n1, n2⟩ := hn
    have hYe : Y = Y / 4294967296 * 4294967296 + Y % 4294967296 := by omega
    have hY0 : 0 < Y := by omega
    have hlt : u < Y / 4294967296 * 4294967296 + Y % 4294967296 := by omega
    have y1 : 2147483648 <= Y / 4294967296 /\ Y / 4294967296 < 4294967296 := by omega
    have y0 : 0 <= Y % 4294967296 /\ Y % 4294967296 < 4294967296 := by omega
    have un : 0 <= L % 4294967296 /\ L % 4294967296 < 4294967296 := by omega
    obtain ⟨w1, w2, w3, w4⟩ := kn_words h hr un y1 y0
    rw [w1, w4]
    have more : (4294967296 <= q ∨ r * 4294967296 + L % 4294967296 < q * (Y % 4294967296)) -> cond (ige (r + Y / 4294967296) 4294967296) (x0 q1 (r + Y / 4294967296) u (isub .u64 q 1)) (W_a9_1 a0 a1 a2 f q1 (r + Y / 4294967296) u (isub .u64 q 1) x0) := fun ht => by
      have g := h.gt un y1 y0 hlt ht
      rw [w2 (by have := g.q0; omega)]
      refine cond_intro (fun hc => ?_) (fun hc => ?_)
      · rw [ige_t] at hc
        have := g.done hYe hY0 (g.big un y1 y0 hc (by have := h.qm; omega))
        rw [this] at hx
        exact hx _
      · rw [ige_f] at hc
        exact W_a9_1_ok hY hL hy ⟨n1, n2⟩ hu hx f _ _ g hc (by omega)
    refine cond_intro (fun hc => ?_) (fun hc => ?_)
    · rw [ige_t] at hc
      exact more (.inl hc)
    · rw [ige_f] at hc
      rw [w3 hc]
      refine cond_intro (fun hd => ?_) (fun hd => ?_)
      · rw [igt_t] at hd
        exact more (.inr hd)
      · rw [igt_f] at hd
        have := h.done hYe hY0 (h.le un y1 y0 hd)
        rw [this] at hx
        exact hx _
theorem H_a9 (a0 a1 a2 : Int) {K0 : Int -> Int -> Prop} (h : P_a9 a0 a1 a2) (hK : K0 (F_a9_0 a0 a1 a2) (F_a9_1 a0 a1 a2)) : B_a9 a0 a1 a2 K0 (W_a9_0 a0 a1 a2 fuel) (W_a9_1 a0 a1 a2 fuel) := by
  obtain ⟨⟨h1, h2⟩, ⟨l1, l2⟩, ⟨y1, y2⟩, hlt⟩ := h
  unfold F_a9_0 F_a9_1 at hK
  unfold B_a9
  rw [ieq_f.2 (show a2 ≠ 0 by omega), show ile a2 a0 = false by rw [ile_f]; exact hlt]
  simp only [Ts_iff, true_and, cond_false]
  refine cond_intro (fun hc => ?_) (fun hc => ?_)
  · rw [ieq_t] at hc
    subst hc
    rw [Int.zero_mul, Int.zero_add] at hK
    rw [iquoU ⟨l1, l2⟩ (by omega), iremU l1]
    exact ⟨by omega, by omega, hK⟩
  · obtain ⟨p, s, es, s63, u1, u2, e64⟩ := LZ_ok ⟨y1, y2⟩ (show a2 ≠ 0 by omega)
    have hs0 : (0 : Int) < 2 ^ s := Int.pow_pos (by decide)
    have hYe : ishl .u64 a2 (s : Int) = a2 * 2 ^ s := by rw [ishlU a2 s (by omega), Int.emod_eq_of_lt (by omega) u1]
    have hm := Int.mul_lt_mul_of_pos_right hlt hs0
    obtain ⟨g1, g2, g3⟩ := shl2 (hi := a0) (lo := a1) s63 h1 ⟨l1, l2⟩ (by omega)
    have hNY : (a0 * 18446744073709551616 + a1) * 2 ^ s / (a2 * 2 ^ s) = (a0 * 18446744073709551616 + a1) / a2 := Int.mul_ediv_mul_of_pos_left _ _ hs0
    have hNR : (a0 * 18446744073709551616 + a1) * 2 ^ s - (a0 * 18446744073709551616 + a1) / a2 * (a2 * 2 ^ s) = (a0 * 18446744073709551616 + a1 - (a0 * 18446744073709551616 + a1) / a2 * a2) * 2 ^ s := by rw [Int.sub_mul, Int.mul_assoc ((a0 * 18446744073709551616 + a1) / a2)]
    have hult : (a0 * 18446744073709551616 + a1) * 2 ^ s < a2 * 2 ^ s * 18446744073709551616 := by
      rw [Int.mul_right_comm]
      exact Int.mul_lt_mul_of_pos_right (by omega) hs0
    have hu0 : 0 <= a0 * 2 ^ s + a1 / 2 ^ (64 - s) := by
      have := Int.mul_nonneg h1 (Int.le_of_lt hs0)
      have := Int.ediv_nonneg l1 (show (0 : Int) <= 2 ^ (64 - s) from Int.le_of_lt (Int.pow_pos (by decide)))
      omega
    have hYe' := hYe
    have eL : ∀ L, ishl .u64 a1 (s : Int) = L -> ishl .u64 a1 (iconv .u64 (F_ak_0 a2)) = L := fun L h => by rw [es]; exact h
    have eY : ∀ L, ishl .u64 a2 (s : Int) = L -> ishl .u64 a2 (iconv .u64 (F_ak_0 a2)) = L := fun L h => by rw [es]; exact h
    simp only [es]
    rw [e64, g1]
    obtain ⟨L, hL⟩ : ∃ L, ishl .u64 a1 (s : Int) = L := ⟨_, rfl⟩
    obtain ⟨Y, hY⟩ : ∃ Y, a2 * 2 ^ s = Y := ⟨_, rfl⟩
    obtain ⟨u, hu⟩ : ∃ u, a0 * 2 ^ s + a1 / 2 ^ (64 - s) = u := ⟨_, rfl⟩
    obtain ⟨N, hN⟩ : ∃ N, (a0 * 18446744073709551616 + a1) = N := ⟨_, rfl⟩
    rw [hN] at hNY hNR hult g3 hK
    rw [hY] at hYe hNY hNR hult u1 u2
    rw [hu] at g3 hu0 ⊢
    rw [hL] at g2 g3 ⊢
    rw [hYe]
    have huY : u < Y := by obtain ⟨_, _⟩ := g2; omega
    obtain ⟨gl, gr⟩ := g2
    simp only [ishr32]
    have hUY : U64 Y := ⟨by omega, by omega⟩
    have hyn : 2147483648 <= Y / 4294967296 /\ Y / 4294967296 < 4294967296 := by omega
    have hyn0 : 0 <= Y % 4294967296 /\ Y % 4294967296 < 4294967296 := by omega
    have hun : 0 <= L / 4294967296 /\ L / 4294967296 < 4294967296 := by omega
    have hun0 : 0 <= L % 4294967296 /\ L % 4294967296 < 4294967296 := by omega
    have hYs : Y = Y / 4294967296 * 4294967296 + Y % 4294967296 := by omega
    have first : ∀ v, 0 <= v -> v < Y -> iquo .u64 v (Y / 4294967296) = v / (Y / 4294967296) /\ isub .u64 v (imul .u64 (v / (Y / 4294967296)) (Y / 4294967296)) = v - v / (Y / 4294967296) * (Y / 4294967296) /\ v - v / (Y / 4294967296) * (Y / 4294967296) < 4294967296 := fun v hv0 hv => by
      have q := iquoU (a := v) (b := Y / 4294967296) ⟨hv0, by omega⟩ (by omega)
      obtain ⟨b1, b2⟩ := ediv_bounds (x := v) (y := Y / 4294967296) (by omega)
      have hq0 := Int.ediv_nonneg hv0 (show 0 <= Y / 4294967296 by omega)
      have hm0 := Int.mul_nonneg hq0 (show 0 <= Y / 4294967296 by omega)
      rw [q, imulU, isubU]
      rw [Int.add_mul, Int.one_mul] at b2
      generalize v / (Y / 4294967296) * (Y / 4294967296) = m at *
      refine ⟨rfl, ?_, by omega⟩
      rw [Int.emod_eq_of_lt hm0 (by omega), Int.emod_eq_of_lt (by omega) (by omega)]
    obtain ⟨k1, k2, k3⟩ := first u hu0 huY
    rw [k1, k2]
    have fl : ∀ r : Int, 0 <= r -> 4294967296 <= r + 2147483648 * ((fuel : Nat) : Int) := fun r hr => by rw [fuel_eq]; omega
    have G0 := KnG.first hu0 hun hyn hyn0 (by omega)
    refine ⟨p, by omega, by omega, by omega, by omega, by omega, by omega, by omega, ?_⟩
    refine W_a9_0_ok (eY _ hYe) (eL _ hL) ⟨u2, u1⟩ ⟨gl, gr⟩ ⟨hu0, huY⟩ (fun r => ?_) fuel _ _ G0 k3 (fl _ G0.r0)
    obtain ⟨d1, d2, d3, d4⟩ := digit_lt hu0 hun huY
    obtain ⟨t1, t2⟩ := two_digits (u := u) (a := L / 4294967296) (b := L % 4294967296) (Y := Y) (by omega) hun0
    have eN : u * 18446744073709551616 + (L / 4294967296 * 4294967296 + L % 4294967296) = N * 2 ^ s := by omega
    rw [eN] at t1 t2
    rw [hNY] at t1 t2
    rw [hNR] at t2
    generalize (u * 4294967296 + L / 4294967296) / Y = q1 at *
    have r1 : isub .u64 (iadd .u64 (imul .u64 u 4294967296) (L / 4294967296)) (imul .u64 q1 Y) = u * 4294967296 + L / 4294967296 - q1 * Y := by
      rw [imulU, imulU, iaddU, isubU]
      generalize q1 * Y = m at *
      omega
    rw [r1]
    generalize hv : u * 4294967296 + L / 4294967296 - q1 * Y = v at *
    obtain ⟨k1, k2, k3⟩ := first v d3 d4
    rw [k1, k2]
    have G1 := KnG.first d3 hun0 hyn hyn0 (by omega)
    refine ⟨by omega, ?_⟩
    refine W_a9_1_ok (eY _ hYe) (eL _ hL) ⟨u2, u1⟩ ⟨gl, gr⟩ ⟨d3, d4⟩ (fun r => ?_) fuel _ _ G1 k3 (fl _ G1.r0)
    obtain ⟨c1, c2, c3, c4⟩ := digit_lt d3 hun0 d4
    generalize (v * 4294967296 + L % 4294967296) / Y = q0 at *
    refine ⟨by omega, ?_⟩
    have e1 : iadd .u64 (imul .u64 q1 4294967296) q0 = N / a2 := by
      rw [imulU, iaddU, t1]
      omega
    have e2 : isub .u64 (iadd .u64 (imul .u64 v 4294967296) (iand .u64 L 4294967295)) (imul .u64 q0 Y) = (N - N / a2 * a2) * 2 ^ s := by
      rw [iand32 ⟨gl, gr⟩, imulU, imulU, iaddU, isubU, t2]
      generalize q0 * Y = m at *
      omega
    rw [e1, e2, ishrU _ s (by omega), Int.mul_ediv_cancel _ (by omega)]
    exact hK
def B_bv_0 (gp : Nat) (a0 : Nat -> Int) (ik : Int) (c x0 : Int -> Prop) (x1 : Int -> Int -> Prop)  : Prop := Ts 1 (cond (ilt ik ((gp : Nat) : Int)) (((0 <= ik /\ ik < ((gp : Nat) : Int)) /\ Ts 5 (cond (ine (a0 (Int.toNat ik)) 0) (Ts 2 (x1 (a0 (Int.toNat ik)) ik)) (Ts 2 (c (iadd .i64 ik 1)))))) (x0 ik))
def W_bv_0 (gp : Nat) (a0 : Nat -> Int) : Nat -> Int -> (Int -> Prop) -> (Int -> Int -> Prop) -> Prop
  | 0, _, _, _ => False
  | f + 1, w0, x0, x1 => B_bv_0 gp a0 w0 (fun u0 => W_bv_0 gp a0 f u0 x0 x1) x0 x1 
theorem BM_bv_0 (gp : Nat) (a0 : Nat -> Int) (ik : Int) {c c' : Int -> Prop} {x0 y0 : Int -> Prop} {x1 y1 : Int -> Int -> Prop} (hc : ∀ w0, c w0 -> c' w0) (h0 : ∀ o0, x0 o0 -> y0 o0) (h1 : ∀ o0 o1, x1 o0 o1 -> y1 o0 o1) : B_bv_0 gp a0 ik c x0 x1  -> B_bv_0 gp a0 ik c' y0 y1  := by
  unfold B_bv_0
  repeat' first
    | exact hc _
    | exact h0 _
    | exact h1 _ _
    | refine Ts_imp ?_
    | refine cond_imp ?_ ?_
    | refine and_imp' ?_
theorem WM_bv_0 (gp : Nat) (a0 : Nat -> Int) {x0 y0 : Int -> Prop} {x1 y1 : Int -> Int -> Prop} (h0 : ∀ o0, x0 o0 -> y0 o0) (h1 : ∀ o0 o1, x1 o0 o1 -> y1 o0 o1) : ∀ (f : Nat) (ik : Int), W_bv_0 gp a0 f ik x0 x1 -> W_bv_0 gp a0 f ik y0 y1
  | 0, w0 => fun h => h
  | f + 1, w0 => BM_bv_0 gp a0 w0 (fun u0 => WM_bv_0 gp a0 h0 h1 f u0) h0 h1
def B_bv (gp : Nat) (a0 : Nat -> Int) (K0 : Int -> Prop) (l0 : Int -> (Int -> Prop) -> (Int -> Int -> Prop) -> Prop) : Prop := Ts 5 ((l0 0 (fun kj => Ts 2 (K0 0)) (fun i9 kj => K0 i9)))
def orN (x : Nat -> Int) : Nat -> Int
  | 0 => 0
  | n + 1 => if orN x n = 0 then x n else orN x n
def P_bv (n : Nat) (x : Nat -> Int) : Prop := n <= 1000000
def F_bv_0 (n : Nat) (x : Nat -> Int) : Int := orN x n
theorem orN_zero {x : Nat -> Int} : ∀ {n : Nat}, (∀ k, k < n -> x k = 0) -> orN x n = 0
  | 0, _ => rfl
  | n + 1, h => by unfold orN; rw [if_pos (orN_zero fun k hk => h k (by omega)), h n (by omega)]
theorem orN_first {x : Nat -> Int} {i : Nat} (h0 : ∀ k, k < i -> x k = 0) (hi : x i ≠ 0) : ∀ {n : Nat}, i < n -> orN x n = x i
  | 0, h => by omega
  | n + 1, h => by
    unfold orN
    by_cases e : i = n
    · subst e; rw [if_pos (orN_zero h0)]
    · rw [orN_first h0 hi (n := n) (by omega), if_neg hi]
theorem W_bv_ok {n : Nat} {x : Nat -> Int} (hn : n <= 1000000) {x0 : Int -> Prop} {x1 : Int -> Int -> Prop} (h3 : orN x n = 0 -> ∀ v, x0 v) (h4 : ∀ v, x1 (orN x n) v) : ∀ (f i : Nat), i <= n -> n < f + i -> (∀ k, k < i -> x k = 0) -> W_bv_0 n x f i x0 x1
  | 0, i, h1, h2, _ => by omega
  | f + 1, i, h1, h2, g => by
    show B_bv_0 n x i _ _ _
    unfold B_bv_0
    simp only [Ts_iff, true_and, Int.toNat_natCast, Nat.zero_add]
    refine cond_intro (fun hc => ?_) (fun hc => ?_)
    · rw [ilt_t] at hc
      refine ⟨⟨by omega, hc⟩, ?_⟩
      refine cond_intro (fun hc2 => ?_) (fun hc2 => ?_)
      · rw [ine_t] at hc2
        have := h4 i
        rw [orN_first g hc2 (by omega)] at this
        exact this
      · rw [ine_f] at hc2
        rw [iadd64 (by omega) (by omega)]
        exact W_bv_ok hn h3 h4 f (i + 1) (by omega) (by omega) fun k hk => (if e : k = i then by subst e; exact hc2 else g k (by omega))
    · rw [ilt_f] at hc
      have : i = n := by omega
      subst this
      exact h3 (orN_zero g) _
theorem H_bv (gp : Nat) (a0 : Nat -> Int) {K0 : Int -> Prop} (h : P_bv gp a0) (hK : K0 (F_bv_0 gp a0)) : B_bv gp a0 K0 (W_bv_0 gp a0 fuel) := by
  unfold B_bv
  simp only [Ts_iff, true_and]
  have hn : gp <= 1000000 := h
  refine W_bv_ok hn (fun e v => ?_) (fun v => hK) fuel 0 (Nat.zero_le _) (by rw [fuel_eq]; omega) (fun k hk => by omega)
  have hK' : K0 (orN a0 gp) := hK
  rw [e] at hK'
  exact hK'
def B_cr (a0 : Int) (K0 : Bool -> Prop)  : Prop := Ts 5 (K0 (ine a0 a0))
def P_cr (a0 : Int) : Prop := True
def F_cr_0 (a0 : Int) : Bool := (ine a0 a0)
theorem H_cr (a0 : Int) {K0 : Bool -> Prop} (h : P_cr a0) (hK : K0 (F_cr_0 a0)) : B_cr a0 K0  := by
 unfold B_cr P_cr F_cr_0 at *
 exact Ts_iff.2 hK
def B_bt (a0 a1 : Int) (K0 : Int -> Prop)  : Prop := Ts 2 (((P_cr a0) /\ Ts 2 (((P_cr a1) /\ Ts 2 (cond (F_cr_0 a0) (Ts 1 (cond (F_cr_0 a1) (Ts 1 (K0 0)) (Ts 1 (K0 (-1))))) (Ts 1 (cond (F_cr_0 a1) (Ts 1 (K0 1)) (Ts 3 (cond (ilt a0 a1) (Ts 1 (K0 (-1))) (Ts 3 (cond (igt a0 a1) (Ts 1 (K0 1)) (Ts 1 (K0 0)))))))))))))
def P_bt (a0 a1 : Int) : Prop := True
def F_bt_0 (a0 a1 : Int) : Int := (cond (F_cr_0 a0) (cond (F_cr_0 a1) 0 (-1)) (cond (F_cr_0 a1) 1 (cond (ilt a0 a1) (-1) (cond (igt a0 a1) 1 0))))
theorem H_bt (a0 a1 : Int) {K0 : Int -> Prop} (h : P_bt a0 a1) (hK : K0 (F_bt_0 a0 a1)) : B_bt a0 a1 K0  := by
 unfold B_bt P_bt F_bt_0 at *
 simp only [Ts_iff, true_and]
 repeat' first | exact hK | (refine cond_intro (fun c => ?_) (fun c => ?_) <;> try simp only [c, cond_true, cond_false] at h hK ⊢) | refine ⟨rfl, ?_⟩ | refine ⟨trivial, ?_⟩ | refine ⟨by decide, ?_⟩ | (refine ⟨h.1, ?_⟩; replace h := h.2) | refine ⟨h, ?_⟩
def B_aq (cm : Int) (ga : Bool) (K0 : Int -> Bool -> Prop)  : Prop := Ts 6 (cond (ieq cm (-9223372036854775808)) (Ts 2 (K0 (-9223372036854775807) true)) (Ts 6 ((true = true /\ K0 cm ga))))
def P_aq (cm : Int) (ga : Bool) : Prop := True
def F_aq_0 (cm : Int) (ga : Bool) : Int := (cond (ieq cm (-9223372036854775808)) (-9223372036854775807) cm)
def F_aq_1 (cm : Int) (ga : Bool) : Bool := (cond (ieq cm (-9223372036854775808)) true ga)
theorem H_aq (cm : Int) (ga : Bool) {K0 : Int -> Bool -> Prop} (h : P_aq cm ga) (hK : K0 (F_aq_0 cm ga) (F_aq_1 cm ga)) : B_aq cm ga K0  := by
 unfold B_aq P_aq F_aq_0 F_aq_1 at *
 simp only [Ts_iff, true_and]
 repeat' first | exact hK | (refine cond_intro (fun c => ?_) (fun c => ?_) <;> try simp only [c, cond_true, cond_false] at h hK ⊢) | refine ⟨rfl, ?_⟩ | refine ⟨trivial, ?_⟩ | refine ⟨by decide, ?_⟩ | (refine ⟨h.1, ?_⟩; replace h := h.2) | refine ⟨h, ?_⟩
def B_dn (a0 : Int) (K0 : Int -> Prop)  : Prop := Ts 3 (cond (ilt a0 0) (Ts 4 (K0 (iconv .u64 (ineg .i64 a0)))) (Ts 3 (K0 (iconv .u64 a0))))
def P_dn (a0 : Int) : Prop := True
def F_dn_0 (a0 : Int) : Int := (cond (ilt a0 0) (iconv .u64 (ineg .i64 a0)) (iconv .u64 a0))
theorem H_dn (a0 : Int) {K0 : Int -> Prop} (h : P_dn a0) (hK : K0 (F_dn_0 a0)) : B_dn a0 K0  := by
 unfold B_dn P_dn F_dn_0 at *
 simp only [Ts_iff, true_and]
 repeat' first | exact hK | (refine cond_intro (fun c => ?_) (fun c => ?_) <;> try simp only [c, cond_true, cond_false] at h hK ⊢)
def B_be (a0 a1 : Int) (K0 : Bool -> Int -> Int -> Prop)  : Prop := Ts 2 (((P_dn a0) /\ Ts 1 (((P_dn a1) /\ ((P_dy (F_dn_0 a0) (F_dn_0 a1)) /\ Ts 11 (cond (!(beqB (ilt a0 0) (ilt a1 0))) (Ts 4 (cond (ine a0 0) (Ts 8 (K0 (ine a1 0) (F_dy_0 (F_dn_0 a0) (F_dn_0 a1)) (F_dy_1 (F_dn_0 a0) (F_dn_0 a1)))) (Ts 6 (K0 false (F_dy_0 (F_dn_0 a0) (F_dn_0 a1)) (F_dy_1 (F_dn_0 a0) (F_dn_0 a1)))))) (Ts 8 (K0 false (F_dy_0 (F_dn_0 a0) (F_dn_0 a1)) (F_dy_1 (F_dn_0 a0) (F_dn_0 a1))))))))))
def P_be (a0 a1 : Int) : Prop := True
def F_be_0 (a0 a1 : Int) : Bool := (cond (!(beqB (ilt a0 0) (ilt a1 0))) (cond (ine a0 0) (ine a1 0) false) false)
def F_be_1 (a0 a1 : Int) : Int := (F_dy_0 (F_dn_0 a0) (F_dn_0 a1))
def F_be_2 (a0 a1 : Int) : Int := (F_dy_1 (F_dn_0 a0) (F_dn_0 a1))
theorem H_be (a0 a1 : Int) {K0 : Bool -> Int -> Int -> Prop} (h : P_be a0 a1) (hK : K0 (F_be_0 a0 a1) (F_be_1 a0 a1) (F_be_2 a0 a1)) : B_be a0 a1 K0  := by
 unfold B_be P_be F_be_0 F_be_1 F_be_2 at *
 simp only [Ts_iff, true_and]
 repeat' first | exact hK | (refine cond_intro (fun c => ?_) (fun c => ?_) <;> try simp only [c, cond_true, cond_false] at h hK ⊢) | refine ⟨rfl, ?_⟩ | refine ⟨trivial, ?_⟩ | refine ⟨by decide, ?_⟩ | (refine ⟨h.1, ?_⟩; replace h := h.2) | refine ⟨h, ?_⟩
def B_fc (cm : Bool) (ga gm : Int) (gb : Bool) (gd ie : Int) (K0 : Bool -> Prop)  : Prop := Ts 9 (cond (ilt ga gd) (Ts 2 (K0 true)) (Ts 6 (cond (ieq ga gd) (Ts 8 (K0 (ilt gm ie))) (Ts 3 (K0 false)))))
def P_fc (cm : Bool) (ga gm : Int) (gb : Bool) (gd ie : Int) : Prop := True
def F_fc_0 (cm : Bool) (ga gm : Int) (gb : Bool) (gd ie : Int) : Bool := (cond (ilt ga gd) true (cond (ieq ga gd) (ilt gm ie) false))
theorem H_fc (cm : Bool) (ga gm : Int) (gb : Bool) (gd ie : Int) {K0 : Bool -> Prop} (h : P_fc cm ga gm gb gd ie) (hK : K0 (F_fc_0 cm ga gm gb gd ie)) : B_fc cm ga gm gb gd ie K0  := by
 unfold B_fc P_fc F_fc_0 at *
 simp only [Ts_iff, true_and]
 repeat' first | exact hK | (refine cond_intro (fun c => ?_) (fun c => ?_) <;> try simp only [c, cond_true, cond_false] at h hK ⊢)
def B_d6 (cm : Bool) (ga gm : Int) (gb : Bool) (gd ie : Int) (K0 : Bool -> Int -> Int -> Prop)  : Prop := Ts 8 (cond (beqB cm gb) (Ts 4 (((P_mb_Add64 gm ie 0) /\ Ts 10 (((P_mb_Add64 ga gd (F_mb_Add64_1 gm ie 0)) /\ Ts 12 (K0 cm (F_mb_Add64_0 ga gd (F_mb_Add64_1 gm ie 0)) (F_mb_Add64_0 gm ie 0))))))) (Ts 2 (((P_fc cm ga gm gb gd ie) /\ cond (F_fc_0 cm ga gm gb gd ie) (Ts 8 (((P_mb_Sub64 ie gm 0) /\ Ts 10 (((P_mb_Sub64 gd ga (F_mb_Sub64_1 ie gm 0)) /\ Ts 8 (cond gb (Ts 3 (cond (ine (F_mb_Sub64_0 gd ga (F_mb_Sub64_1 ie gm 0)) 0) (Ts 7 (K0 true (F_mb_Sub64_0 gd ga (F_mb_Sub64_1 ie gm 0)) (F_mb_Sub64_0 ie gm 0))) (Ts 9 (K0 (ine (F_mb_Sub64_0 ie gm 0) 0) (F_mb_Sub64_0 gd ga (F_mb_Sub64_1 ie gm 0)) (F_mb_Sub64_0 ie gm 0))))) (Ts 6 (K0 false (F_mb_Sub64_0 gd ga (F_mb_Sub64_1 ie gm 0)) (F_mb_Sub64_0 ie gm 0))))))))) (Ts 4 (((P_mb_Sub64 gm ie 0) /\ Ts 10 (((P_mb_Sub64 ga gd (F_mb_Sub64_1 gm ie 0)) /\ Ts 8 (cond cm (Ts 3 (cond (ine (F_mb_Sub64_0 ga gd (F_mb_Sub64_1 gm ie 0)) 0) (Ts 7 (K0 true (F_mb_Sub64_0 ga gd (F_mb_Sub64_1 gm ie 0)) (F_mb_Sub64_0 gm ie 0))) (Ts 9 (K0 (ine (F_mb_Sub64_0 gm ie 0) 0) (F_mb_Sub64_0 ga gd (F_mb_Sub64_1 gm ie 0)) (F_mb_Sub64_0 gm ie 0))))) (Ts 6 (K0 false (F_mb_Sub64_0 ga gd (F_mb_Sub64_1 gm ie 0)) (F_mb_Sub64_0 gm ie 0)))))))))))))
def P_d6 (cm : Bool) (ga gm : Int) (gb : Bool) (gd ie : Int) : Prop := (cond (beqB cm gb) ((P_mb_Add64 gm ie 0) /\ (P_mb_Add64 ga gd (F_mb_Add64_1 gm ie 0))) (cond (F_fc_0 cm ga gm gb gd ie) ((P_mb_Sub64 ie gm 0) /\ (P_mb_Sub64 gd ga (F_mb_Sub64_1 ie gm 0))) ((P_mb_Sub64 gm ie 0) /\ (P_mb_Sub64 ga gd (F_mb_Sub64_1 gm ie 0)))))
def F_d6_0 (cm : Bool) (ga gm : Int) (gb : Bool) (gd ie : Int) : Bool := (cond (beqB cm gb) cm (cond (F_fc_0 cm ga gm gb gd ie) (cond gb (cond (ine (F_mb_Sub64_0 gd ga (F_mb_Sub64_1 ie gm 0)) 0) true (ine (F_mb_Sub64_0 ie gm 0) 0)) false) (cond cm (cond (ine (F_mb_Sub64_0 ga gd (F_mb_Sub64_1 gm ie 0)) 0) true (ine (F_mb_Sub64_0 gm ie 0) 0)) false)))
def F_d6_1 (cm : Bool) (ga gm : Int) (gb : Bool) (gd ie : Int) : Int := (cond (beqB cm gb) (F_mb_Add64_0 ga gd (F_mb_Add64_1 gm ie 0)) (cond (F_fc_0 cm ga gm gb gd ie) (F_mb_Sub64_0 gd ga (F_mb_Sub64_1 ie gm 0)) (F_mb_Sub64_0 ga gd (F_mb_Sub64_1 gm ie 0))))
def F_d6_2 (cm : Bool) (ga gm : Int) (gb : Bool) (gd ie : Int) : Int := (cond (beqB cm gb) (F_mb_Add64_0 gm ie 0) (cond (F_fc_0 cm ga gm gb gd ie) (F_mb_Sub64_0 ie gm 0) (F_mb_Sub64_0 gm ie 0)))
theorem H_d6 (cm : Bool) (ga gm : Int) (gb : Bool) (gd ie : Int) {K0 : Bool -> Int -> Int -> Prop} (h : P_d6 cm ga gm gb gd ie) (hK : K0 (F_d6_0 cm ga gm gb gd ie) (F_d6_1 cm ga gm gb gd ie) (F_d6_2 cm ga gm gb gd ie)) : B_d6 cm ga gm gb gd ie K0  := by
 unfold B_d6 P_d6 F_d6_0 F_d6_1 F_d6_2 at *
 simp only [Ts_iff, true_and]; try simp only [Ts_iff, true_and] at h
 repeat' first | exact hK | (refine cond_intro (fun c => ?_) (fun c => ?_) <;> try simp only [c, cond_true, cond_false] at h hK ⊢) | refine ⟨rfl, ?_⟩ | refine ⟨trivial, ?_⟩ | refine ⟨by decide, ?_⟩ | (refine ⟨h.1, ?_⟩; replace h := h.2) | refine ⟨h, ?_⟩
def B_el (cm : Bool) (ga gm : Int) (K0 : Bool -> Int -> Int -> Prop)  : Prop := Ts 6 (((0 <= (32 : Int)) /\ Ts 2 (((0 <= (32 : Int)) /\ Ts 2 (((0 <= (32 : Int)) /\ Ts 4 (K0 cm (ishr .u64 ga 32) (ior .u64 (ishl .u64 ga 32) (ishr .u64 gm 32)))))))))
def P_el (cm : Bool) (ga gm : Int) : Prop := True
def F_el_0 (cm : Bool) (ga gm : Int) : Bool := cm
def F_el_1 (cm : Bool) (ga gm : Int) : Int := (ishr .u64 ga 32)
def F_el_2 (cm : Bool) (ga gm : Int) : Int := (ior .u64 (ishl .u64 ga 32) (ishr .u64 gm 32))
theorem H_el (cm : Bool) (ga gm : Int) {K0 : Bool -> Int -> Int -> Prop} (h : P_el cm ga gm) (hK : K0 (F_el_0 cm ga gm) (F_el_1 cm ga gm) (F_el_2 cm ga gm)) : B_el cm ga gm K0  := by
 unfold B_el P_el F_el_0 F_el_1 F_el_2 at *
 simp only [Ts_iff, true_and]
 repeat' first | exact hK | refine ⟨rfl, ?_⟩ | refine ⟨trivial, ?_⟩ | refine ⟨by decide, ?_⟩ | (refine ⟨h.1, ?_⟩; replace h := h.2) | refine ⟨h, ?_⟩
def B_d7 (cm : Bool) (ga gm : Int) (a1 : Bool) (K0 : Int -> Bool -> Prop)  : Prop := Ts 7 (cond (ine ga 0) (Ts 4 (cond cm (Ts 8 (K0 (ineg .i64 9223372036854775807) true)) (Ts 5 (K0 9223372036854775807 true)))) (Ts 4 (cond (igt gm 9223372036854775807) (Ts 3 (cond cm (Ts 8 (K0 (ineg .i64 9223372036854775807) true)) (Ts 5 (K0 9223372036854775807 true)))) (Ts 6 (cond cm (Ts 8 (K0 (ineg .i64 (iconv .i64 gm)) a1)) (Ts 5 (K0 (iconv .i64 gm) a1)))))))
def P_d7 (cm : Bool) (ga gm : Int) (a1 : Bool) : Prop := True
def F_d7_0 (cm : Bool) (ga gm : Int) (a1 : Bool) : Int := (cond (ine ga 0) (cond cm (ineg .i64 9223372036854775807) 9223372036854775807) (cond (igt gm 9223372036854775807) (cond cm (ineg .i64 9223372036854775807) 9223372036854775807) (cond cm (ineg .i64 (iconv .i64 gm)) (iconv .i64 gm))))
def F_d7_1 (cm : Bool) (ga gm : Int) (a1 : Bool) : Bool := (cond (ine ga 0) true (cond (igt gm 9223372036854775807) true a1))
theorem H_d7 (cm : Bool) (ga gm : Int) (a1 : Bool) {K0 : Int -> Bool -> Prop} (h : P_d7 cm ga gm a1) (hK : K0 (F_d7_0 cm ga gm a1) (F_d7_1 cm ga gm a1)) : B_d7 cm ga gm a1 K0  := by
 unfold B_d7 P_d7 F_d7_0 F_d7_1 at *
 simp only [Ts_iff, true_and]
 repeat' first | exact hK | (refine cond_intro (fun c => ?_) (fun c => ?_) <;> try simp only [c, cond_true, cond_false] at h hK ⊢)
def I64' (v : Int) : Prop := -9223372036854775808 <= v /\ v <= 9223372036854775807
def Num' (v : Int) : Prop := -9223372036854775807 <= v /\ v <= 9223372036854775807
def whole (v : Int) : Int := if v = -9223372036854775808 then -9223372036854775807 else v
theorem whole_eq (v : Int) (f : Bool) : F_aq_0 v f = whole v := by
  unfold F_aq_0 whole
  by_cases h : v = -9223372036854775808
  · rw [ieq_t.2 h, cond_true, if_pos h]
  · rw [ieq_f.2 h, cond_false, if_neg h]
theorem whole_num {v : Int} (h : I64' v) : Num' (whole v) := by
  unfold whole Num'
  obtain ⟨h1, h2⟩ := h
  split <;> omega
theorem whole_id {v : Int} (h : Num' v) : whole v = v := if_neg (by have := h.1; omega)
theorem wholeF_id {v : Int} (h : Num' v) (f : Bool) : F_aq_1 v f = f := by
  unfold F_aq_1
  rw [ieq_f.2 (by have := h.1; omega), cond_false]
theorem size_eq {v : Int} (h : Num' v) : F_dn_0 v = max v (-v) := by
  obtain ⟨h1, h2⟩ := h
  unfold F_dn_0
  by_cases hv : v < 0
  · rw [ilt_t.2 hv, cond_true, iconvU, ineg64 (by omega) (by omega)]
    omega
  · rw [ilt_f.2 (by omega), cond_false, iconvU]
    omega
theorem size_U {v : Int} (h : Num' v) : U64 (F_dn_0 v) := by
  rw [size_eq h]; obtain ⟨h1, h2⟩ := h; exact ⟨by omega, by omega⟩
theorem Mul64_hi {x y : Int} (hx : U64 x) (hy : U64 y) : F_dy_0 x y = x * y / 18446744073709551616 := mul64_hi' hx hy
theorem Mul64_lo {x y : Int} : F_dy_1 x y = x * y % 18446744073709551616 := imulU x y
structure Wd (neg : Bool) (hi lo : Int) : Prop where
  uh : U64 hi
  ul : U64 lo
  can : neg = true -> hi ≠ 0 ∨ lo ≠ 0
theorem abs_mul' (a b : Int) : max (a * b) (-(a * b)) = max a (-a) * max b (-b) := by
  have : max (a * b) (-(a * b)) = ((a * b).natAbs : Int) := by omega
  rw [this, Int.natAbs_mul, Int.natCast_mul]
  rw [show max a (-a) = (a.natAbs : Int) by omega, show max b (-b) = (b.natAbs : Int) by omega]
theorem times_ok {a b : Int} (ha : Num' a) (hb : Num' b) : Wd (F_be_0 a b) (F_be_1 a b) (F_be_2 a b) /\ VW (F_be_0 a b) (F_be_1 a b) (F_be_2 a b) = a * b /\ F_be_1 a b < 4611686018427387904 := by
  have e1 : F_be_1 a b = max (a * b) (-(a * b)) / 18446744073709551616 := by
    unfold F_be_1
    rw [Mul64_hi (size_U ha) (size_U hb), size_eq ha, size_eq hb, abs_mul']
  have e2 : F_be_2 a b = max (a * b) (-(a * b)) % 18446744073709551616 := by
    unfold F_be_2
    rw [Mul64_lo, size_eq ha, size_eq hb, abs_mul']
  have hle : max (a * b) (-(a * b)) <= 9223372036854775807 * 9223372036854775807 := by
    rw [abs_mul']
    exact Int.mul_le_mul (by have := ha; unfold Num' at this; omega) (by have := hb; unfold Num' at this; omega) (by omega) (by omega)
  have hsgn : F_be_0 a b = true ↔ a * b < 0 := by
    unfold F_be_0
    by_cases h1 : a < 0 <;> by_cases h2 : b < 0
    · rw [ilt_t.2 h1, ilt_t.2 h2]
      have := Int.mul_pos_of_neg_of_neg h1 h2
      simp [beqB_eq]; omega
    · rw [ilt_t.2 h1, ilt_f.2 (by omega)]
      simp only [ine_t.2 (show ¬ a = 0 by omega)]
      by_cases h3 : b = 0
      · subst h3; simp [beqB_eq, ine_f.2]
      · have := Int.mul_neg_of_neg_of_pos h1 (show 0 < b by omega)
        simp [beqB_eq, ine_t.2 h3, this]
    · rw [ilt_f.2 (by omega), ilt_t.2 h2]
      by_cases h3 : a = 0
      · subst h3; simp [beqB_eq, ine_f.2]
      · have := Int.mul_neg_of_pos_of_neg (show 0 < a by omega) h2
        simp [beqB_eq, ine_t.2 h3, ine_t.2 (show ¬ b = 0 by omega), this]
    · rw [ilt_f.2 (by omega), ilt_f.2 (by omega)]
      have := Int.mul_nonneg (show 0 <= a by omega) (show 0 <= b by omega)
      simp [beqB_eq]; omega
  rw [e1, e2]
  generalize hz : a * b = z at *
  refine ⟨⟨⟨by omega, by omega⟩, ⟨by omega, by omega⟩, fun hn => ?_⟩, ?_, by omega⟩
  · have := hsgn.1 hn; omega
  · cases hn : F_be_0 a b with
    | true => have := hsgn.1 hn; unfold VW sg; simp only [cond_true]; omega
    | false =>
      have : ¬ z < 0 := fun h => by rw [hsgn.2 h] at hn; cases hn
      unfold VW sg; simp only [cond_false]; omega
theorem low32 {hi : Int} (h : U64 hi) : hi * 4294967296 % 18446744073709551616 = hi % 4294967296 * 2 ^ 32 := by
  obtain ⟨h1, h2⟩ := h
  have : (2 : Int) ^ 32 = 4294967296 := by decide
  rw [this]; omega
theorem down_ok {neg : Bool} {hi lo : Int} (h1 : U64 hi) (h2 : U64 lo) : U64 (F_el_1 neg hi lo) /\ U64 (F_el_2 neg hi lo) /\ F_el_1 neg hi lo * 18446744073709551616 + F_el_2 neg hi lo = (hi * 18446744073709551616 + lo) / 4294967296 := by
  unfold F_el_1 F_el_2
  have e : (2 : Int) ^ 32 = 4294967296 := by decide
  rw [ishr32, ishr32, ishl32, low32 h1, ior_disj 32 (by decide) ⟨by rw [e]; have := h1.1; omega, by rw [e]; omega⟩ (by omega) (by rw [e]; have := h2.1; have := h2.2; omega), e]
  obtain ⟨a1, a2⟩ := h1
  obtain ⟨b1, b2⟩ := h2
  exact ⟨⟨by omega, by omega⟩, ⟨by omega, by omega⟩, by omega⟩
theorem satN_hi {v : Int} (h : 9223372036854775807 < v) : satN v = 9223372036854775807 := if_pos h
theorem satN_lo {v : Int} (h : v < -9223372036854775807) : satN v = -9223372036854775807 := by unfold satN; rw [if_neg (by omega), if_pos h]
theorem satB_hi {v : Int} (h : 9223372036854775807 < v) : satB v = true := by unfold satB; simp [h]
theorem satB_lo {v : Int} (h : v < -9223372036854775807) : satB v = true := by unfold satB; simp [h]
theorem VW_t (hi lo : Int) : VW true hi lo = -(hi * 18446744073709551616 + lo) := rfl
theorem VW_f (hi lo : Int) : VW false hi lo = hi * 18446744073709551616 + lo := rfl
theorem fit_ok {neg : Bool} {hi lo : Int} (h1 : U64 hi) (h2 : U64 lo) (f : Bool) : F_d7_0 neg hi lo f = satN (VW neg hi lo) /\ F_d7_1 neg hi lo f = (f || satB (VW neg hi lo)) := by
  obtain ⟨a1, a2⟩ := h1
  obtain ⟨b1, b2⟩ := h2
  unfold F_d7_0 F_d7_1
  have en : ineg .i64 9223372036854775807 = -9223372036854775807 := ineg64 (by omega) (by omega)
  by_cases h : hi = 0
  · rw [ine_f.2 h]
    simp only [cond_false]
    by_cases g : 9223372036854775807 < lo
    · rw [igt_t.2 g]
      simp only [cond_true, en]
      cases neg
      · rw [VW_f, satN_hi (by omega), satB_hi (by omega), Bool.or_true]; exact ⟨rfl, rfl⟩
      · rw [VW_t, satN_lo (by omega), satB_lo (by omega), Bool.or_true]; exact ⟨rfl, rfl⟩
    · rw [igt_f.2 (by omega)]
      simp only [cond_false]
      rw [iconvI ⟨by omega, by omega⟩, ineg64 (by omega) (by omega)]
      cases neg
      · rw [VW_f, satN_id (by omega), satB_id (by omega), Bool.or_false]; exact ⟨by simp only [cond_false]; omega, rfl⟩
      · rw [VW_t, satN_id (by omega), satB_id (by omega), Bool.or_false]; exact ⟨by simp only [cond_true]; omega, rfl⟩
  · rw [ine_t.2 h]
    simp only [cond_true, en]
    cases neg
    · rw [VW_f, satN_hi (by omega), satB_hi (by omega), Bool.or_true]; exact ⟨rfl, rfl⟩
    · rw [VW_t, satN_lo (by omega), satB_lo (by omega), Bool.or_true]; exact ⟨rfl, rfl⟩
theorem P_plus_ok {a : Bool} {ah al : Int} {b : Bool} {bh bl : Int} (h1 : U64 ah) (h2 : U64 al) (h3 : U64 bh) (h4 : U64 bl) : P_d6 a ah al b bh bl := by
  obtain ⟨a1, a2⟩ := h1
  obtain ⟨a3, a4⟩ := h2
  obtain ⟨b1, b2⟩ := h3
  obtain ⟨b3, b4⟩ := h4
  unfold P_d6 P_mb_Add64 P_mb_Sub64 F_mb_Add64_1 F_mb_Sub64_1
  refine cond_intro (fun _ => ?_) (fun _ => cond_intro (fun _ => ?_) (fun _ => ?_))
  · refine ⟨⟨a3, b3, by omega, by omega⟩, a1, b1, ?_, ?_⟩ <;> omega
  · refine ⟨⟨b3, a3, by omega, by omega, by omega⟩, b1, a1, by omega, ?_, ?_⟩ <;> split <;> omega
  · refine ⟨⟨a3, b3, by omega, by omega, by omega⟩, a1, b1, by omega, ?_, ?_⟩ <;> split <;> omega
theorem plus_ok {a : Bool} {ah al : Int} {b : Bool} {bh bl : Int} (h1 : Wd a ah al) (h2 : Wd b bh bl) (ha : ah < 9223372036854775808) (hb : bh < 9223372036854775808) :
    Wd (F_d6_0 a ah al b bh bl) (F_d6_1 a ah al b bh bl) (F_d6_2 a ah al b bh bl) /\ VW (F_d6_0 a ah al b bh bl) (F_d6_1 a ah al b bh bl) (F_d6_2 a ah al b bh bl) = VW a ah al + VW b bh bl := by
  obtain ⟨⟨a1, a2⟩, ⟨a3, a4⟩, ac⟩ := h1
  obtain ⟨⟨b1, b2⟩, ⟨b3, b4⟩, bc⟩ := h2
  have hless : F_fc_0 a ah al b bh bl = true ↔ ah * 18446744073709551616 + al < bh * 18446744073709551616 + bl := by
    unfold F_fc_0
    by_cases h : ah < bh
    · rw [ilt_t.2 h]; simp only [cond_true, true_iff]; omega
    · rw [ilt_f.2 (by omega)]
      simp only [cond_false]
      by_cases g : ah = bh
      · rw [ieq_t.2 g]; simp only [cond_true]; rw [ilt_t]; omega
      · rw [ieq_f.2 g]; simp only [cond_false]; constructor
        · intro h; cases h
        · intro h; omega
  unfold F_d6_0 F_d6_1 F_d6_2
  by_cases hs : a = b
  · subst hs
    have : beqB a a = true := by rw [beqB_eq]; exact beq_self_eq_true a
    rw [this]
    simp only [cond_true, F_mb_Add64_0, F_mb_Add64_1]
    refine ⟨⟨⟨by omega, by omega⟩, ⟨by omega, by omega⟩, fun h => ?_⟩, ?_⟩
    · have := ac h; omega
    · cases a
      · rw [VW_f, VW_f, VW_f]; omega
      · rw [VW_t, VW_t, VW_t]; omega
  · have : beqB a b = false := by rw [beqB_eq]; cases a <;> cases b <;> first | rfl | exact absurd rfl hs
    rw [this]
    simp only [cond_false]
    cases hl : F_fc_0 a ah al b bh bl with
    | true =>
      have hl := hless.1 hl
      simp only [cond_true]
      have e : F_mb_Sub64_0 bh ah (F_mb_Sub64_1 bl al 0) * 18446744073709551616 + F_mb_Sub64_0 bl al 0 = bh * 18446744073709551616 + bl - (ah * 18446744073709551616 + al) := by
        unfold F_mb_Sub64_0 F_mb_Sub64_1; split <;> omega
      have u1 : U64 (F_mb_Sub64_0 bh ah (F_mb_Sub64_1 bl al 0)) := by unfold F_mb_Sub64_0; exact ⟨by omega, by omega⟩
      have u2 : U64 (F_mb_Sub64_0 bl al 0) := by unfold F_mb_Sub64_0; exact ⟨by omega, by omega⟩
      generalize F_mb_Sub64_0 bh ah (F_mb_Sub64_1 bl al 0) = rh at *
      generalize F_mb_Sub64_0 bl al 0 = rl at *
      cases b
      · cases a
        · exact absurd rfl hs
        · simp only [cond_false]
          exact ⟨⟨u1, u2, fun h => by cases h⟩, by rw [VW_f, VW_f, VW_t]; omega⟩
      · cases a
        · simp only [cond_true]
          by_cases z : rh = 0
          · rw [ine_f.2 z, cond_false]
            rw [ine_t.2 (by obtain ⟨_, _⟩ := u2; omega)]
            exact ⟨⟨u1, u2, fun _ => by omega⟩, by rw [VW_t, VW_f, VW_t]; omega⟩
          · rw [ine_t.2 z, cond_true]
            exact ⟨⟨u1, u2, fun _ => by omega⟩, by rw [VW_t, VW_f, VW_t]; omega⟩
        · exact absurd rfl hs
    | false =>
      have hl : ¬ (ah * 18446744073709551616 + al < bh * 18446744073709551616 + bl) := fun h => by rw [hless.2 h] at hl; cases hl
      simp only [cond_false]
      have e : F_mb_Sub64_0 ah bh (F_mb_Sub64_1 al bl 0) * 18446744073709551616 + F_mb_Sub64_0 al bl 0 = ah * 18446744073709551616 + al - (bh * 18446744073709551616 + bl) := by
        unfold F_mb_Sub64_0 F_mb_Sub64_1; split <;> omega
      have u1 : U64 (F_mb_Sub64_0 ah bh (F_mb_Sub64_1 al bl 0)) := by unfold F_mb_Sub64_0; exact ⟨by omega, by omega⟩
      have u2 : U64 (F_mb_Sub64_0 al bl 0) := by unfold F_mb_Sub64_0; exact ⟨by omega, by omega⟩
      generalize F_mb_Sub64_0 ah bh (F_mb_Sub64_1 al bl 0) = rh at *
      generalize F_mb_Sub64_0 al bl 0 = rl at *
      cases a
      · cases b
        · exact absurd rfl hs
        · simp only [cond_false]
          exact ⟨⟨u1, u2, fun h => by cases h⟩, by rw [VW_f, VW_f, VW_t]; omega⟩
      · cases b
        · simp only [cond_true]
          by_cases z : rh = 0
          · rw [ine_f.2 z, cond_false]
            by_cases z2 : rl = 0
            · rw [ine_f.2 z2]
              exact ⟨⟨u1, u2, fun h => by cases h⟩, by rw [VW_f, VW_t, VW_f]; omega⟩
            · rw [ine_t.2 z2]
              exact ⟨⟨u1, u2, fun _ => by omega⟩, by rw [VW_t, VW_t, VW_f]; omega⟩
          · rw [ine_t.2 z, cond_true]
            exact ⟨⟨u1, u2, fun _ => by omega⟩, by rw [VW_t, VW_t, VW_f]; omega⟩
        · exact absurd rfl hs
def tq (z : Int) : Int := if z < 0 then -((-z) / 4294967296) else z / 4294967296
theorem VW_down {neg : Bool} {hi lo : Int} (h : Wd neg hi lo) : VW (F_el_0 neg hi lo) (F_el_1 neg hi lo) (F_el_2 neg hi lo) = tq (VW neg hi lo) := by
  obtain ⟨⟨a1, a2⟩, ⟨b1, b2⟩, c⟩ := h
  have e := (down_ok (neg := neg) ⟨a1, a2⟩ ⟨b1, b2⟩).2.2
  unfold F_el_0 tq
  cases neg
  · rw [VW_f, VW_f, e, if_neg (by omega)]
  · have := c rfl
    rw [VW_t, VW_t, e, if_pos (by omega), Int.neg_neg]
def B_ai (a0 : Int) (K0 : Bool -> Int -> Int -> Prop)  : Prop := Ts 4 (((P_dn a0) /\ Ts 3 (K0 (ilt a0 0) 0 (F_dn_0 a0))))
def P_ai (a0 : Int) : Prop := True
def F_ai_0 (a0 : Int) : Bool := (ilt a0 0)
def F_ai_1 (a0 : Int) : Int := 0
def F_ai_2 (a0 : Int) : Int := (F_dn_0 a0)
theorem H_ai (a0 : Int) {K0 : Bool -> Int -> Int -> Prop} (h : P_ai a0) (hK : K0 (F_ai_0 a0) (F_ai_1 a0) (F_ai_2 a0)) : B_ai a0 K0  := by
 unfold B_ai P_ai F_ai_0 F_ai_1 F_ai_2 at *
 simp only [Ts_iff, true_and]
 repeat' first | exact hK | refine ⟨rfl, ?_⟩ | refine ⟨trivial, ?_⟩ | refine ⟨by decide, ?_⟩ | (refine ⟨h.1, ?_⟩; replace h := h.2) | refine ⟨h, ?_⟩
theorem exact_ok {v : Int} (hv : Num' v) : Wd (F_ai_0 v) (F_ai_1 v) (F_ai_2 v) /\ VW (F_ai_0 v) (F_ai_1 v) (F_ai_2 v) = v := by
  have e2 : F_ai_2 v = max v (-v) := size_eq hv
  have e1 : F_ai_1 v = 0 := rfl
  obtain ⟨h1, h2⟩ := hv
  rw [e1, e2]
  unfold F_ai_0
  by_cases h : v < 0
  · rw [ilt_t.2 h]
    exact ⟨⟨⟨by omega, by omega⟩, ⟨by omega, by omega⟩, fun _ => by omega⟩, by rw [VW_t]; omega⟩
  · rw [ilt_f.2 (by omega)]
    exact ⟨⟨⟨by omega, by omega⟩, ⟨by omega, by omega⟩, fun h => by cases h⟩, by rw [VW_f]; omega⟩
def B_dr (cm : Bool) (ga gm : Int) (K0 : Bool -> Int -> Int -> Prop)  : Prop := Ts 6 (((0 <= (32 : Int)) /\ Ts 2 (((0 <= (32 : Int)) /\ Ts 3 (((0 <= (32 : Int)) /\ Ts 3 (K0 cm (ior .u64 (ishl .u64 ga 32) (ishr .u64 gm 32)) (ishl .u64 gm 32))))))))
def P_dr (cm : Bool) (ga gm : Int) : Prop := True
def F_dr_0 (cm : Bool) (ga gm : Int) : Bool := cm
def F_dr_1 (cm : Bool) (ga gm : Int) : Int := (ior .u64 (ishl .u64 ga 32) (ishr .u64 gm 32))
def F_dr_2 (cm : Bool) (ga gm : Int) : Int := (ishl .u64 gm 32)
theorem H_dr (cm : Bool) (ga gm : Int) {K0 : Bool -> Int -> Int -> Prop} (h : P_dr cm ga gm) (hK : K0 (F_dr_0 cm ga gm) (F_dr_1 cm ga gm) (F_dr_2 cm ga gm)) : B_dr cm ga gm K0  := by
 unfold B_dr P_dr F_dr_0 F_dr_1 F_dr_2 at *
 simp only [Ts_iff, true_and]
 repeat' first | exact hK | refine ⟨rfl, ?_⟩ | refine ⟨trivial, ?_⟩ | refine ⟨by decide, ?_⟩ | (refine ⟨h.1, ?_⟩; replace h := h.2) | refine ⟨h, ?_⟩
theorem up_ok {neg : Bool} {hi lo : Int} (h1 : 0 <= hi /\ hi < 4294967296) (h2 : U64 lo) : U64 (F_dr_1 neg hi lo) /\ U64 (F_dr_2 neg hi lo) /\ F_dr_1 neg hi lo * 18446744073709551616 + F_dr_2 neg hi lo = (hi * 18446744073709551616 + lo) * 4294967296 := by
  unfold F_dr_1 F_dr_2
  have e : (2 : Int) ^ 32 = 4294967296 := by decide
  have hU : U64 hi := ⟨h1.1, by have := h1.2; omega⟩
  rw [ishr32, ishl32, ishl32, low32 hU, ior_disj 32 (by decide) ⟨by rw [e]; have := h1.1; omega, by rw [e]; omega⟩ (by omega) (by rw [e]; have := h2.1; have := h2.2; omega), e]
  obtain ⟨a1, a2⟩ := h1
  obtain ⟨b1, b2⟩ := h2
  exact ⟨⟨by omega, by omega⟩, ⟨by omega, by omega⟩, by omega⟩
theorem VW_up {neg : Bool} {hi lo : Int} (h : Wd neg hi lo) (hh : hi < 4294967296) : VW (F_dr_0 neg hi lo) (F_dr_1 neg hi lo) (F_dr_2 neg hi lo) = VW neg hi lo * 4294967296 := by
  obtain ⟨⟨a1, a2⟩, ⟨b1, b2⟩, c⟩ := h
  have e := (up_ok (neg := neg) ⟨a1, hh⟩ ⟨b1, b2⟩).2.2
  unfold F_dr_0
  cases neg
  · rw [VW_f, VW_f, e]
  · rw [VW_t, VW_t, e]; omega
def B_b9_0 (cm : Bool) (ga gm a1 iu ic j8 jt : Int) (c x0 : Int -> Int -> Int -> Int -> Prop)  : Prop := Ts 2 (cond (ige ic 0) (Ts 4 (((0 <= (iconv .u64 ic)) /\ Ts 4 (cond (ige ic 64) (Ts 5 (((0 <= (iconv .u64 (isub .i64 ic 64))) /\ Ts 3 (((0 <= (1 : Int)) /\ Ts 5 (((0 <= (1 : Int)) /\ Ts 2 (((0 <= (63 : Int)) /\ Ts 3 (((0 <= (1 : Int)) /\ Ts 7 (cond (ige (ior .u64 (ishl .u64 iu 1) (iand .u64 (ishr .u64 ga (iconv .u64 (isub .i64 ic 64))) 1)) a1) (Ts 12 (c (isub .u64 (ior .u64 (ishl .u64 iu 1) (iand .u64 (ishr .u64 ga (iconv .u64 (isub .i64 ic 64))) 1)) a1) (isub .i64 ic 1) (ior .u64 (ishl .u64 j8 1) (ishr .u64 jt 63)) (ior .u64 (ishl .u64 jt 1) 1))) (Ts 3 (c (ior .u64 (ishl .u64 iu 1) (iand .u64 (ishr .u64 ga (iconv .u64 (isub .i64 ic 64))) 1)) (isub .i64 ic 1) (ior .u64 (ishl .u64 j8 1) (ishr .u64 jt 63)) (ishl .u64 jt 1))))))))))))))) (Ts 1 (((0 <= (1 : Int)) /\ Ts 5 (((0 <= (1 : Int)) /\ Ts 2 (((0 <= (63 : Int)) /\ Ts 3 (((0 <= (1 : Int)) /\ Ts 7 (cond (ige (ior .u64 (ishl .u64 iu 1) (iand .u64 (ishr .u64 gm (iconv .u64 ic)) 1)) a1) (Ts 12 (c (isub .u64 (ior .u64 (ishl .u64 iu 1) (iand .u64 (ishr .u64 gm (iconv .u64 ic)) 1)) a1) (isub .i64 ic 1) (ior .u64 (ishl .u64 j8 1) (ishr .u64 jt 63)) (ior .u64 (ishl .u64 jt 1) 1))) (Ts 3 (c (ior .u64 (ishl .u64 iu 1) (iand .u64 (ishr .u64 gm (iconv .u64 ic)) 1)) (isub .i64 ic 1) (ior .u64 (ishl .u64 j8 1) (ishr .u64 jt 63)) (ishl .u64 jt 1))))))))))))))))) (x0 iu ic j8 jt))
def W_b9_0 (cm : Bool) (ga gm a1 : Int) : Nat -> Int -> Int -> Int -> Int -> (Int -> Int -> Int -> Int -> Prop) -> Prop
  | 0, _, _, _, _, _ => False
  | f + 1, w0, w1, w2, w3, x0 => B_b9_0 cm ga gm a1 w0 w1 w2 w3 (fun u0 u1 u2 u3 => W_b9_0 cm ga gm a1 f u0 u1 u2 u3 x0) x0 
theorem BM_b9_0 (cm : Bool) (ga gm a1 iu ic j8 jt : Int) {c c' : Int -> Int -> Int -> Int -> Prop} {x0 y0 : Int -> Int -> Int -> Int -> Prop} (hc : ∀ w0 w1 w2 w3, c w0 w1 w2 w3 -> c' w0 w1 w2 w3) (h0 : ∀ o0 o1 o2 o3, x0 o0 o1 o2 o3 -> y0 o0 o1 o2 o3) : B_b9_0 cm ga gm a1 iu ic j8 jt c x0  -> B_b9_0 cm ga gm a1 iu ic j8 jt c' y0  := by
  unfold B_b9_0
  repeat' first
    | exact hc _ _ _ _
    | exact h0 _ _ _ _
    | refine Ts_imp ?_
    | refine cond_imp ?_ ?_
    | refine and_imp' ?_
theorem WM_b9_0 (cm : Bool) (ga gm a1 : Int) {x0 y0 : Int -> Int -> Int -> Int -> Prop} (h0 : ∀ o0 o1 o2 o3, x0 o0 o1 o2 o3 -> y0 o0 o1 o2 o3) : ∀ (f : Nat) (iu ic j8 jt : Int), W_b9_0 cm ga gm a1 f iu ic j8 jt x0 -> W_b9_0 cm ga gm a1 f iu ic j8 jt y0
  | 0, w0, w1, w2, w3 => fun h => h
  | f + 1, w0, w1, w2, w3 => BM_b9_0 cm ga gm a1 w0 w1 w2 w3 (fun u0 u1 u2 u3 => WM_b9_0 cm ga gm a1 h0 f u0 u1 u2 u3) h0
def B_b9 (cm : Bool) (ga gm a1 : Int) (K0 : Bool -> Int -> Int -> Prop) (l0 : Int -> Int -> Int -> Int -> (Int -> Int -> Int -> Int -> Prop) -> Prop) : Prop := Ts 9 ((l0 0 127 0 0 (fun lg i6 lq lr => Ts 3 (K0 cm lq lr))))
theorem bit_hi {hi lo : Int} (h2 : U64 lo) (k : Nat) : (hi * 18446744073709551616 + lo) / 2 ^ (k + 64) = hi / 2 ^ k := by
  rw [Nat.add_comm k 64, Int.pow_add, ← Int.ediv_ediv_of_nonneg (by decide)]
  congr 1
  obtain ⟨b1, b2⟩ := h2
  rw [show (2 : Int) ^ 64 = 18446744073709551616 by decide]
  omega
theorem bit_lo {hi lo : Int} (k : Nat) (hk : k < 64) : (hi * 18446744073709551616 + lo) / 2 ^ k % 2 = lo / 2 ^ k % 2 := by
  have e : (18446744073709551616 : Int) = 2 ^ k * (2 ^ (63 - k) * 2) := by
    rw [show (2 : Int) ^ (63 - k) * 2 = 2 ^ (63 - k + 1) from (Int.pow_succ ..).symm, ← Int.pow_add, show k + (63 - k + 1) = 64 by omega]
    decide
  have hp : (2 : Int) ^ k ≠ 0 := Int.ne_of_gt (Int.pow_pos (by decide))
  rw [e, show hi * (2 ^ k * (2 ^ (63 - k) * 2)) + lo = lo + 2 ^ k * (hi * 2 ^ (63 - k) * 2) by rw [Int.mul_left_comm, Int.add_comm, Int.mul_assoc], Int.add_mul_ediv_left _ _ hp]
  omega
theorem shl_or {r b : Int} (hr : 0 <= r /\ r < 9223372036854775808) (hb : 0 <= b /\ b < 2) : ior .u64 (ishl .u64 r 1) b = 2 * r + b := by
  have e : (2 : Int) ^ 1 = 2 := by decide
  rw [ishl1, show r * 2 % 18446744073709551616 = r * 2 ^ 1 by rw [e]; omega, ior_disj 1 (by decide) ⟨by rw [e]; omega, by rw [e]; omega⟩ hr.1 (by rw [e]; exact hb), e]
  omega
def P_b9 (neg : Bool) (hi lo d : Int) : Prop := U64 hi /\ U64 lo /\ 1 <= d /\ d <= 9223372036854775808
def F_b9_0 (neg : Bool) (hi lo d : Int) : Bool := neg
def F_b9_1 (neg : Bool) (hi lo d : Int) : Int := (hi * 18446744073709551616 + lo) / d / 18446744073709551616
def F_b9_2 (neg : Bool) (hi lo d : Int) : Int := (hi * 18446744073709551616 + lo) / d % 18446744073709551616
theorem over_step {d r qh ql M w : Int} {C : Int -> Int -> Int -> Prop} (hd : 1 <= d /\ d <= 9223372036854775808) (g1 : 0 <= r) (g2 : r < d) (u1 : U64 qh) (u2 : U64 ql) (hq : (qh * 18446744073709551616 + ql) * d + r = M / 2) (hM : M / 2 < 170141183460469231731687303715884105728) (hw : w = 2 * r + M % 2)
    (hC : ∀ r' a b, 0 <= r' -> r' < d -> U64 a -> U64 b -> (a * 18446744073709551616 + b) * d + r' = M -> C r' a b) :
    cond (ige w d) (C (isub .u64 w d) (ior .u64 (ishl .u64 qh 1) (ishr .u64 ql 63)) (ior .u64 (ishl .u64 ql 1) 1)) (C w (ior .u64 (ishl .u64 qh 1) (ishr .u64 ql 63)) (ishl .u64 ql 1)) := by
  obtain ⟨p3, p4⟩ := hd
  have hQ : qh * 18446744073709551616 + ql <= (qh * 18446744073709551616 + ql) * d := by
    have := Int.mul_le_mul_of_nonneg_left p3 (show 0 <= qh * 18446744073709551616 + ql by obtain ⟨_, _⟩ := u1; obtain ⟨_, _⟩ := u2; omega)
    rw [Int.mul_one] at this
    exact this
  have hqh : qh < 9223372036854775808 := by obtain ⟨_, _⟩ := u2; omega
  obtain ⟨a1, a2⟩ := u1
  obtain ⟨b1, b2⟩ := u2
  have e63 : 0 <= ishr .u64 ql 63 /\ ishr .u64 ql 63 < 2 := by rw [ishr63]; omega
  rw [shl_or ⟨a1, hqh⟩ e63, ishr63]
  have hl : ior .u64 (ishl .u64 ql 1) 1 = ql * 2 % 18446744073709551616 + 1 := by
    have e : (2 : Int) ^ 1 = 2 := by decide
    rw [ishl1, show ql * 2 % 18446744073709551616 = ql % 9223372036854775808 * 2 ^ 1 by rw [e]; omega, ior_disj 1 (by decide) ⟨by rw [e]; omega, by rw [e]; omega⟩ (by omega) (by rw [e]; omega)]
  refine cond_intro (fun hc => ?_) (fun hc => ?_)
  · rw [ige_t] at hc
    rw [hl, isubU]
    refine hC _ _ _ (by omega) (by omega) ⟨by omega, by omega⟩ ⟨by omega, by omega⟩ ?_
    have : ((2 * qh + ql / 9223372036854775808) * 18446744073709551616 + (ql * 2 % 18446744073709551616 + 1)) = 2 * (qh * 18446744073709551616 + ql) + 1 := by omega
    rw [this, Int.add_mul, Int.mul_assoc, Int.one_mul, show (w - d) % 18446744073709551616 = w - d by omega]
    omega
  · rw [ige_f] at hc
    rw [ishl1]
    refine hC _ _ _ (by omega) (by omega) ⟨by omega, by omega⟩ ⟨by omega, by omega⟩ ?_
    have : ((2 * qh + ql / 9223372036854775808) * 18446744073709551616 + ql * 2 % 18446744073709551616) = 2 * (qh * 18446744073709551616 + ql) := by omega
    rw [this, Int.mul_assoc]
    omega
theorem W_b9_ok {neg : Bool} {hi lo d : Int} (hp : P_b9 neg hi lo d) {x0 : Int -> Int -> Int -> Int -> Prop} (h3 : ∀ r v, x0 r v (F_b9_1 neg hi lo d) (F_b9_2 neg hi lo d)) : ∀ (f j : Nat) (r v qh ql : Int), j <= 128 -> j < f -> v = (j : Int) - 1 -> 0 <= r -> r < d -> U64 qh -> U64 ql -> (qh * 18446744073709551616 + ql) * d + r = (hi * 18446744073709551616 + lo) / 2 ^ j -> W_b9_0 neg hi lo d f r v qh ql x0
  | 0, j, _, _, _, _, h1, h2, _, _, _, _, _, _ => by omega
  | f + 1, 0, r, v, qh, ql, h1, h2, hv, g1, g2, u1, u2, hq => by
    show B_b9_0 neg hi lo d r v qh ql _ _
    unfold B_b9_0
    simp only [Ts_iff, true_and]
    rw [ige_f.2 (by omega), cond_false]
    have e : (hi * 18446744073709551616 + lo) / d = qh * 18446744073709551616 + ql := by
      rw [Int.pow_zero, Int.ediv_one] at hq
      rw [← hq, Int.add_comm, Int.add_mul_ediv_right _ _ (by omega), Int.ediv_eq_zero_of_lt g1 g2, Int.zero_add]
    have := h3 r v
    unfold F_b9_1 F_b9_2 at this
    rw [e] at this
    obtain ⟨b1, b2⟩ := u2
    rw [show (qh * 18446744073709551616 + ql) / 18446744073709551616 = qh by omega, show (qh * 18446744073709551616 + ql) % 18446744073709551616 = ql by omega] at this
    exact this
  | f + 1, k + 1, r, v, qh, ql, h1, h2, hv, g1, g2, u1, u2, hq => by
    have hv : v = (k : Int) := by omega
    subst hv
    obtain ⟨p1, p2, p3, p4⟩ := hp
    have hM : (hi * 18446744073709551616 + lo) / 2 ^ k / 2 = (hi * 18446744073709551616 + lo) / 2 ^ (k + 1) := by
      rw [Int.pow_succ, ← Int.ediv_ediv_of_nonneg (Int.le_of_lt (Int.pow_pos (by decide)))]
    have hN : 0 <= (hi * 18446744073709551616 + lo) / 2 ^ k := Int.ediv_nonneg (by obtain ⟨_, _⟩ := p1; obtain ⟨_, _⟩ := p2; omega) (Int.le_of_lt (Int.pow_pos (by decide)))
    have hNle : (hi * 18446744073709551616 + lo) / 2 ^ (k + 1) < 170141183460469231731687303715884105728 := by
      rw [← hM]
      have h5 : (hi * 18446744073709551616 + lo) / 2 ^ k <= hi * 18446744073709551616 + lo := Int.ediv_le_self _ (by obtain ⟨_, _⟩ := p1; obtain ⟨_, _⟩ := p2; omega)
      obtain ⟨_, _⟩ := p1; obtain ⟨_, _⟩ := p2
      omega
    rw [← hM] at hq hNle
    have key : ∀ w, w = 2 * r + (hi * 18446744073709551616 + lo) / 2 ^ k % 2 -> cond (ige w d) (W_b9_0 neg hi lo d f (isub .u64 w d) (isub .i64 (k : Int) 1) (ior .u64 (ishl .u64 qh 1) (ishr .u64 ql 63)) (ior .u64 (ishl .u64 ql 1) 1) x0) (W_b9_0 neg hi lo d f w (isub .i64 (k : Int) 1) (ior .u64 (ishl .u64 qh 1) (ishr .u64 ql 63)) (ishl .u64 ql 1) x0) := by
      intro w hw
      refine over_step (C := fun a b c => W_b9_0 neg hi lo d f a (isub .i64 (k : Int) 1) b c x0) ⟨p3, p4⟩ g1 g2 u1 u2 hq hNle hw (fun r' a b z1 z2 z3 z4 z5 => ?_)
      rw [isub64 (by omega) (by omega)]
      exact W_b9_ok ⟨p1, p2, p3, p4⟩ h3 f k _ _ _ _ (by omega) (by omega) rfl z1 z2 z3 z4 z5
    show B_b9_0 neg hi lo d r k qh ql _ _
    unfold B_b9_0
    simp only [Ts_iff, true_and]
    have hconv : ∀ x : Int, 0 <= x -> x < 200 -> iconv .u64 x = x := fun x h1 h2 => by rw [iconvU]; omega
    rw [ige_t.2 (by omega), cond_true]
    refine ⟨by rw [hconv _ (by omega) (by omega)]; omega, cond_intro (fun hc => ?_) (fun hc => ?_)⟩
    · rw [ige_t] at hc
      have ei : iconv .u64 (isub .i64 (k : Int) 64) = ((k - 64 : Nat) : Int) := by rw [isub64 (by omega) (by omega), hconv _ (by omega) (by omega)]; omega
      have hbit : iand .u64 (ishr .u64 hi (iconv .u64 (isub .i64 (k : Int) 64))) 1 = (hi * 18446744073709551616 + lo) / 2 ^ k % 2 := by
        rw [ei, ishrU _ _ (by omega), iand1 ⟨Int.ediv_nonneg p1.1 (Int.le_of_lt (Int.pow_pos (by decide))), Int.lt_of_le_of_lt (Int.ediv_le_self _ p1.1) p1.2⟩, ← bit_hi p2 (k - 64), show k - 64 + 64 = k by omega]
      refine ⟨by rw [ei]; omega, by decide, by decide, by decide, by decide, key _ ?_⟩
      rw [hbit]
      exact shl_or ⟨g1, by omega⟩ ⟨by omega, by omega⟩
    · rw [ige_f] at hc
      have hbit : iand .u64 (ishr .u64 lo (iconv .u64 (k : Int))) 1 = (hi * 18446744073709551616 + lo) / 2 ^ k % 2 := by
        rw [hconv _ (by omega) (by omega), ishrU _ _ (by omega), iand1 ⟨Int.ediv_nonneg p2.1 (Int.le_of_lt (Int.pow_pos (by decide))), Int.lt_of_le_of_lt (Int.ediv_le_self _ p2.1) p2.2⟩, bit_lo k (by omega)]
      refine ⟨by decide, by decide, by decide, by decide, key _ ?_⟩
      rw [hbit]
      exact shl_or ⟨g1, by omega⟩ ⟨by omega, by omega⟩
theorem H_b9 (cm : Bool) (ga gm a1 : Int) {K0 : Bool -> Int -> Int -> Prop} (h : P_b9 cm ga gm a1) (hK : K0 (F_b9_0 cm ga gm a1) (F_b9_1 cm ga gm a1) (F_b9_2 cm ga gm a1)) : B_b9 cm ga gm a1 K0 (W_b9_0 cm ga gm a1 fuel) := by
  unfold B_b9
  simp only [Ts_iff, true_and]
  obtain ⟨p1, p2, p3, p4⟩ := h
  refine W_b9_ok ⟨p1, p2, p3, p4⟩ (fun r v => hK) fuel 128 0 127 0 0 (by omega) (by rw [fuel_eq]; omega) (by omega) (by omega) (by omega) ⟨by omega, by omega⟩ ⟨by omega, by omega⟩ ?_
  obtain ⟨a1, a2⟩ := p1
  obtain ⟨b1, b2⟩ := p2
  rw [Int.ediv_eq_zero_of_lt (by omega) (by rw [show (2 : Int) ^ 128 = 340282366920938463463374607431768211456 by decide]; omega)]
  omega
def B_ep (cm : Int) (ga : Bool) (K0 : Int -> Bool -> Prop)  : Prop := Ts 3 (((P_aq cm ga) /\ Ts 11 (K0 (ineg .i64 (F_aq_0 cm ga)) (F_aq_1 cm ga))))
def P_ep (cm : Int) (ga : Bool) : Prop := True
def F_ep_0 (cm : Int) (ga : Bool) : Int := (ineg .i64 (F_aq_0 cm ga))
def F_ep_1 (cm : Int) (ga : Bool) : Bool := (F_aq_1 cm ga)
theorem H_ep (cm : Int) (ga : Bool) {K0 : Int -> Bool -> Prop} (h : P_ep cm ga) (hK : K0 (F_ep_0 cm ga) (F_ep_1 cm ga)) : B_ep cm ga K0  := by
 unfold B_ep P_ep F_ep_0 F_ep_1 at *
 simp only [Ts_iff, true_and]
 repeat' first | exact hK | refine ⟨rfl, ?_⟩ | refine ⟨trivial, ?_⟩ | refine ⟨by decide, ?_⟩ | (refine ⟨h.1, ?_⟩; replace h := h.2) | refine ⟨h, ?_⟩
theorem Neg_ok {v : Int} {f : Bool} (hv : Num' v) : F_ep_0 v f = -v /\ F_ep_1 v f = f := by
  unfold F_ep_0 F_ep_1
  rw [whole_eq, whole_id hv, wholeF_id hv, ineg64 hv.1 hv.2]
  exact ⟨rfl, rfl⟩
def E_ct_0 (cm : Int) (ga : Bool) (gb : Int) (gd : Bool) : Bool := (F_be_0 (F_aq_0 cm ga) (F_aq_0 gb gd))
def E_ct_1 (cm : Int) (ga : Bool) (gb : Int) (gd : Bool) : Int := (F_be_1 (F_aq_0 cm ga) (F_aq_0 gb gd))
def E_ct_2 (cm : Int) (ga : Bool) (gb : Int) (gd : Bool) : Int := (F_be_2 (F_aq_0 cm ga) (F_aq_0 gb gd))
def E_ct_3 (cm : Int) (ga : Bool) (gb : Int) (gd : Bool) : Bool := (F_el_0 (E_ct_0 cm ga gb gd) (E_ct_1 cm ga gb gd) (E_ct_2 cm ga gb gd))
def E_ct_4 (cm : Int) (ga : Bool) (gb : Int) (gd : Bool) : Int := (F_el_1 (E_ct_0 cm ga gb gd) (E_ct_1 cm ga gb gd) (E_ct_2 cm ga gb gd))
def E_ct_5 (cm : Int) (ga : Bool) (gb : Int) (gd : Bool) : Int := (F_el_2 (E_ct_0 cm ga gb gd) (E_ct_1 cm ga gb gd) (E_ct_2 cm ga gb gd))
def E_ct_6 (cm : Int) (ga : Bool) (gb : Int) (gd : Bool) : Int := (F_d7_0 (E_ct_3 cm ga gb gd) (E_ct_4 cm ga gb gd) (E_ct_5 cm ga gb gd) true)
def E_ct_7 (cm : Int) (ga : Bool) (gb : Int) (gd : Bool) : Bool := (F_d7_1 (E_ct_3 cm ga gb gd) (E_ct_4 cm ga gb gd) (E_ct_5 cm ga gb gd) true)
def E_ct_8 (cm : Int) (ga : Bool) (gb : Int) (gd : Bool) : Int := (F_d7_0 (E_ct_3 cm ga gb gd) (E_ct_4 cm ga gb gd) (E_ct_5 cm ga gb gd) (F_aq_1 gb gd))
def E_ct_9 (cm : Int) (ga : Bool) (gb : Int) (gd : Bool) : Bool := (F_d7_1 (E_ct_3 cm ga gb gd) (E_ct_4 cm ga gb gd) (E_ct_5 cm ga gb gd) (F_aq_1 gb gd))
def B_ct (cm : Int) (ga : Bool) (gb : Int) (gd : Bool) (K0 : Int -> Bool -> Prop)  : Prop := Ts 4 (((P_aq cm ga) /\ Ts 6 (((P_aq gb gd) /\ Ts 7 (((P_be (F_aq_0 cm ga) (F_aq_0 gb gd)) /\ ((P_el (E_ct_0 cm ga gb gd) (E_ct_1 cm ga gb gd) (E_ct_2 cm ga gb gd)) /\ Ts 2 (cond (F_aq_1 cm ga) (Ts 1 (((P_d7 (E_ct_3 cm ga gb gd) (E_ct_4 cm ga gb gd) (E_ct_5 cm ga gb gd) true) /\ Ts 2 (K0 (E_ct_6 cm ga gb gd) (E_ct_7 cm ga gb gd))))) (Ts 2 (((P_d7 (E_ct_3 cm ga gb gd) (E_ct_4 cm ga gb gd) (E_ct_5 cm ga gb gd) (F_aq_1 gb gd)) /\ Ts 2 (K0 (E_ct_8 cm ga gb gd) (E_ct_9 cm ga gb gd)))))))))))))
def P_ct (cm : Int) (ga : Bool) (gb : Int) (gd : Bool) : Prop := True
def F_ct_0 (cm : Int) (ga : Bool) (gb : Int) (gd : Bool) : Int := (cond (F_aq_1 cm ga) (E_ct_6 cm ga gb gd) (E_ct_8 cm ga gb gd))
def F_ct_1 (cm : Int) (ga : Bool) (gb : Int) (gd : Bool) : Bool := (cond (F_aq_1 cm ga) (E_ct_7 cm ga gb gd) (E_ct_9 cm ga gb gd))
theorem H_ct (cm : Int) (ga : Bool) (gb : Int) (gd : Bool) {K0 : Int -> Bool -> Prop} (h : P_ct cm ga gb gd) (hK : K0 (F_ct_0 cm ga gb gd) (F_ct_1 cm ga gb gd)) : B_ct cm ga gb gd K0  := by
 unfold B_ct P_ct F_ct_0 F_ct_1 at *
 simp only [Ts_iff, true_and]
 repeat' first | exact hK | (refine cond_intro (fun c => ?_) (fun c => ?_) <;> try simp only [c, cond_true, cond_false] at h hK ⊢) | refine ⟨rfl, ?_⟩ | refine ⟨trivial, ?_⟩ | refine ⟨by decide, ?_⟩ | (refine ⟨h.1, ?_⟩; replace h := h.2) | refine ⟨h, ?_⟩
theorem Mul_ok {v w : Int} {f g : Bool} (hv : Num' v) (hw : Num' w) : F_ct_0 v f w g = satN (tq (v * w)) /\ F_ct_1 v f w g = (f || g || satB (tq (v * w))) := by
  unfold F_ct_0 F_ct_1
  simp only [E_ct_0, E_ct_1, E_ct_2, E_ct_3, E_ct_4, E_ct_5, E_ct_6, E_ct_7, E_ct_8, E_ct_9]
  simp only [whole_eq, whole_id hv, whole_id hw, wholeF_id hv, wholeF_id hw]
  obtain ⟨h1, h2, h3⟩ := times_ok hv hw
  have hd := VW_down h1
  have hd2 := down_ok (neg := F_be_0 v w) h1.uh h1.ul
  rw [h2] at hd
  have hf := fun x => fit_ok (neg := F_el_0 (F_be_0 v w) (F_be_1 v w) (F_be_2 v w)) hd2.1 hd2.2.1 x
  simp only [hd] at hf
  cases f <;> cases g <;> simp [hf]
def E_bw_0 (cm : Int) (ga : Bool) (gb : Int) (gd : Bool) : Bool := (F_be_0 (F_aq_0 cm ga) (F_aq_0 gb gd))
def E_bw_1 (cm : Int) (ga : Bool) (gb : Int) (gd : Bool) : Int := (F_be_1 (F_aq_0 cm ga) (F_aq_0 gb gd))
def E_bw_2 (cm : Int) (ga : Bool) (gb : Int) (gd : Bool) : Int := (F_be_2 (F_aq_0 cm ga) (F_aq_0 gb gd))
def E_bw_3 (gh : Int) (gj : Bool) (g6 : Int) (g7 : Bool) : Bool := (F_be_0 (F_aq_0 gh gj) (F_aq_0 g6 g7))
def E_bw_4 (gh : Int) (gj : Bool) (g6 : Int) (g7 : Bool) : Int := (F_be_1 (F_aq_0 gh gj) (F_aq_0 g6 g7))
def E_bw_5 (gh : Int) (gj : Bool) (g6 : Int) (g7 : Bool) : Int := (F_be_2 (F_aq_0 gh gj) (F_aq_0 g6 g7))
def E_bw_6 (cm : Int) (ga : Bool) (gb : Int) (gd : Bool) (gh : Int) (gj : Bool) (g6 : Int) (g7 : Bool) : Bool := (F_d6_0 (E_bw_0 cm ga gb gd) (E_bw_1 cm ga gb gd) (E_bw_2 cm ga gb gd) (E_bw_3 gh gj g6 g7) (E_bw_4 gh gj g6 g7) (E_bw_5 gh gj g6 g7))
def E_bw_7 (cm : Int) (ga : Bool) (gb : Int) (gd : Bool) (gh : Int) (gj : Bool) (g6 : Int) (g7 : Bool) : Int := (F_d6_1 (E_bw_0 cm ga gb gd) (E_bw_1 cm ga gb gd) (E_bw_2 cm ga gb gd) (E_bw_3 gh gj g6 g7) (E_bw_4 gh gj g6 g7) (E_bw_5 gh gj g6 g7))
def E_bw_8 (cm : Int) (ga : Bool) (gb : Int) (gd : Bool) (gh : Int) (gj : Bool) (g6 : Int) (g7 : Bool) : Int := (F_d6_2 (E_bw_0 cm ga gb gd) (E_bw_1 cm ga gb gd) (E_bw_2 cm ga gb gd) (E_bw_3 gh gj g6 g7) (E_bw_4 gh gj g6 g7) (E_bw_5 gh gj g6 g7))
def E_bw_9 (cm : Int) (ga : Bool) (gb : Int) (gd : Bool) (gh : Int) (gj : Bool) (g6 : Int) (g7 : Bool) : Bool := (F_el_0 (E_bw_6 cm ga gb gd gh gj g6 g7) (E_bw_7 cm ga gb gd gh gj g6 g7) (E_bw_8 cm ga gb gd gh gj g6 g7))
def E_bw_10 (cm : Int) (ga : Bool) (gb : Int) (gd : Bool) (gh : Int) (gj : Bool) (g6 : Int) (g7 : Bool) : Int := (F_el_1 (E_bw_6 cm ga gb gd gh gj g6 g7) (E_bw_7 cm ga gb gd gh gj g6 g7) (E_bw_8 cm ga gb gd gh gj g6 g7))
def E_bw_11 (cm : Int) (ga : Bool) (gb : Int) (gd : Bool) (gh : Int) (gj : Bool) (g6 : Int) (g7 : Bool) : Int := (F_el_2 (E_bw_6 cm ga gb gd gh gj g6 g7) (E_bw_7 cm ga gb gd gh gj g6 g7) (E_bw_8 cm ga gb gd gh gj g6 g7))
def E_bw_12 (cm : Int) (ga : Bool) (gb : Int) (gd : Bool) (gh : Int) (gj : Bool) (g6 : Int) (g7 : Bool) : Int := (F_d7_0 (E_bw_9 cm ga gb gd gh gj g6 g7) (E_bw_10 cm ga gb gd gh gj g6 g7) (E_bw_11 cm ga gb gd gh gj g6 g7) true)
def E_bw_13 (cm : Int) (ga : Bool) (gb : Int) (gd : Bool) (gh : Int) (gj : Bool) (g6 : Int) (g7 : Bool) : Bool := (F_d7_1 (E_bw_9 cm ga gb gd gh gj g6 g7) (E_bw_10 cm ga gb gd gh gj g6 g7) (E_bw_11 cm ga gb gd gh gj g6 g7) true)
def E_bw_14 (cm : Int) (ga : Bool) (gb : Int) (gd : Bool) (gh : Int) (gj : Bool) (g6 : Int) (g7 : Bool) : Int := (F_d7_0 (E_bw_9 cm ga gb gd gh gj g6 g7) (E_bw_10 cm ga gb gd gh gj g6 g7) (E_bw_11 cm ga gb gd gh gj g6 g7) (F_aq_1 g6 g7))
def E_bw_15 (cm : Int) (ga : Bool) (gb : Int) (gd : Bool) (gh : Int) (gj : Bool) (g6 : Int) (g7 : Bool) : Bool := (F_d7_1 (E_bw_9 cm ga gb gd gh gj g6 g7) (E_bw_10 cm ga gb gd gh gj g6 g7) (E_bw_11 cm ga gb gd gh gj g6 g7) (F_aq_1 g6 g7))
def B_bw (cm : Int) (ga : Bool) (gb : Int) (gd : Bool) (gh : Int) (gj : Bool) (g6 : Int) (g7 : Bool) (K0 : Int -> Bool -> Prop)  : Prop := Ts 6 (((P_aq cm ga) /\ Ts 6 (((P_aq gb gd) /\ Ts 6 (((P_aq gh gj) /\ Ts 6 (((P_aq g6 g7) /\ Ts 7 (((P_be (F_aq_0 cm ga) (F_aq_0 gb gd)) /\ Ts 2 (((P_be (F_aq_0 gh gj) (F_aq_0 g6 g7)) /\ ((P_d6 (E_bw_0 cm ga gb gd) (E_bw_1 cm ga gb gd) (E_bw_2 cm ga gb gd) (E_bw_3 gh gj g6 g7) (E_bw_4 gh gj g6 g7) (E_bw_5 gh gj g6 g7)) /\ ((P_el (E_bw_6 cm ga gb gd gh gj g6 g7) (E_bw_7 cm ga gb gd gh gj g6 g7) (E_bw_8 cm ga gb gd gh gj g6 g7)) /\ Ts 2 (cond (F_aq_1 cm ga) (Ts 5 (((P_d7 (E_bw_9 cm ga gb gd gh gj g6 g7) (E_bw_10 cm ga gb gd gh gj g6 g7) (E_bw_11 cm ga gb gd gh gj g6 g7) true) /\ Ts 2 (K0 (E_bw_12 cm ga gb gd gh gj g6 g7) (E_bw_13 cm ga gb gd gh gj g6 g7))))) (Ts 3 (cond (F_aq_1 gb gd) (Ts 3 (((P_d7 (E_bw_9 cm ga gb gd gh gj g6 g7) (E_bw_10 cm ga gb gd gh gj g6 g7) (E_bw_11 cm ga gb gd gh gj g6 g7) true) /\ Ts 2 (K0 (E_bw_12 cm ga gb gd gh gj g6 g7) (E_bw_13 cm ga gb gd gh gj g6 g7))))) (Ts 3 (cond (F_aq_1 gh gj) (Ts 1 (((P_d7 (E_bw_9 cm ga gb gd gh gj g6 g7) (E_bw_10 cm ga gb gd gh gj g6 g7) (E_bw_11 cm ga gb gd gh gj g6 g7) true) /\ Ts 2 (K0 (E_bw_12 cm ga gb gd gh gj g6 g7) (E_bw_13 cm ga gb gd gh gj g6 g7))))) (Ts 2 (((P_d7 (E_bw_9 cm ga gb gd gh gj g6 g7) (E_bw_10 cm ga gb gd gh gj g6 g7) (E_bw_11 cm ga gb gd gh gj g6 g7) (F_aq_1 g6 g7)) /\ Ts 2 (K0 (E_bw_14 cm ga gb gd gh gj g6 g7) (E_bw_15 cm ga gb gd gh gj g6 g7))))))))))))))))))))))))
def P_bw (cm : Int) (ga : Bool) (gb : Int) (gd : Bool) (gh : Int) (gj : Bool) (g6 : Int) (g7 : Bool) : Prop := (P_d6 (E_bw_0 cm ga gb gd) (E_bw_1 cm ga gb gd) (E_bw_2 cm ga gb gd) (E_bw_3 gh gj g6 g7) (E_bw_4 gh gj g6 g7) (E_bw_5 gh gj g6 g7))
def F_bw_0 (cm : Int) (ga : Bool) (gb : Int) (gd : Bool) (gh : Int) (gj : Bool) (g6 : Int) (g7 : Bool) : Int := (cond (F_aq_1 cm ga) (E_bw_12 cm ga gb gd gh gj g6 g7) (cond (F_aq_1 gb gd) (E_bw_12 cm ga gb gd gh gj g6 g7) (cond (F_aq_1 gh gj) (E_bw_12 cm ga gb gd gh gj g6 g7) (E_bw_14 cm ga gb gd gh gj g6 g7))))
def F_bw_1 (cm : Int) (ga : Bool) (gb : Int) (gd : Bool) (gh : Int) (gj : Bool) (g6 : Int) (g7 : Bool) : Bool := (cond (F_aq_1 cm ga) (E_bw_13 cm ga gb gd gh gj g6 g7) (cond (F_aq_1 gb gd) (E_bw_13 cm ga gb gd gh gj g6 g7) (cond (F_aq_1 gh gj) (E_bw_13 cm ga gb gd gh gj g6 g7) (E_bw_15 cm ga gb gd gh gj g6 g7))))
theorem H_bw (cm : Int) (ga : Bool) (gb : Int) (gd : Bool) (gh : Int) (gj : Bool) (g6 : Int) (g7 : Bool) {K0 : Int -> Bool -> Prop} (h : P_bw cm ga gb gd gh gj g6 g7) (hK : K0 (F_bw_0 cm ga gb gd gh gj g6 g7) (F_bw_1 cm ga gb gd gh gj g6 g7)) : B_bw cm ga gb gd gh gj g6 g7 K0  := by
 unfold B_bw P_bw F_bw_0 F_bw_1 at *
 simp only [Ts_iff, true_and]; try simp only [Ts_iff, true_and] at h
 repeat' first | exact hK | (refine cond_intro (fun c => ?_) (fun c => ?_) <;> try simp only [c, cond_true, cond_false] at h hK ⊢) | refine ⟨rfl, ?_⟩ | refine ⟨trivial, ?_⟩ | refine ⟨by decide, ?_⟩ | (refine ⟨h.1, ?_⟩; replace h := h.2) | refine ⟨h, ?_⟩
theorem Dot_ok {a b c d : Int} {e f g h : Bool} (ha : Num' a) (hb : Num' b) (hc : Num' c) (hd : Num' d) :
    P_bw a e b f c g d h /\ F_bw_0 a e b f c g d h = satN (tq (a * b + c * d)) /\ F_bw_1 a e b f c g d h = (e || f || g || h || satB (tq (a * b + c * d))) := by
  unfold F_bw_0 F_bw_1 P_bw
  simp only [E_bw_0, E_bw_1, E_bw_2, E_bw_3, E_bw_4, E_bw_5, E_bw_6, E_bw_7, E_bw_8, E_bw_9, E_bw_10, E_bw_11, E_bw_12, E_bw_13, E_bw_14, E_bw_15]
  simp only [whole_eq, whole_id ha, whole_id hb, whole_id hc, whole_id hd, wholeF_id ha, wholeF_id hb, wholeF_id hc, wholeF_id hd]
  obtain ⟨h1, h2, h3⟩ := times_ok ha hb
  obtain ⟨g1, g2, g3⟩ := times_ok hc hd
  obtain ⟨p1, p2⟩ := plus_ok h1 g1 (by omega) (by omega)
  have hdn := VW_down p1
  have hd2 := down_ok (neg := F_d6_0 (F_be_0 a b) (F_be_1 a b) (F_be_2 a b) (F_be_0 c d) (F_be_1 c d) (F_be_2 c d)) p1.uh p1.ul
  rw [p2, h2, g2] at hdn
  refine ⟨P_plus_ok h1.uh h1.ul g1.uh g1.ul, ?_⟩
  have hf := fun x => fit_ok (neg := F_el_0 (F_d6_0 (F_be_0 a b) (F_be_1 a b) (F_be_2 a b) (F_be_0 c d) (F_be_1 c d) (F_be_2 c d)) (F_d6_1 (F_be_0 a b) (F_be_1 a b) (F_be_2 a b) (F_be_0 c d) (F_be_1 c d) (F_be_2 c d)) (F_d6_2 (F_be_0 a b) (F_be_1 a b) (F_be_2 a b) (F_be_0 c d) (F_be_1 c d) (F_be_2 c d))) hd2.1 hd2.2.1 x
  simp only [hdn] at hf
  cases e <;> cases f <;> cases g <;> cases h <;> simp [hf]
def B_fg (cm : Int) (ga : Bool) (K0 : Int -> Bool -> Prop)  : Prop := Ts 3 (((P_aq cm ga) /\ Ts 7 (cond (ilt (F_aq_0 cm ga) 0) (Ts 8 (K0 (ineg .i64 (F_aq_0 cm ga)) (F_aq_1 cm ga))) (Ts 5 (K0 (F_aq_0 cm ga) (F_aq_1 cm ga))))))
def P_fg (cm : Int) (ga : Bool) : Prop := True
def F_fg_0 (cm : Int) (ga : Bool) : Int := (cond (ilt (F_aq_0 cm ga) 0) (ineg .i64 (F_aq_0 cm ga)) (F_aq_0 cm ga))
def F_fg_1 (cm : Int) (ga : Bool) : Bool := (F_aq_1 cm ga)
theorem H_fg (cm : Int) (ga : Bool) {K0 : Int -> Bool -> Prop} (h : P_fg cm ga) (hK : K0 (F_fg_0 cm ga) (F_fg_1 cm ga)) : B_fg cm ga K0  := by
 unfold B_fg P_fg F_fg_0 F_fg_1 at *
 simp only [Ts_iff, true_and]
 repeat' first | exact hK | (refine cond_intro (fun c => ?_) (fun c => ?_) <;> try simp only [c, cond_true, cond_false] at h hK ⊢) | refine ⟨rfl, ?_⟩ | refine ⟨trivial, ?_⟩ | refine ⟨by decide, ?_⟩ | (refine ⟨h.1, ?_⟩; replace h := h.2) | refine ⟨h, ?_⟩
theorem Abs_ok {v : Int} {f : Bool} (hv : Num' v) : F_fg_0 v f = max v (-v) /\ F_fg_1 v f = f := by
  unfold F_fg_0 F_fg_1
  rw [whole_eq, whole_id hv, wholeF_id hv, ineg64 hv.1 hv.2]
  refine ⟨?_, rfl⟩
  obtain ⟨h1, h2⟩ := hv
  by_cases h : v < 0
  · rw [ilt_t.2 h, cond_true]; omega
  · rw [ilt_f.2 (by omega), cond_false]; omega
def B_fp (a0 : Int) (K0 : Int -> Bool -> Prop)  : Prop := Ts 2 (((P_ai a0) /\ ((P_dr (F_ai_0 a0) (F_ai_1 a0) (F_ai_2 a0)) /\ ((P_d7 (F_dr_0 (F_ai_0 a0) (F_ai_1 a0) (F_ai_2 a0)) (F_dr_1 (F_ai_0 a0) (F_ai_1 a0) (F_ai_2 a0)) (F_dr_2 (F_ai_0 a0) (F_ai_1 a0) (F_ai_2 a0)) false) /\ Ts 2 (K0 (F_d7_0 (F_dr_0 (F_ai_0 a0) (F_ai_1 a0) (F_ai_2 a0)) (F_dr_1 (F_ai_0 a0) (F_ai_1 a0) (F_ai_2 a0)) (F_dr_2 (F_ai_0 a0) (F_ai_1 a0) (F_ai_2 a0)) false) (F_d7_1 (F_dr_0 (F_ai_0 a0) (F_ai_1 a0) (F_ai_2 a0)) (F_dr_1 (F_ai_0 a0) (F_ai_1 a0) (F_ai_2 a0)) (F_dr_2 (F_ai_0 a0) (F_ai_1 a0) (F_ai_2 a0)) false))))))
def P_fp (a0 : Int) : Prop := True
def F_fp_0 (a0 : Int) : Int := (F_d7_0 (F_dr_0 (F_ai_0 a0) (F_ai_1 a0) (F_ai_2 a0)) (F_dr_1 (F_ai_0 a0) (F_ai_1 a0) (F_ai_2 a0)) (F_dr_2 (F_ai_0 a0) (F_ai_1 a0) (F_ai_2 a0)) false)
def F_fp_1 (a0 : Int) : Bool := (F_d7_1 (F_dr_0 (F_ai_0 a0) (F_ai_1 a0) (F_ai_2 a0)) (F_dr_1 (F_ai_0 a0) (F_ai_1 a0) (F_ai_2 a0)) (F_dr_2 (F_ai_0 a0) (F_ai_1 a0) (F_ai_2 a0)) false)
theorem H_fp (a0 : Int) {K0 : Int -> Bool -> Prop} (h : P_fp a0) (hK : K0 (F_fp_0 a0) (F_fp_1 a0)) : B_fp a0 K0  := by
 unfold B_fp P_fp F_fp_0 F_fp_1 at *
 simp only [Ts_iff, true_and]
 repeat' first | exact hK | refine ⟨rfl, ?_⟩ | refine ⟨trivial, ?_⟩ | refine ⟨by decide, ?_⟩ | (refine ⟨h.1, ?_⟩; replace h := h.2) | refine ⟨h, ?_⟩
theorem Int_ok {v : Int} (hv : Num' v) : F_fp_0 v = satN (v * 4294967296) /\ F_fp_1 v = satB (v * 4294967296) := by
  unfold F_fp_0 F_fp_1
  obtain ⟨h1, h2⟩ := exact_ok hv
  have hu := VW_up h1 (by unfold F_ai_1; omega)
  have hu2 := up_ok (neg := F_ai_0 v) (hi := F_ai_1 v) ⟨h1.uh.1, by unfold F_ai_1; omega⟩ h1.ul
  have hf := fit_ok (neg := F_dr_0 (F_ai_0 v) (F_ai_1 v) (F_ai_2 v)) hu2.1 hu2.2.1 false
  rw [hu, h2] at hf
  rw [hf.1, hf.2, Bool.false_or]
  exact ⟨rfl, rfl⟩
def B_fe (a0 : Int) (K0 : Int -> Bool -> Prop)  : Prop := Ts 3 (cond (igt a0 0) (Ts 3 (K0 9223372036854775807 true)) (Ts 2 (cond (ilt a0 0) (Ts 3 (K0 (-9223372036854775807) true)) (Ts 3 (K0 0 true)))))
def P_fe (a0 : Int) : Prop := True
def F_fe_0 (a0 : Int) : Int := (cond (igt a0 0) 9223372036854775807 (cond (ilt a0 0) (-9223372036854775807) 0))
def F_fe_1 (a0 : Int) : Bool := true
theorem H_fe (a0 : Int) {K0 : Int -> Bool -> Prop} (h : P_fe a0) (hK : K0 (F_fe_0 a0) (F_fe_1 a0)) : B_fe a0 K0  := by
 unfold B_fe P_fe F_fe_0 F_fe_1 at *
 simp only [Ts_iff, true_and]
 repeat' first | exact hK | (refine cond_intro (fun c => ?_) (fun c => ?_) <;> try simp only [c, cond_true, cond_false] at h hK ⊢)
def B_b6 (a0 a1 : Int) (K0 : Int -> Bool -> Prop)  : Prop := Ts 3 (cond (ieq a1 0) (Ts 1 (((P_fe a0) /\ Ts 2 (K0 (F_fe_0 a0) (F_fe_1 a0))))) (Ts 1 (((P_ai a0) /\ ((P_dr (F_ai_0 a0) (F_ai_1 a0) (F_ai_2 a0)) /\ Ts 1 (((P_dn a1) /\ ((P_b9 (F_dr_0 (F_ai_0 a0) (F_ai_1 a0) (F_ai_2 a0)) (F_dr_1 (F_ai_0 a0) (F_ai_1 a0) (F_ai_2 a0)) (F_dr_2 (F_ai_0 a0) (F_ai_1 a0) (F_ai_2 a0)) (F_dn_0 a1)) /\ Ts 10 (((P_d7 (!(beqB (ilt a0 0) (ilt a1 0))) (F_b9_1 (F_dr_0 (F_ai_0 a0) (F_ai_1 a0) (F_ai_2 a0)) (F_dr_1 (F_ai_0 a0) (F_ai_1 a0) (F_ai_2 a0)) (F_dr_2 (F_ai_0 a0) (F_ai_1 a0) (F_ai_2 a0)) (F_dn_0 a1)) (F_b9_2 (F_dr_0 (F_ai_0 a0) (F_ai_1 a0) (F_ai_2 a0)) (F_dr_1 (F_ai_0 a0) (F_ai_1 a0) (F_ai_2 a0)) (F_dr_2 (F_ai_0 a0) (F_ai_1 a0) (F_ai_2 a0)) (F_dn_0 a1)) false) /\ Ts 2 (K0 (F_d7_0 (!(beqB (ilt a0 0) (ilt a1 0))) (F_b9_1 (F_dr_0 (F_ai_0 a0) (F_ai_1 a0) (F_ai_2 a0)) (F_dr_1 (F_ai_0 a0) (F_ai_1 a0) (F_ai_2 a0)) (F_dr_2 (F_ai_0 a0) (F_ai_1 a0) (F_ai_2 a0)) (F_dn_0 a1)) (F_b9_2 (F_dr_0 (F_ai_0 a0) (F_ai_1 a0) (F_ai_2 a0)) (F_dr_1 (F_ai_0 a0) (F_ai_1 a0) (F_ai_2 a0)) (F_dr_2 (F_ai_0 a0) (F_ai_1 a0) (F_ai_2 a0)) (F_dn_0 a1)) false) (F_d7_1 (!(beqB (ilt a0 0) (ilt a1 0))) (F_b9_1 (F_dr_0 (F_ai_0 a0) (F_ai_1 a0) (F_ai_2 a0)) (F_dr_1 (F_ai_0 a0) (F_ai_1 a0) (F_ai_2 a0)) (F_dr_2 (F_ai_0 a0) (F_ai_1 a0) (F_ai_2 a0)) (F_dn_0 a1)) (F_b9_2 (F_dr_0 (F_ai_0 a0) (F_ai_1 a0) (F_ai_2 a0)) (F_dr_1 (F_ai_0 a0) (F_ai_1 a0) (F_ai_2 a0)) (F_dr_2 (F_ai_0 a0) (F_ai_1 a0) (F_ai_2 a0)) (F_dn_0 a1)) false))))))))))))
def P_b6 (a0 a1 : Int) : Prop := (cond (ieq a1 0) True (P_b9 (F_dr_0 (F_ai_0 a0) (F_ai_1 a0) (F_ai_2 a0)) (F_dr_1 (F_ai_0 a0) (F_ai_1 a0) (F_ai_2 a0)) (F_dr_2 (F_ai_0 a0) (F_ai_1 a0) (F_ai_2 a0)) (F_dn_0 a1)))
def F_b6_0 (a0 a1 : Int) : Int := (cond (ieq a1 0) (F_fe_0 a0) (F_d7_0 (!(beqB (ilt a0 0) (ilt a1 0))) (F_b9_1 (F_dr_0 (F_ai_0 a0) (F_ai_1 a0) (F_ai_2 a0)) (F_dr_1 (F_ai_0 a0) (F_ai_1 a0) (F_ai_2 a0)) (F_dr_2 (F_ai_0 a0) (F_ai_1 a0) (F_ai_2 a0)) (F_dn_0 a1)) (F_b9_2 (F_dr_0 (F_ai_0 a0) (F_ai_1 a0) (F_ai_2 a0)) (F_dr_1 (F_ai_0 a0) (F_ai_1 a0) (F_ai_2 a0)) (F_dr_2 (F_ai_0 a0) (F_ai_1 a0) (F_ai_2 a0)) (F_dn_0 a1)) false))
def F_b6_1 (a0 a1 : Int) : Bool := (cond (ieq a1 0) (F_fe_1 a0) (F_d7_1 (!(beqB (ilt a0 0) (ilt a1 0))) (F_b9_1 (F_dr_0 (F_ai_0 a0) (F_ai_1 a0) (F_ai_2 a0)) (F_dr_1 (F_ai_0 a0) (F_ai_1 a0) (F_ai_2 a0)) (F_dr_2 (F_ai_0 a0) (F_ai_1 a0) (F_ai_2 a0)) (F_dn_0 a1)) (F_b9_2 (F_dr_0 (F_ai_0 a0) (F_ai_1 a0) (F_ai_2 a0)) (F_dr_1 (F_ai_0 a0) (F_ai_1 a0) (F_ai_2 a0)) (F_dr_2 (F_ai_0 a0) (F_ai_1 a0) (F_ai_2 a0)) (F_dn_0 a1)) false))
theorem H_b6 (a0 a1 : Int) {K0 : Int -> Bool -> Prop} (h : P_b6 a0 a1) (hK : K0 (F_b6_0 a0 a1) (F_b6_1 a0 a1)) : B_b6 a0 a1 K0  := by
 unfold B_b6 P_b6 F_b6_0 F_b6_1 at *
 simp only [Ts_iff, true_and]; try simp only [Ts_iff, true_and] at h
 repeat' first | exact hK | (refine cond_intro (fun c => ?_) (fun c => ?_) <;> try simp only [c, cond_true, cond_false] at h hK ⊢) | refine ⟨rfl, ?_⟩ | refine ⟨trivial, ?_⟩ | refine ⟨by decide, ?_⟩ | (refine ⟨h.1, ?_⟩; replace h := h.2) | refine ⟨h, ?_⟩
def dq (a b : Int) : Int := sg (!(beqB (ilt a 0) (ilt b 0))) (max a (-a) * 4294967296 / max b (-b))
theorem Ratio_ok {a b : Int} (ha : Num' a) (hb : Num' b) (h0 : b ≠ 0) : P_b6 a b /\ F_b6_0 a b = satN (dq a b) /\ F_b6_1 a b = satB (dq a b) := by
  unfold P_b6 F_b6_0 F_b6_1
  rw [ieq_f.2 h0]
  simp only [cond_false]
  obtain ⟨h1, h2⟩ := exact_ok ha
  have e1 : F_ai_1 a = 0 := rfl
  have e2 : F_ai_2 a = max a (-a) := size_eq ha
  obtain ⟨u1, u2, u3⟩ := up_ok (neg := F_ai_0 a) (hi := F_ai_1 a) (lo := F_ai_2 a) ⟨by rw [e1]; omega, by rw [e1]; omega⟩ h1.ul
  have hs := size_eq hb
  have hd : 1 <= F_dn_0 b /\ F_dn_0 b <= 9223372036854775808 := by rw [hs]; obtain ⟨_, _⟩ := hb; omega
  rw [e1, e2] at u3
  have hN : (0 : Int) <= (F_dr_1 (F_ai_0 a) (F_ai_1 a) (F_ai_2 a) * 18446744073709551616 + F_dr_2 (F_ai_0 a) (F_ai_1 a) (F_ai_2 a)) := by obtain ⟨_, _⟩ := u1; obtain ⟨_, _⟩ := u2; omega
  have hQ := Int.ediv_le_self (F_dn_0 b) hN
  have hQ0 := Int.ediv_nonneg hN (show 0 <= F_dn_0 b by omega)
  have w1 : U64 (F_b9_1 (F_dr_0 (F_ai_0 a) (F_ai_1 a) (F_ai_2 a)) (F_dr_1 (F_ai_0 a) (F_ai_1 a) (F_ai_2 a)) (F_dr_2 (F_ai_0 a) (F_ai_1 a) (F_ai_2 a)) (F_dn_0 b)) := by
    unfold F_b9_1
    obtain ⟨_, _⟩ := u1; obtain ⟨_, _⟩ := u2
    exact ⟨by omega, by omega⟩
  have w2 : U64 (F_b9_2 (F_dr_0 (F_ai_0 a) (F_ai_1 a) (F_ai_2 a)) (F_dr_1 (F_ai_0 a) (F_ai_1 a) (F_ai_2 a)) (F_dr_2 (F_ai_0 a) (F_ai_1 a) (F_ai_2 a)) (F_dn_0 b)) := by
    unfold F_b9_2
    exact ⟨by omega, by omega⟩
  obtain ⟨f1, f2⟩ := fit_ok (neg := !(beqB (ilt a 0) (ilt b 0))) w1 w2 false
  have hv : ∀ neg, VW neg (F_b9_1 (F_dr_0 (F_ai_0 a) (F_ai_1 a) (F_ai_2 a)) (F_dr_1 (F_ai_0 a) (F_ai_1 a) (F_ai_2 a)) (F_dr_2 (F_ai_0 a) (F_ai_1 a) (F_ai_2 a)) (F_dn_0 b)) (F_b9_2 (F_dr_0 (F_ai_0 a) (F_ai_1 a) (F_ai_2 a)) (F_dr_1 (F_ai_0 a) (F_ai_1 a) (F_ai_2 a)) (F_dr_2 (F_ai_0 a) (F_ai_1 a) (F_ai_2 a)) (F_dn_0 b)) = sg neg (max a (-a) * 4294967296 / max b (-b)) := fun neg => by
    unfold VW F_b9_1 F_b9_2
    congr 1
    rw [← hs, show max a (-a) * 4294967296 = (F_dr_1 (F_ai_0 a) (F_ai_1 a) (F_ai_2 a) * 18446744073709551616 + F_dr_2 (F_ai_0 a) (F_ai_1 a) (F_ai_2 a)) by rw [e1, e2]; omega]
    generalize (F_dr_1 (F_ai_0 a) (F_ai_1 a) (F_ai_2 a) * 18446744073709551616 + F_dr_2 (F_ai_0 a) (F_ai_1 a) (F_ai_2 a)) / F_dn_0 b = q
    omega
  rw [hv] at f1 f2
  refine ⟨⟨u1, u2, hd.1, hd.2⟩, f1, ?_⟩
  rw [f2, Bool.false_or]
  rfl
def B_dp (cm : Int) (ga : Bool) (gb : Int) (gd : Bool) (K0 : Int -> Bool -> Prop)  : Prop := Ts 4 (((P_aq cm ga) /\ Ts 6 (((P_aq gb gd) /\ Ts 7 (cond (ieq (F_aq_0 gb gd) 0) (Ts 1 (((P_fe (F_aq_0 cm ga)) /\ Ts 2 (K0 (F_fe_0 (F_aq_0 cm ga)) (F_fe_1 (F_aq_0 cm ga)))))) (Ts 2 (((P_b6 (F_aq_0 cm ga) (F_aq_0 gb gd)) /\ Ts 7 (cond (F_b6_1 (F_aq_0 cm ga) (F_aq_0 gb gd)) (Ts 6 (K0 (F_b6_0 (F_aq_0 cm ga) (F_aq_0 gb gd)) true)) (Ts 3 (cond (F_aq_1 cm ga) (Ts 4 (K0 (F_b6_0 (F_aq_0 cm ga) (F_aq_0 gb gd)) true)) (Ts 5 (K0 (F_b6_0 (F_aq_0 cm ga) (F_aq_0 gb gd)) (F_aq_1 gb gd))))))))))))))
def P_dp (cm : Int) (ga : Bool) (gb : Int) (gd : Bool) : Prop := (cond (ieq (F_aq_0 gb gd) 0) True (P_b6 (F_aq_0 cm ga) (F_aq_0 gb gd)))
def F_dp_0 (cm : Int) (ga : Bool) (gb : Int) (gd : Bool) : Int := (cond (ieq (F_aq_0 gb gd) 0) (F_fe_0 (F_aq_0 cm ga)) (F_b6_0 (F_aq_0 cm ga) (F_aq_0 gb gd)))
def F_dp_1 (cm : Int) (ga : Bool) (gb : Int) (gd : Bool) : Bool := (cond (ieq (F_aq_0 gb gd) 0) (F_fe_1 (F_aq_0 cm ga)) (cond (F_b6_1 (F_aq_0 cm ga) (F_aq_0 gb gd)) true (cond (F_aq_1 cm ga) true (F_aq_1 gb gd))))
theorem H_dp (cm : Int) (ga : Bool) (gb : Int) (gd : Bool) {K0 : Int -> Bool -> Prop} (h : P_dp cm ga gb gd) (hK : K0 (F_dp_0 cm ga gb gd) (F_dp_1 cm ga gb gd)) : B_dp cm ga gb gd K0  := by
 unfold B_dp P_dp F_dp_0 F_dp_1 at *
 simp only [Ts_iff, true_and]; try simp only [Ts_iff, true_and] at h
 repeat' first | exact hK | (refine cond_intro (fun c => ?_) (fun c => ?_) <;> try simp only [c, cond_true, cond_false] at h hK ⊢) | refine ⟨rfl, ?_⟩ | refine ⟨trivial, ?_⟩ | refine ⟨by decide, ?_⟩ | (refine ⟨h.1, ?_⟩; replace h := h.2) | refine ⟨h, ?_⟩
theorem Div_ok {v w : Int} {f g : Bool} (hv : Num' v) (hw : Num' w) (h0 : w ≠ 0) : P_dp v f w g /\ F_dp_0 v f w g = satN (dq v w) /\ F_dp_1 v f w g = (satB (dq v w) || f || g) := by
  obtain ⟨h1, h2, h3⟩ := Ratio_ok hv hw h0
  unfold P_dp F_dp_0 F_dp_1
  simp only [whole_eq, whole_id hv, whole_id hw, wholeF_id hv, wholeF_id hw, ieq_f.2 h0, cond_false, h2, h3]
  refine ⟨h1, trivial, ?_⟩
  cases satB (dq v w) <;> cases f <;> cases g <;> rfl
def B_bd_0 (gp : Nat) (cm : Nat -> Int) (ga : Nat -> Bool) (gz : Int) (c x0 : Int -> Prop) (x1 : Bool -> Int -> Prop)  : Prop := Ts 4 (cond (ilt gz ((gp : Nat) : Int)) (Ts 2 (((0 <= gz /\ gz < ((gp : Nat) : Int)) /\ Ts 1 (((P_aq (cm (Int.toNat gz)) (ga (Int.toNat gz))) /\ Ts 6 (cond (F_aq_1 (cm (Int.toNat gz)) (ga (Int.toNat gz))) (Ts 1 (x1 true gz)) (Ts 3 (c (iadd .i64 gz 1))))))))) (x0 gz))
def W_bd_0 (gp : Nat) (cm : Nat -> Int) (ga : Nat -> Bool) : Nat -> Int -> (Int -> Prop) -> (Bool -> Int -> Prop) -> Prop
  | 0, _, _, _ => False
  | f + 1, w0, x0, x1 => B_bd_0 gp cm ga w0 (fun u0 => W_bd_0 gp cm ga f u0 x0 x1) x0 x1 
theorem BM_bd_0 (gp : Nat) (cm : Nat -> Int) (ga : Nat -> Bool) (gz : Int) {c c' : Int -> Prop} {x0 y0 : Int -> Prop} {x1 y1 : Bool -> Int -> Prop} (hc : ∀ w0, c w0 -> c' w0) (h0 : ∀ o0, x0 o0 -> y0 o0) (h1 : ∀ o0 o1, x1 o0 o1 -> y1 o0 o1) : B_bd_0 gp cm ga gz c x0 x1  -> B_bd_0 gp cm ga gz c' y0 y1  := by
  unfold B_bd_0
  repeat' first
    | exact hc _
    | exact h0 _
    | exact h1 _ _
    | refine Ts_imp ?_
    | refine cond_imp ?_ ?_
    | refine and_imp' ?_
theorem WM_bd_0 (gp : Nat) (cm : Nat -> Int) (ga : Nat -> Bool) {x0 y0 : Int -> Prop} {x1 y1 : Bool -> Int -> Prop} (h0 : ∀ o0, x0 o0 -> y0 o0) (h1 : ∀ o0 o1, x1 o0 o1 -> y1 o0 o1) : ∀ (f : Nat) (gz : Int), W_bd_0 gp cm ga f gz x0 x1 -> W_bd_0 gp cm ga f gz y0 y1
  | 0, w0 => fun h => h
  | f + 1, w0 => BM_bd_0 gp cm ga w0 (fun u0 => WM_bd_0 gp cm ga h0 h1 f u0) h0 h1
def B_bd (gp : Nat) (cm : Nat -> Int) (ga : Nat -> Bool) (K0 : Bool -> Prop) (l0 : Int -> (Int -> Prop) -> (Bool -> Int -> Prop) -> Prop) : Prop := Ts 2 ((l0 0 (fun kc => Ts 1 (K0 false)) (fun i9 kc => K0 i9)))
def anyN (p : Nat -> Bool) : Nat -> Bool
  | 0 => false
  | n + 1 => anyN p n || p n
theorem anyN_t {p : Nat -> Bool} : ∀ {n : Nat}, anyN p n = true ↔ ∃ k, k < n /\ p k = true
  | 0 => ⟨fun h => (by cases h), fun ⟨k, h, _⟩ => (by omega)⟩
  | n + 1 => by
    unfold anyN
    rw [Bool.or_eq_true, anyN_t]
    constructor
    · rintro (⟨k, h1, h2⟩ | h)
      · exact ⟨k, by omega, h2⟩
      · exact ⟨n, by omega, h⟩
    · rintro ⟨k, h1, h2⟩
      by_cases hk : k = n
      · subst hk; exact .inr h2
      · exact .inl ⟨k, by omega, h2⟩
def P_bd (n : Nat) (x : Nat -> Int) (y : Nat -> Bool) : Prop := n <= 1000000
def F_bd_0 (n : Nat) (x : Nat -> Int) (y : Nat -> Bool) : Bool := anyN (fun k => F_aq_1 (x k) (y k)) n
theorem W_bd_ok {n : Nat} {x : Nat -> Int} {y : Nat -> Bool} (hp : n <= 1000000) {x0 : Int -> Prop} {x1 : Bool -> Int -> Prop} : ∀ (f i : Nat), i <= n -> n < f + i -> ((∀ k, i <= k -> k < n -> F_aq_1 (x k) (y k) = false) -> ∀ v, x0 v) -> (∀ k, k < n -> F_aq_1 (x k) (y k) = true -> ∀ v, x1 true v) -> W_bd_0 n x y f i x0 x1
  | 0, i, h1, h2, _, _ => by omega
  | f + 1, i, h1, h2, h3, h4 => by
    show B_bd_0 n x y i _ _ _
    unfold B_bd_0
    simp only [Ts_iff, true_and, Int.toNat_natCast, Nat.zero_add]
    refine cond_intro (fun hc => ?_) (fun hc => ?_)
    · rw [ilt_t] at hc
      have hi : i < n := by omega
      refine ⟨⟨by omega, hc⟩, trivial, ?_⟩
      refine cond_intro (fun hc => ?_) (fun hc => ?_)
      · exact h4 i hi hc _
      · rw [iadd64 (by omega) (by omega)]
        refine W_bd_ok hp f (i + 1) (by omega) (by omega) (fun h => h3 fun k hk1 hk2 => ?_) h4
        by_cases hk : k = i
        · subst hk; exact hc
        · exact h k (by omega) hk2
    · rw [ilt_f] at hc
      exact h3 (fun k hk1 hk2 => by omega) _
theorem H_bd (gp : Nat) (cm : Nat -> Int) (ga : Nat -> Bool) {K0 : Bool -> Prop} (h : P_bd gp cm ga) (hK : K0 (F_bd_0 gp cm ga)) : B_bd gp cm ga K0 (W_bd_0 gp cm ga fuel) := by
  unfold B_bd
  simp only [Ts_iff, true_and]
  unfold P_bd at h
  refine W_bd_ok h fuel 0 (Nat.zero_le _) (by rw [fuel_eq]; omega) (fun h v => ?_) (fun k hk hs v => ?_)
  · have : F_bd_0 gp cm ga = false := by
      cases hf : F_bd_0 gp cm ga with
      | false => rfl
      | true => obtain ⟨k, h1, h2⟩ := anyN_t.1 hf; rw [h k (Nat.zero_le _) h1] at h2; cases h2
    rw [this] at hK
    exact hK
  · have : F_bd_0 gp cm ga = true := anyN_t.2 ⟨k, hk, hs⟩
    rw [this] at hK
    exact hK
def B_cj_0 (gp : Nat) (cm : Nat -> Int) (ga : Nat -> Bool) (ia : Int) (iv : Bool) (iw iy : Int) (c x0 : Int -> Bool -> Int -> Int -> Prop)  : Prop := Ts 4 (cond (ilt ia ((gp : Nat) : Int)) (Ts 2 (((0 <= ia /\ ia < ((gp : Nat) : Int)) /\ Ts 1 (((P_aq (cm (Int.toNat ia)) (ga (Int.toNat ia))) /\ Ts 7 (((P_ai (F_aq_0 (cm (Int.toNat ia)) (ga (Int.toNat ia)))) /\ ((P_d6 iv iw iy (F_ai_0 (F_aq_0 (cm (Int.toNat ia)) (ga (Int.toNat ia)))) (F_ai_1 (F_aq_0 (cm (Int.toNat ia)) (ga (Int.toNat ia)))) (F_ai_2 (F_aq_0 (cm (Int.toNat ia)) (ga (Int.toNat ia))))) /\ Ts 1 ((true = true /\ Ts 3 (c (iadd .i64 ia 1) (F_d6_0 iv iw iy (F_ai_0 (F_aq_0 (cm (Int.toNat ia)) (ga (Int.toNat ia)))) (F_ai_1 (F_aq_0 (cm (Int.toNat ia)) (ga (Int.toNat ia)))) (F_ai_2 (F_aq_0 (cm (Int.toNat ia)) (ga (Int.toNat ia))))) (F_d6_1 iv iw iy (F_ai_0 (F_aq_0 (cm (Int.toNat ia)) (ga (Int.toNat ia)))) (F_ai_1 (F_aq_0 (cm (Int.toNat ia)) (ga (Int.toNat ia)))) (F_ai_2 (F_aq_0 (cm (Int.toNat ia)) (ga (Int.toNat ia))))) (F_d6_2 iv iw iy (F_ai_0 (F_aq_0 (cm (Int.toNat ia)) (ga (Int.toNat ia)))) (F_ai_1 (F_aq_0 (cm (Int.toNat ia)) (ga (Int.toNat ia)))) (F_ai_2 (F_aq_0 (cm (Int.toNat ia)) (ga (Int.toNat ia)))))))))))))))) (x0 ia iv iw iy))
def W_cj_0 (gp : Nat) (cm : Nat -> Int) (ga : Nat -> Bool) : Nat -> Int -> Bool -> Int -> Int -> (Int -> Bool -> Int -> Int -> Prop) -> Prop
  | 0, _, _, _, _, _ => False
  | f + 1, w0, w1, w2, w3, x0 => B_cj_0 gp cm ga w0 w1 w2 w3 (fun u0 u1 u2 u3 => W_cj_0 gp cm ga f u0 u1 u2 u3 x0) x0 
theorem BM_cj_0 (gp : Nat) (cm : Nat -> Int) (ga : Nat -> Bool) (ia : Int) (iv : Bool) (iw iy : Int) {c c' : Int -> Bool -> Int -> Int -> Prop} {x0 y0 : Int -> Bool -> Int -> Int -> Prop} (hc : ∀ w0 w1 w2 w3, c w0 w1 w2 w3 -> c' w0 w1 w2 w3) (h0 : ∀ o0 o1 o2 o3, x0 o0 o1 o2 o3 -> y0 o0 o1 o2 o3) : B_cj_0 gp cm ga ia iv iw iy c x0  -> B_cj_0 gp cm ga ia iv iw iy c' y0  := by
  unfold B_cj_0
  repeat' first
    | exact hc _ _ _ _
    | exact h0 _ _ _ _
    | refine Ts_imp ?_
    | refine cond_imp ?_ ?_
    | refine and_imp' ?_
theorem WM_cj_0 (gp : Nat) (cm : Nat -> Int) (ga : Nat -> Bool) {x0 y0 : Int -> Bool -> Int -> Int -> Prop} (h0 : ∀ o0 o1 o2 o3, x0 o0 o1 o2 o3 -> y0 o0 o1 o2 o3) : ∀ (f : Nat) (ia : Int) (iv : Bool) (iw iy : Int), W_cj_0 gp cm ga f ia iv iw iy x0 -> W_cj_0 gp cm ga f ia iv iw iy y0
  | 0, w0, w1, w2, w3 => fun h => h
  | f + 1, w0, w1, w2, w3 => BM_cj_0 gp cm ga w0 w1 w2 w3 (fun u0 u1 u2 u3 => WM_cj_0 gp cm ga h0 f u0 u1 u2 u3) h0
def B_cj (gp : Nat) (cm : Nat -> Int) (ga : Nat -> Bool) (K0 : Int -> Bool -> Prop) (l0 : Int -> Bool -> Int -> Int -> (Int -> Bool -> Int -> Int -> Prop) -> Prop) : Prop := Ts 5 ((l0 0 false 0 0 (fun ke km kn ko => Ts 2 (((P_bd gp cm ga) /\ ((P_d7 km kn ko (F_bd_0 gp cm ga)) /\ Ts 1 ((true = true /\ Ts 1 (K0 (F_d7_0 km kn ko (F_bd_0 gp cm ga)) (F_d7_1 km kn ko (F_bd_0 gp cm ga)))))))))))
def sumN (x : Nat -> Int) : Nat -> Int
  | 0 => 0
  | n + 1 => sumN x n + whole (x n)
theorem sumN_le {x : Nat -> Int} {m : Nat} (hx : ∀ k, k < m -> I64' (x k)) : ∀ {n : Nat}, n <= m -> -(n * 9223372036854775807) <= sumN x n /\ sumN x n <= n * 9223372036854775807
  | 0, _ => by unfold sumN; omega
  | n + 1, h => by
    have h1 := sumN_le hx (n := n) (by omega)
    obtain ⟨h2, h3⟩ := whole_num (hx n (by omega))
    unfold sumN
    push_cast
    omega
def P_cj (n : Nat) (x : Nat -> Int) (y : Nat -> Bool) : Prop := n <= 1000000 /\ ∀ k, k < n -> I64' (x k)
def F_cj_0 (n : Nat) (x : Nat -> Int) (y : Nat -> Bool) : Int := satN (sumN x n)
def F_cj_1 (n : Nat) (x : Nat -> Int) (y : Nat -> Bool) : Bool := F_bd_0 n x y || satB (sumN x n)
theorem Wd.small {neg : Bool} {hi lo : Int} (h : Wd neg hi lo) {m : Int} (hm : 0 <= m) (hv : -(m * 18446744073709551616) <= VW neg hi lo /\ VW neg hi lo <= m * 18446744073709551616) : hi <= m := by
  obtain ⟨⟨a1, a2⟩, ⟨b1, b2⟩, c⟩ := h
  cases neg
  · rw [VW_f] at hv; omega
  · rw [VW_t] at hv; omega
theorem W_cj_ok {n : Nat} {x : Nat -> Int} {y : Nat -> Bool} (hp : P_cj n x y) {x0 : Int -> Bool -> Int -> Int -> Prop} (h3 : ∀ v neg hi lo, Wd neg hi lo -> VW neg hi lo = sumN x n -> x0 v neg hi lo) : ∀ (f i : Nat) (neg : Bool) (hi lo : Int), i <= n -> n < f + i -> Wd neg hi lo -> VW neg hi lo = sumN x i -> W_cj_0 n x y f i neg hi lo x0
  | 0, i, _, _, _, h1, h2, _, _ => by omega
  | f + 1, i, neg, hi, lo, h1, h2, hw, hv => by
    show B_cj_0 n x y i _ _ _ _ _
    unfold B_cj_0
    simp only [Ts_iff, true_and, Int.toNat_natCast, Nat.zero_add]
    refine cond_intro (fun hc => ?_) (fun hc => ?_)
    · rw [ilt_t] at hc
      have hin : i < n := by omega
      have hn := hp.1
      have hb := sumN_le hp.2 (n := i) (by omega)
      have hs : hi <= 1000000 := hw.small (by omega) (by rw [hv]; omega)
      obtain ⟨e1, e2⟩ := exact_ok (whole_num (hp.2 i hin))
      simp only [whole_eq]
      have es : F_ai_1 (whole (x i)) = 0 := rfl
      obtain ⟨p1, p2⟩ := plus_ok hw e1 (by omega) (by rw [es]; omega)
      refine ⟨⟨by omega, hc⟩, trivial, trivial, P_plus_ok hw.uh hw.ul e1.uh e1.ul, ?_⟩
      rw [iadd64 (by omega) (by omega)]
      exact W_cj_ok hp h3 f (i + 1) _ _ _ (by omega) (by omega) p1 (by rw [p2, hv, e2]; rfl)
    · rw [ilt_f] at hc
      have : i = n := by omega
      subst this
      exact h3 _ _ _ _ hw hv
theorem H_cj (gp : Nat) (cm : Nat -> Int) (ga : Nat -> Bool) {K0 : Int -> Bool -> Prop} (h : P_cj gp cm ga) (hK : K0 (F_cj_0 gp cm ga) (F_cj_1 gp cm ga)) : B_cj gp cm ga K0 (W_cj_0 gp cm ga fuel) := by
  unfold B_cj
  simp only [Ts_iff, true_and]
  refine W_cj_ok h (fun v neg hi lo hw hv => ?_) fuel 0 false 0 0 (Nat.zero_le _) (by rw [fuel_eq]; have := h.1; omega) ⟨⟨by omega, by omega⟩, ⟨by omega, by omega⟩, fun h => by cases h⟩ rfl
  obtain ⟨g1, g2⟩ := fit_ok (neg := neg) hw.uh hw.ul (F_bd_0 gp cm ga)
  rw [hv] at g1 g2
  refine ⟨h.1, trivial, ?_⟩
  rw [g1, g2]
  exact hK
def B_cv_0 (gp : Nat) (cm : Nat -> Int) (ga : Nat -> Bool) (gz ib : Int) (c x0 : Int -> Int -> Prop)  : Prop := Ts 4 (cond (ilt ib ((gp : Nat) : Int)) (Ts 2 (((0 <= ib /\ ib < ((gp : Nat) : Int)) /\ Ts 1 (((P_aq (cm (Int.toNat ib)) (ga (Int.toNat ib))) /\ Ts 8 (cond (igt (F_aq_0 (cm (Int.toNat ib)) (ga (Int.toNat ib))) gz) (Ts 5 (c (F_aq_0 (cm (Int.toNat ib)) (ga (Int.toNat ib))) (iadd .i64 ib 1))) (Ts 3 (c gz (iadd .i64 ib 1))))))))) (x0 gz ib))
def W_cv_0 (gp : Nat) (cm : Nat -> Int) (ga : Nat -> Bool) : Nat -> Int -> Int -> (Int -> Int -> Prop) -> Prop
  | 0, _, _, _ => False
  | f + 1, w0, w1, x0 => B_cv_0 gp cm ga w0 w1 (fun u0 u1 => W_cv_0 gp cm ga f u0 u1 x0) x0 
theorem BM_cv_0 (gp : Nat) (cm : Nat -> Int) (ga : Nat -> Bool) (gz ib : Int) {c c' : Int -> Int -> Prop} {x0 y0 : Int -> Int -> Prop} (hc : ∀ w0 w1, c w0 w1 -> c' w0 w1) (h0 : ∀ o0 o1, x0 o0 o1 -> y0 o0 o1) : B_cv_0 gp cm ga gz ib c x0  -> B_cv_0 gp cm ga gz ib c' y0  := by
  unfold B_cv_0
  repeat' first
    | exact hc _ _
    | exact h0 _ _
    | refine Ts_imp ?_
    | refine cond_imp ?_ ?_
    | refine and_imp' ?_
theorem WM_cv_0 (gp : Nat) (cm : Nat -> Int) (ga : Nat -> Bool) {x0 y0 : Int -> Int -> Prop} (h0 : ∀ o0 o1, x0 o0 o1 -> y0 o0 o1) : ∀ (f : Nat) (gz ib : Int), W_cv_0 gp cm ga f gz ib x0 -> W_cv_0 gp cm ga f gz ib y0
  | 0, w0, w1 => fun h => h
  | f + 1, w0, w1 => BM_cv_0 gp cm ga w0 w1 (fun u0 u1 => WM_cv_0 gp cm ga h0 f u0 u1) h0
def B_cv (gp : Nat) (cm : Nat -> Int) (ga : Nat -> Bool) (K0 : Int -> Bool -> Prop) (l0 : Int -> Int -> (Int -> Int -> Prop) -> Prop) : Prop := Ts 4 (cond (ieq ((gp : Nat) : Int) 0) (Ts 3 (K0 0 false)) (Ts 1 (((0 <= (0 : Int) /\ (0 : Int) < ((gp : Nat) : Int)) /\ Ts 1 (((P_aq (cm 0) (ga 0)) /\ Ts 6 ((l0 (F_aq_0 (cm 0) (ga 0)) 1 (fun kc ku => Ts 2 (((P_bd gp cm ga) /\ Ts 3 (K0 kc (F_bd_0 gp cm ga)))))))))))))
def P_cv (n : Nat) (x : Nat -> Int) (y : Nat -> Bool) : Prop := n <= 1000000
def F_cv_0 (n : Nat) (x : Nat -> Int) (y : Nat -> Bool) : Int := maxF (fun k => whole (x k)) n
def F_cv_1 (n : Nat) (x : Nat -> Int) (y : Nat -> Bool) : Bool := F_bd_0 n x y
theorem W_cv_ok {n : Nat} {x : Nat -> Int} {y : Nat -> Bool} (hp : P_cv n x y) {x0 : Int -> Int -> Prop} (h3 : ∀ v, x0 (maxF (fun k => whole (x k)) n) v) : ∀ (f i : Nat), 0 < i -> i <= n -> n < f + i -> W_cv_0 n x y f (maxF (fun k => whole (x k)) i) i x0
  | 0, i, _, h1, h2 => by omega
  | f + 1, i, h0, h1, h2 => by
    show B_cv_0 n x y _ i _ _
    unfold B_cv_0
    simp only [Ts_iff, true_and, Int.toNat_natCast, Nat.zero_add]
    refine cond_intro (fun hc => ?_) (fun hc => ?_)
    · rw [ilt_t] at hc
      have hn : n <= 1000000 := hp
      have hr := W_cv_ok hp h3 f (i + 1) (by omega) (by omega) (by omega)
      rw [maxF_succ _ (by omega)] at hr
      simp only [whole_eq]
      rw [iadd64 (by omega) (by omega)]
      refine ⟨⟨by omega, hc⟩, trivial, ?_⟩
      refine cond_intro (fun hc => ?_) (fun hc => ?_)
      · rw [igt_t] at hc
        rw [show max (maxF (fun k => whole (x k)) i) (whole (x i)) = whole (x i) by omega] at hr
        exact hr
      · rw [igt_f] at hc
        rw [show max (maxF (fun k => whole (x k)) i) (whole (x i)) = maxF (fun k => whole (x k)) i by omega] at hr
        exact hr
    · rw [ilt_f] at hc
      have : i = n := by omega
      subst this
      exact h3 _
theorem H_cv (gp : Nat) (cm : Nat -> Int) (ga : Nat -> Bool) {K0 : Int -> Bool -> Prop} (h : P_cv gp cm ga) (hK : K0 (F_cv_0 gp cm ga) (F_cv_1 gp cm ga)) : B_cv gp cm ga K0 (W_cv_0 gp cm ga fuel) := by
  unfold B_cv
  simp only [Ts_iff, true_and]
  have hn : gp <= 1000000 := h
  refine cond_intro (fun hc => ?_) (fun hc => ?_)
  · rw [ieq_t] at hc
    have : gp = 0 := by omega
    subst this
    exact hK
  · rw [ieq_f] at hc
    refine ⟨⟨by omega, by omega⟩, trivial, ?_⟩
    rw [whole_eq]
    refine W_cv_ok h (fun v => ?_) fuel 1 (by omega) (by omega) (by rw [fuel_eq]; omega)
    exact ⟨h, hK⟩
def B_c7_0 (gp : Nat) (cm : Nat -> Int) (ga : Nat -> Bool) (gz ib : Int) (c x0 : Int -> Int -> Prop)  : Prop := Ts 4 (cond (ilt ib ((gp : Nat) : Int)) (Ts 2 (((0 <= ib /\ ib < ((gp : Nat) : Int)) /\ Ts 1 (((P_aq (cm (Int.toNat ib)) (ga (Int.toNat ib))) /\ Ts 8 (cond (ilt (F_aq_0 (cm (Int.toNat ib)) (ga (Int.toNat ib))) gz) (Ts 5 (c (F_aq_0 (cm (Int.toNat ib)) (ga (Int.toNat ib))) (iadd .i64 ib 1))) (Ts 3 (c gz (iadd .i64 ib 1))))))))) (x0 gz ib))
def W_c7_0 (gp : Nat) (cm : Nat -> Int) (ga : Nat -> Bool) : Nat -> Int -> Int -> (Int -> Int -> Prop) -> Prop
  | 0, _, _, _ => False
  | f + 1, w0, w1, x0 => B_c7_0 gp cm ga w0 w1 (fun u0 u1 => W_c7_0 gp cm ga f u0 u1 x0) x0 
theorem BM_c7_0 (gp : Nat) (cm : Nat -> Int) (ga : Nat -> Bool) (gz ib : Int) {c c' : Int -> Int -> Prop} {x0 y0 : Int -> Int -> Prop} (hc : ∀ w0 w1, c w0 w1 -> c' w0 w1) (h0 : ∀ o0 o1, x0 o0 o1 -> y0 o0 o1) : B_c7_0 gp cm ga gz ib c x0  -> B_c7_0 gp cm ga gz ib c' y0  := by
  unfold B_c7_0
  repeat' first
    | exact hc _ _
    | exact h0 _ _
    | refine Ts_imp ?_
    | refine cond_imp ?_ ?_
    | refine and_imp' ?_
theorem WM_c7_0 (gp : Nat) (cm : Nat -> Int) (ga : Nat -> Bool) {x0 y0 : Int -> Int -> Prop} (h0 : ∀ o0 o1, x0 o0 o1 -> y0 o0 o1) : ∀ (f : Nat) (gz ib : Int), W_c7_0 gp cm ga f gz ib x0 -> W_c7_0 gp cm ga f gz ib y0
  | 0, w0, w1 => fun h => h
  | f + 1, w0, w1 => BM_c7_0 gp cm ga w0 w1 (fun u0 u1 => WM_c7_0 gp cm ga h0 f u0 u1) h0
def B_c7 (gp : Nat) (cm : Nat -> Int) (ga : Nat -> Bool) (K0 : Int -> Bool -> Prop) (l0 : Int -> Int -> (Int -> Int -> Prop) -> Prop) : Prop := Ts 4 (cond (ieq ((gp : Nat) : Int) 0) (Ts 3 (K0 0 false)) (Ts 1 (((0 <= (0 : Int) /\ (0 : Int) < ((gp : Nat) : Int)) /\ Ts 1 (((P_aq (cm 0) (ga 0)) /\ Ts 6 ((l0 (F_aq_0 (cm 0) (ga 0)) 1 (fun kc ku => Ts 2 (((P_bd gp cm ga) /\ Ts 3 (K0 kc (F_bd_0 gp cm ga)))))))))))))
def P_c7 (n : Nat) (x : Nat -> Int) (y : Nat -> Bool) : Prop := n <= 1000000
def F_c7_0 (n : Nat) (x : Nat -> Int) (y : Nat -> Bool) : Int := minF (fun k => whole (x k)) n
def F_c7_1 (n : Nat) (x : Nat -> Int) (y : Nat -> Bool) : Bool := F_bd_0 n x y
theorem W_c7_ok {n : Nat} {x : Nat -> Int} {y : Nat -> Bool} (hp : P_c7 n x y) {x0 : Int -> Int -> Prop} (h3 : ∀ v, x0 (minF (fun k => whole (x k)) n) v) : ∀ (f i : Nat), 0 < i -> i <= n -> n < f + i -> W_c7_0 n x y f (minF (fun k => whole (x k)) i) i x0
  | 0, i, _, h1, h2 => by omega
  | f + 1, i, h0, h1, h2 => by
    show B_c7_0 n x y _ i _ _
    unfold B_c7_0
    simp only [Ts_iff, true_and, Int.toNat_natCast, Nat.zero_add]
    refine cond_intro (fun hc => ?_) (fun hc => ?_)
    · rw [ilt_t] at hc
      have hn : n <= 1000000 := hp
      have hr := W_c7_ok hp h3 f (i + 1) (by omega) (by omega) (by omega)
      rw [minF_succ _ (by omega)] at hr
      simp only [whole_eq]
      rw [iadd64 (by omega) (by omega)]
      refine ⟨⟨by omega, hc⟩, trivial, ?_⟩
      refine cond_intro (fun hc => ?_) (fun hc => ?_)
      · rw [ilt_t] at hc
        rw [show min (minF (fun k => whole (x k)) i) (whole (x i)) = whole (x i) by omega] at hr
        exact hr
      · rw [ilt_f] at hc
        rw [show min (minF (fun k => whole (x k)) i) (whole (x i)) = minF (fun k => whole (x k)) i by omega] at hr
        exact hr
    · rw [ilt_f] at hc
      have : i = n := by omega
      subst this
      exact h3 _
theorem H_c7 (gp : Nat) (cm : Nat -> Int) (ga : Nat -> Bool) {K0 : Int -> Bool -> Prop} (h : P_c7 gp cm ga) (hK : K0 (F_c7_0 gp cm ga) (F_c7_1 gp cm ga)) : B_c7 gp cm ga K0 (W_c7_0 gp cm ga fuel) := by
  unfold B_c7
  simp only [Ts_iff, true_and]
  have hn : gp <= 1000000 := h
  refine cond_intro (fun hc => ?_) (fun hc => ?_)
  · rw [ieq_t] at hc
    have : gp = 0 := by omega
    subst this
    exact hK
  · rw [ieq_f] at hc
    refine ⟨⟨by omega, by omega⟩, trivial, ?_⟩
    rw [whole_eq]
    refine W_c7_ok h (fun v => ?_) fuel 1 (by omega) (by omega) (by rw [fuel_eq]; omega)
    exact ⟨h, hK⟩
def B_fh (cm : Int) (ga : Bool) (gb : Int) (gd : Bool) (K0 : Int -> Bool -> Prop)  : Prop := Ts 5 (((P_ep gb gd) /\ Ts 1 (((P_cj 2 (pushF 1 (fun _ => cm) (F_ep_0 gb gd)) (pushF 1 (fun _ => ga) (F_ep_1 gb gd))) /\ Ts 1 ((true = true /\ Ts 1 (K0 (F_cj_0 2 (pushF 1 (fun _ => cm) (F_ep_0 gb gd)) (pushF 1 (fun _ => ga) (F_ep_1 gb gd))) (F_cj_1 2 (pushF 1 (fun _ => cm) (F_ep_0 gb gd)) (pushF 1 (fun _ => ga) (F_ep_1 gb gd))))))))))
def P_fh (cm : Int) (ga : Bool) (gb : Int) (gd : Bool) : Prop := (P_cj 2 (pushF 1 (fun _ => cm) (F_ep_0 gb gd)) (pushF 1 (fun _ => ga) (F_ep_1 gb gd)))
def F_fh_0 (cm : Int) (ga : Bool) (gb : Int) (gd : Bool) : Int := (F_cj_0 2 (pushF 1 (fun _ => cm) (F_ep_0 gb gd)) (pushF 1 (fun _ => ga) (F_ep_1 gb gd)))
def F_fh_1 (cm : Int) (ga : Bool) (gb : Int) (gd : Bool) : Bool := (F_cj_1 2 (pushF 1 (fun _ => cm) (F_ep_0 gb gd)) (pushF 1 (fun _ => ga) (F_ep_1 gb gd)))
theorem H_fh (cm : Int) (ga : Bool) (gb : Int) (gd : Bool) {K0 : Int -> Bool -> Prop} (h : P_fh cm ga gb gd) (hK : K0 (F_fh_0 cm ga gb gd) (F_fh_1 cm ga gb gd)) : B_fh cm ga gb gd K0  := by
 unfold B_fh P_fh F_fh_0 F_fh_1 at *
 simp only [Ts_iff, true_and]; try simp only [Ts_iff, true_and] at h
 repeat' first | exact hK | refine ⟨rfl, ?_⟩ | refine ⟨trivial, ?_⟩ | refine ⟨by decide, ?_⟩ | (refine ⟨h.1, ?_⟩; replace h := h.2) | refine ⟨h, ?_⟩
def B_ca_0 (cm : Bool) (ga gm gz ia : Int) (c x0 : Int -> Int -> Prop)  : Prop := Ts 2 (cond (ige ia 0) (Ts 3 (((0 <= (iconv .u64 ia)) /\ Ts 4 (((P_dy (ior .u64 gz (ishl .u64 1 (iconv .u64 ia))) (ior .u64 gz (ishl .u64 1 (iconv .u64 ia)))) /\ Ts 9 (((P_fc cm ga gm false (F_dy_0 (ior .u64 gz (ishl .u64 1 (iconv .u64 ia))) (ior .u64 gz (ishl .u64 1 (iconv .u64 ia)))) (F_dy_1 (ior .u64 gz (ishl .u64 1 (iconv .u64 ia))) (ior .u64 gz (ishl .u64 1 (iconv .u64 ia))))) /\ Ts 1 (cond (!(F_fc_0 cm ga gm false (F_dy_0 (ior .u64 gz (ishl .u64 1 (iconv .u64 ia))) (ior .u64 gz (ishl .u64 1 (iconv .u64 ia)))) (F_dy_1 (ior .u64 gz (ishl .u64 1 (iconv .u64 ia))) (ior .u64 gz (ishl .u64 1 (iconv .u64 ia)))))) (Ts 5 (c (ior .u64 gz (ishl .u64 1 (iconv .u64 ia))) (isub .i64 ia 1))) (Ts 3 (c gz (isub .i64 ia 1))))))))))) (x0 gz ia))
def W_ca_0 (cm : Bool) (ga gm : Int) : Nat -> Int -> Int -> (Int -> Int -> Prop) -> Prop
  | 0, _, _, _ => False
  | f + 1, w0, w1, x0 => B_ca_0 cm ga gm w0 w1 (fun u0 u1 => W_ca_0 cm ga gm f u0 u1 x0) x0 
theorem BM_ca_0 (cm : Bool) (ga gm gz ia : Int) {c c' : Int -> Int -> Prop} {x0 y0 : Int -> Int -> Prop} (hc : ∀ w0 w1, c w0 w1 -> c' w0 w1) (h0 : ∀ o0 o1, x0 o0 o1 -> y0 o0 o1) : B_ca_0 cm ga gm gz ia c x0  -> B_ca_0 cm ga gm gz ia c' y0  := by
  unfold B_ca_0
  repeat' first
    | exact hc _ _
    | exact h0 _ _
    | refine Ts_imp ?_
    | refine cond_imp ?_ ?_
    | refine and_imp' ?_
theorem WM_ca_0 (cm : Bool) (ga gm : Int) {x0 y0 : Int -> Int -> Prop} (h0 : ∀ o0 o1, x0 o0 o1 -> y0 o0 o1) : ∀ (f : Nat) (gz ia : Int), W_ca_0 cm ga gm f gz ia x0 -> W_ca_0 cm ga gm f gz ia y0
  | 0, w0, w1 => fun h => h
  | f + 1, w0, w1 => BM_ca_0 cm ga gm w0 w1 (fun u0 u1 => WM_ca_0 cm ga gm h0 f u0 u1) h0
def B_ca (cm : Bool) (ga gm : Int) (K0 : Bool -> Int -> Int -> Prop) (l0 : Int -> Int -> (Int -> Int -> Prop) -> Prop) : Prop := Ts 4 ((l0 0 63 (fun kc ke => Ts 4 (K0 false 0 kc))))
theorem less_ok (a : Bool) (ah al : Int) (b : Bool) (bh bl : Int) (h1 : U64 al) (h2 : U64 bl) : F_fc_0 a ah al b bh bl = true ↔ ah * 18446744073709551616 + al < bh * 18446744073709551616 + bl := by
  obtain ⟨_, _⟩ := h1
  obtain ⟨_, _⟩ := h2
  unfold F_fc_0
  by_cases h : ah < bh
  · rw [ilt_t.2 h]; simp only [cond_true, true_iff]; omega
  · rw [ilt_f.2 (by omega)]
    simp only [cond_false]
    by_cases g : ah = bh
    · rw [ieq_t.2 g]; simp only [cond_true]; rw [ilt_t]; omega
    · rw [ieq_f.2 g]; simp only [cond_false]; constructor
      · intro h; cases h
      · intro h; omega
def P_ca (neg : Bool) (hi lo : Int) : Prop := U64 hi /\ U64 lo
def F_ca_0 (neg : Bool) (hi lo : Int) : Bool := false
def F_ca_1 (neg : Bool) (hi lo : Int) : Int := 0
def F_ca_2 (neg : Bool) (hi lo : Int) : Int := rootZ (hi * 18446744073709551616 + lo)
theorem W_ca_ok {neg : Bool} {hi lo n s : Int} (hh : U64 hi) (hl : U64 lo) (hn : n = hi * 18446744073709551616 + lo) (hs : isR n s) {x0 : Int -> Int -> Prop} (hx : ∀ v, x0 s v) : ∀ (f j : Nat) (m : Int), j < f -> j <= 64 -> 0 <= m -> m * 2 ^ j + 2 ^ j <= 18446744073709551616 -> (m * 2 ^ j) * (m * 2 ^ j) <= n -> n < (m * 2 ^ j + 2 ^ j) * (m * 2 ^ j + 2 ^ j) ->
    W_ca_0 neg hi lo f (m * 2 ^ j) ((j : Int) - 1) x0
  | 0, j, m, h0, _, _, _, _, _ => by omega
  | f + 1, 0, m, h0, hj, h1, h2, h3, h4 => by
    show B_ca_0 neg hi lo _ _ _ _
    unfold B_ca_0
    simp only [Ts_iff]
    rw [show ige (((0 : Nat) : Int) - 1) 0 = false by rw [ige_f]; omega, cond_false]
    rw [Int.pow_zero, Int.mul_one] at *
    have : s = m := hs.unique ⟨h1, h3, h4⟩
    subst this
    exact hx _
  | f + 1, j + 1, m, h0, hj, h1, h2, h3, h4 => by
    show B_ca_0 neg hi lo _ _ _ _
    unfold B_ca_0
    simp only [Ts_iff]
    have ei : (((j + 1 : Nat) : Int) - 1) = (j : Int) := by omega
    have e2 : (2 : Int) ^ (j + 1) = 2 ^ j * 2 := Int.pow_succ 2 j
    have hp := pow_ge_one j
    have hm : m * 2 ^ (j + 1) = 2 * m * 2 ^ j := by rw [e2, Int.mul_comm 2 m, Int.mul_assoc, Int.mul_comm 2]
    have hm0 := Int.mul_nonneg h1 (show (0 : Int) <= 2 ^ (j + 1) by omega)
    have eC : (iconv .u64 (j : Int)) = (j : Int) := by rw [iconvU, Int.emod_eq_of_lt (by omega) (by omega)]
    have eS : ishl .u64 1 (j : Int) = 2 ^ j := by rw [ishlU 1 j (by omega), Int.one_mul, Int.emod_eq_of_lt (by omega) (by omega)]
    have eO : ior .u64 (m * 2 ^ (j + 1)) (2 ^ j) = m * 2 ^ (j + 1) + 2 ^ j := ior_disj (j + 1) (by omega) ⟨hm0, by omega⟩ h1 ⟨by omega, by omega⟩
    rw [ei, eC, eS, eO, ige_t.2 (show (0 : Int) <= (j : Int) by omega), cond_true, isub64 (by omega) (by omega)]
    have uc : U64 (m * 2 ^ (j + 1) + 2 ^ j) := ⟨by omega, by omega⟩
    have ec : m * 2 ^ (j + 1) + 2 ^ j = (2 * m + 1) * 2 ^ j := by rw [Int.add_mul, Int.one_mul, hm]
    refine ⟨by omega, trivial, trivial, ?_⟩
    have hle := less_ok neg hi lo false (F_dy_0 (m * 2 ^ (j + 1) + 2 ^ j) (m * 2 ^ (j + 1) + 2 ^ j)) (F_dy_1 (m * 2 ^ (j + 1) + 2 ^ j) (m * 2 ^ (j + 1) + 2 ^ j)) hl (by rw [Mul64_lo]; exact ⟨Int.emod_nonneg _ (by decide), Int.emod_lt_of_pos _ (by decide)⟩)
    rw [← hn] at hle
    conv at hle => rhs; rw [Mul64_hi uc uc, Mul64_lo]
    rw [show ∀ z : Int, z / 18446744073709551616 * 18446744073709551616 + z % 18446744073709551616 = z from fun z => by omega] at hle
    refine cond_intro (fun hc => ?_) (fun hc => ?_)
    · have hlt : ¬ n < (m * 2 ^ (j + 1) + 2 ^ j) * (m * 2 ^ (j + 1) + 2 ^ j) := fun h => by rw [hle.2 h] at hc; cases hc
      rw [ec] at hlt ⊢
      refine W_ca_ok hh hl hn hs hx f j (2 * m + 1) (by omega) (by omega) (by omega) ?_ (by omega) ?_
      · rw [← ec]; omega
      · rw [← ec, show m * 2 ^ (j + 1) + 2 ^ j + 2 ^ j = m * 2 ^ (j + 1) + 2 ^ (j + 1) by omega]; exact h4
    · have hlt : n < (m * 2 ^ (j + 1) + 2 ^ j) * (m * 2 ^ (j + 1) + 2 ^ j) := hle.1 (by cases hh : F_fc_0 neg hi lo false (F_dy_0 (m * 2 ^ (j + 1) + 2 ^ j) (m * 2 ^ (j + 1) + 2 ^ j)) (F_dy_1 (m * 2 ^ (j + 1) + 2 ^ j) (m * 2 ^ (j + 1) + 2 ^ j)) with
        | true => rfl
        | false => rw [hh] at hc; cases hc)
      rw [hm] at h3 hlt ⊢
      refine W_ca_ok hh hl hn hs hx f j (2 * m) (by omega) (by omega) (by omega) ?_ h3 hlt
      rw [← hm]; omega
theorem H_ca (cm : Bool) (ga gm : Int) {K0 : Bool -> Int -> Int -> Prop} (h : P_ca cm ga gm) (hK : K0 (F_ca_0 cm ga gm) (F_ca_1 cm ga gm) (F_ca_2 cm ga gm)) : B_ca cm ga gm K0 (W_ca_0 cm ga gm fuel) := by
  obtain ⟨hh, hl⟩ := h
  unfold B_ca
  simp only [Ts_iff]
  obtain ⟨n, hn⟩ : ∃ n, n = ga * 18446744073709551616 + gm := ⟨_, rfl⟩
  have n0 : 0 <= n := by obtain ⟨_, _⟩ := hh; obtain ⟨_, _⟩ := hl; omega
  have n1 : n < 340282366920938463463374607431768211456 := by obtain ⟨_, _⟩ := hh; obtain ⟨_, _⟩ := hl; omega
  have hs := rootZ_ok n0 n1
  unfold F_ca_0 F_ca_1 F_ca_2 at hK
  rw [← hn] at hK
  have := W_ca_ok (neg := cm) hh hl hn hs (x0 := fun kc ke => K0 false 0 kc) (fun v => hK) fuel 64 0 (by rw [fuel_eq]; omega) (by omega) (by omega) (by decide) (by rw [Int.zero_mul, Int.zero_mul]; exact n0) (by rw [Int.zero_mul, Int.zero_add]; exact n1)
  rw [Int.zero_mul] at this
  exact this
def E_bj_0 (cm : Int) (ga : Bool) : Bool := (F_be_0 (F_aq_0 cm ga) (F_aq_0 cm ga))
def E_bj_1 (cm : Int) (ga : Bool) : Int := (F_be_1 (F_aq_0 cm ga) (F_aq_0 cm ga))
def E_bj_2 (cm : Int) (ga : Bool) : Int := (F_be_2 (F_aq_0 cm ga) (F_aq_0 cm ga))
def E_bj_3 (gb : Int) (gd : Bool) : Bool := (F_be_0 (F_aq_0 gb gd) (F_aq_0 gb gd))
def E_bj_4 (gb : Int) (gd : Bool) : Int := (F_be_1 (F_aq_0 gb gd) (F_aq_0 gb gd))
def E_bj_5 (gb : Int) (gd : Bool) : Int := (F_be_2 (F_aq_0 gb gd) (F_aq_0 gb gd))
def E_bj_6 (cm : Int) (ga : Bool) (gb : Int) (gd : Bool) : Bool := (F_d6_0 (E_bj_0 cm ga) (E_bj_1 cm ga) (E_bj_2 cm ga) (E_bj_3 gb gd) (E_bj_4 gb gd) (E_bj_5 gb gd))
def E_bj_7 (cm : Int) (ga : Bool) (gb : Int) (gd : Bool) : Int := (F_d6_1 (E_bj_0 cm ga) (E_bj_1 cm ga) (E_bj_2 cm ga) (E_bj_3 gb gd) (E_bj_4 gb gd) (E_bj_5 gb gd))
def E_bj_8 (cm : Int) (ga : Bool) (gb : Int) (gd : Bool) : Int := (F_d6_2 (E_bj_0 cm ga) (E_bj_1 cm ga) (E_bj_2 cm ga) (E_bj_3 gb gd) (E_bj_4 gb gd) (E_bj_5 gb gd))
def E_bj_9 (cm : Int) (ga : Bool) (gb : Int) (gd : Bool) : Bool := (F_ca_0 (E_bj_6 cm ga gb gd) (E_bj_7 cm ga gb gd) (E_bj_8 cm ga gb gd))
def E_bj_10 (cm : Int) (ga : Bool) (gb : Int) (gd : Bool) : Int := (F_ca_1 (E_bj_6 cm ga gb gd) (E_bj_7 cm ga gb gd) (E_bj_8 cm ga gb gd))
def E_bj_11 (cm : Int) (ga : Bool) (gb : Int) (gd : Bool) : Int := (F_ca_2 (E_bj_6 cm ga gb gd) (E_bj_7 cm ga gb gd) (E_bj_8 cm ga gb gd))
def E_bj_12 (cm : Int) (ga : Bool) (gb : Int) (gd : Bool) : Int := (F_d7_0 (E_bj_9 cm ga gb gd) (E_bj_10 cm ga gb gd) (E_bj_11 cm ga gb gd) true)
def E_bj_13 (cm : Int) (ga : Bool) (gb : Int) (gd : Bool) : Bool := (F_d7_1 (E_bj_9 cm ga gb gd) (E_bj_10 cm ga gb gd) (E_bj_11 cm ga gb gd) true)
def E_bj_14 (cm : Int) (ga : Bool) (gb : Int) (gd : Bool) : Int := (F_d7_0 (E_bj_9 cm ga gb gd) (E_bj_10 cm ga gb gd) (E_bj_11 cm ga gb gd) (F_aq_1 gb gd))
def E_bj_15 (cm : Int) (ga : Bool) (gb : Int) (gd : Bool) : Bool := (F_d7_1 (E_bj_9 cm ga gb gd) (E_bj_10 cm ga gb gd) (E_bj_11 cm ga gb gd) (F_aq_1 gb gd))
def B_bj (cm : Int) (ga : Bool) (gb : Int) (gd : Bool) (K0 : Int -> Bool -> Prop)  : Prop := Ts 4 (((P_aq cm ga) /\ Ts 6 (((P_aq gb gd) /\ Ts 7 (((P_be (F_aq_0 cm ga) (F_aq_0 cm ga)) /\ Ts 2 (((P_be (F_aq_0 gb gd) (F_aq_0 gb gd)) /\ ((P_d6 (E_bj_0 cm ga) (E_bj_1 cm ga) (E_bj_2 cm ga) (E_bj_3 gb gd) (E_bj_4 gb gd) (E_bj_5 gb gd)) /\ ((P_ca (E_bj_6 cm ga gb gd) (E_bj_7 cm ga gb gd) (E_bj_8 cm ga gb gd)) /\ Ts 2 (cond (F_aq_1 cm ga) (Ts 1 (((P_d7 (E_bj_9 cm ga gb gd) (E_bj_10 cm ga gb gd) (E_bj_11 cm ga gb gd) true) /\ Ts 2 (K0 (E_bj_12 cm ga gb gd) (E_bj_13 cm ga gb gd))))) (Ts 2 (((P_d7 (E_bj_9 cm ga gb gd) (E_bj_10 cm ga gb gd) (E_bj_11 cm ga gb gd) (F_aq_1 gb gd)) /\ Ts 2 (K0 (E_bj_14 cm ga gb gd) (E_bj_15 cm ga gb gd))))))))))))))))
def P_bj (cm : Int) (ga : Bool) (gb : Int) (gd : Bool) : Prop := ((P_d6 (E_bj_0 cm ga) (E_bj_1 cm ga) (E_bj_2 cm ga) (E_bj_3 gb gd) (E_bj_4 gb gd) (E_bj_5 gb gd)) /\ (P_ca (E_bj_6 cm ga gb gd) (E_bj_7 cm ga gb gd) (E_bj_8 cm ga gb gd)))
def F_bj_0 (cm : Int) (ga : Bool) (gb : Int) (gd : Bool) : Int := (cond (F_aq_1 cm ga) (E_bj_12 cm ga gb gd) (E_bj_14 cm ga gb gd))
def F_bj_1 (cm : Int) (ga : Bool) (gb : Int) (gd : Bool) : Bool := (cond (F_aq_1 cm ga) (E_bj_13 cm ga gb gd) (E_bj_15 cm ga gb gd))
theorem H_bj (cm : Int) (ga : Bool) (gb : Int) (gd : Bool) {K0 : Int -> Bool -> Prop} (h : P_bj cm ga gb gd) (hK : K0 (F_bj_0 cm ga gb gd) (F_bj_1 cm ga gb gd)) : B_bj cm ga gb gd K0  := by
 unfold B_bj P_bj F_bj_0 F_bj_1 at *
 simp only [Ts_iff, true_and]; try simp only [Ts_iff, true_and] at h
 repeat' first | exact hK | (refine cond_intro (fun c => ?_) (fun c => ?_) <;> try simp only [c, cond_true, cond_false] at h hK ⊢) | refine ⟨rfl, ?_⟩ | refine ⟨trivial, ?_⟩ | refine ⟨by decide, ?_⟩ | (refine ⟨h.1, ?_⟩; replace h := h.2) | refine ⟨h, ?_⟩
def B_eh (a0 a1 a2 a3 : Int) (K0 : Int -> Prop)  : Prop := Ts 3 (((P_be a0 a1) /\ Ts 2 (((P_be a2 a3) /\ Ts 7 (cond ((beqB (F_be_0 a0 a1) (F_be_0 a2 a3)) && ((ieq (F_be_1 a0 a1) (F_be_1 a2 a3)) && (ieq (F_be_2 a0 a1) (F_be_2 a2 a3)))) (Ts 1 (K0 0)) (Ts 5 (cond (!(beqB (F_be_0 a0 a1) (F_be_0 a2 a3))) (Ts 2 (cond (F_be_0 a0 a1) (Ts 1 (K0 (-1))) (Ts 1 (K0 1)))) (Ts 2 (((P_fc (F_be_0 a0 a1) (F_be_1 a0 a1) (F_be_2 a0 a1) (F_be_0 a2 a3) (F_be_1 a2 a3) (F_be_2 a2 a3)) /\ Ts 3 ((true = true /\ cond (!(beqB (F_fc_0 (F_be_0 a0 a1) (F_be_1 a0 a1) (F_be_2 a0 a1) (F_be_0 a2 a3) (F_be_1 a2 a3) (F_be_2 a2 a3)) (F_be_0 a0 a1))) (Ts 1 (K0 (-1))) (Ts 1 (K0 1))))))))))))))
def P_eh (a0 a1 a2 a3 : Int) : Prop := True
def F_eh_0 (a0 a1 a2 a3 : Int) : Int := (cond ((beqB (F_be_0 a0 a1) (F_be_0 a2 a3)) && ((ieq (F_be_1 a0 a1) (F_be_1 a2 a3)) && (ieq (F_be_2 a0 a1) (F_be_2 a2 a3)))) 0 (cond (!(beqB (F_be_0 a0 a1) (F_be_0 a2 a3))) (cond (F_be_0 a0 a1) (-1) 1) (cond (!(beqB (F_fc_0 (F_be_0 a0 a1) (F_be_1 a0 a1) (F_be_2 a0 a1) (F_be_0 a2 a3) (F_be_1 a2 a3) (F_be_2 a2 a3)) (F_be_0 a0 a1))) (-1) 1)))
theorem H_eh (a0 a1 a2 a3 : Int) {K0 : Int -> Prop} (h : P_eh a0 a1 a2 a3) (hK : K0 (F_eh_0 a0 a1 a2 a3)) : B_eh a0 a1 a2 a3 K0  := by
 unfold B_eh P_eh F_eh_0 at *
 simp only [Ts_iff, true_and]
 repeat' first | exact hK | (refine cond_intro (fun c => ?_) (fun c => ?_) <;> try simp only [c, cond_true, cond_false] at h hK ⊢) | refine ⟨rfl, ?_⟩ | refine ⟨trivial, ?_⟩ | refine ⟨by decide, ?_⟩ | (refine ⟨h.1, ?_⟩; replace h := h.2) | refine ⟨h, ?_⟩
def B_bx (a0 : Int) (K0 : Int -> Bool -> Prop)  : Prop := Ts 3 (((P_aq a0 false) /\ Ts 10 (K0 (F_aq_0 a0 false) (F_aq_1 a0 false))))
def P_bx (a0 : Int) : Prop := True
def F_bx_0 (a0 : Int) : Int := (F_aq_0 a0 false)
def F_bx_1 (a0 : Int) : Bool := (F_aq_1 a0 false)
theorem H_bx (a0 : Int) {K0 : Int -> Bool -> Prop} (h : P_bx a0) (hK : K0 (F_bx_0 a0) (F_bx_1 a0)) : B_bx a0 K0  := by
 unfold B_bx P_bx F_bx_0 F_bx_1 at *
 simp only [Ts_iff, true_and]
 repeat' first | exact hK | refine ⟨rfl, ?_⟩ | refine ⟨trivial, ?_⟩ | refine ⟨by decide, ?_⟩ | (refine ⟨h.1, ?_⟩; replace h := h.2) | refine ⟨h, ?_⟩
def E_dc_0 (cm : Int) (ga : Bool) : Bool := (F_dr_0 (F_ai_0 (F_aq_0 cm ga)) (F_ai_1 (F_aq_0 cm ga)) (F_ai_2 (F_aq_0 cm ga)))
def E_dc_1 (cm : Int) (ga : Bool) : Int := (F_dr_1 (F_ai_0 (F_aq_0 cm ga)) (F_ai_1 (F_aq_0 cm ga)) (F_ai_2 (F_aq_0 cm ga)))
def E_dc_2 (cm : Int) (ga : Bool) : Int := (F_dr_2 (F_ai_0 (F_aq_0 cm ga)) (F_ai_1 (F_aq_0 cm ga)) (F_ai_2 (F_aq_0 cm ga)))
def E_dc_3 (cm : Int) (ga : Bool) : Bool := (F_ca_0 (E_dc_0 cm ga) (E_dc_1 cm ga) (E_dc_2 cm ga))
def E_dc_4 (cm : Int) (ga : Bool) : Int := (F_ca_1 (E_dc_0 cm ga) (E_dc_1 cm ga) (E_dc_2 cm ga))
def E_dc_5 (cm : Int) (ga : Bool) : Int := (F_ca_2 (E_dc_0 cm ga) (E_dc_1 cm ga) (E_dc_2 cm ga))
def E_dc_6 (cm : Int) (ga : Bool) : Int := (F_d7_0 (E_dc_3 cm ga) (E_dc_4 cm ga) (E_dc_5 cm ga) (F_aq_1 cm ga))
def E_dc_7 (cm : Int) (ga : Bool) : Bool := (F_d7_1 (E_dc_3 cm ga) (E_dc_4 cm ga) (E_dc_5 cm ga) (F_aq_1 cm ga))
def B_dc (cm : Int) (ga : Bool) (K0 : Int -> Bool -> Prop)  : Prop := Ts 3 (((P_aq cm ga) /\ Ts 7 (cond (ilt (F_aq_0 cm ga) 0) (Ts 3 (K0 0 true)) (Ts 1 (((P_ai (F_aq_0 cm ga)) /\ ((P_dr (F_ai_0 (F_aq_0 cm ga)) (F_ai_1 (F_aq_0 cm ga)) (F_ai_2 (F_aq_0 cm ga))) /\ ((P_ca (E_dc_0 cm ga) (E_dc_1 cm ga) (E_dc_2 cm ga)) /\ Ts 1 (((P_d7 (E_dc_3 cm ga) (E_dc_4 cm ga) (E_dc_5 cm ga) (F_aq_1 cm ga)) /\ Ts 2 (K0 (E_dc_6 cm ga) (E_dc_7 cm ga))))))))))))
def P_dc (cm : Int) (ga : Bool) : Prop := (cond (ilt (F_aq_0 cm ga) 0) True (P_ca (E_dc_0 cm ga) (E_dc_1 cm ga) (E_dc_2 cm ga)))
def F_dc_0 (cm : Int) (ga : Bool) : Int := (cond (ilt (F_aq_0 cm ga) 0) 0 (E_dc_6 cm ga))
def F_dc_1 (cm : Int) (ga : Bool) : Bool := (cond (ilt (F_aq_0 cm ga) 0) true (E_dc_7 cm ga))
theorem H_dc (cm : Int) (ga : Bool) {K0 : Int -> Bool -> Prop} (h : P_dc cm ga) (hK : K0 (F_dc_0 cm ga) (F_dc_1 cm ga)) : B_dc cm ga K0  := by
 unfold B_dc P_dc F_dc_0 F_dc_1 at *
 simp only [Ts_iff, true_and]; try simp only [Ts_iff, true_and] at h
 repeat' first | exact hK | (refine cond_intro (fun c => ?_) (fun c => ?_) <;> try simp only [c, cond_true, cond_false] at h hK ⊢) | refine ⟨rfl, ?_⟩ | refine ⟨trivial, ?_⟩ | refine ⟨by decide, ?_⟩ | (refine ⟨h.1, ?_⟩; replace h := h.2) | refine ⟨h, ?_⟩
def B_eu (cm : Int) (ga : Bool) (gb : Int) (gd : Bool) (gh : Int) (gj : Bool) (K0 : Int -> Bool -> Prop)  : Prop := Ts 8 (((P_c7 2 (pushF 1 (fun _ => cm) gh) (pushF 1 (fun _ => ga) gj)) /\ Ts 1 (((P_cv 2 (pushF 1 (fun _ => gb) (F_c7_0 2 (pushF 1 (fun _ => cm) gh) (pushF 1 (fun _ => ga) gj))) (pushF 1 (fun _ => gd) (F_c7_1 2 (pushF 1 (fun _ => cm) gh) (pushF 1 (fun _ => ga) gj)))) /\ Ts 1 ((true = true /\ Ts 1 (K0 (F_cv_0 2 (pushF 1 (fun _ => gb) (F_c7_0 2 (pushF 1 (fun _ => cm) gh) (pushF 1 (fun _ => ga) gj))) (pushF 1 (fun _ => gd) (F_c7_1 2 (pushF 1 (fun _ => cm) gh) (pushF 1 (fun _ => ga) gj)))) (F_cv_1 2 (pushF 1 (fun _ => gb) (F_c7_0 2 (pushF 1 (fun _ => cm) gh) (pushF 1 (fun _ => ga) gj))) (pushF 1 (fun _ => gd) (F_c7_1 2 (pushF 1 (fun _ => cm) gh) (pushF 1 (fun _ => ga) gj)))))))))))
def P_eu (cm : Int) (ga : Bool) (gb : Int) (gd : Bool) (gh : Int) (gj : Bool) : Prop := ((P_c7 2 (pushF 1 (fun _ => cm) gh) (pushF 1 (fun _ => ga) gj)) /\ (P_cv 2 (pushF 1 (fun _ => gb) (F_c7_0 2 (pushF 1 (fun _ => cm) gh) (pushF 1 (fun _ => ga) gj))) (pushF 1 (fun _ => gd) (F_c7_1 2 (pushF 1 (fun _ => cm) gh) (pushF 1 (fun _ => ga) gj)))))
def F_eu_0 (cm : Int) (ga : Bool) (gb : Int) (gd : Bool) (gh : Int) (gj : Bool) : Int := (F_cv_0 2 (pushF 1 (fun _ => gb) (F_c7_0 2 (pushF 1 (fun _ => cm) gh) (pushF 1 (fun _ => ga) gj))) (pushF 1 (fun _ => gd) (F_c7_1 2 (pushF 1 (fun _ => cm) gh) (pushF 1 (fun _ => ga) gj))))
def F_eu_1 (cm : Int) (ga : Bool) (gb : Int) (gd : Bool) (gh : Int) (gj : Bool) : Bool := (F_cv_1 2 (pushF 1 (fun _ => gb) (F_c7_0 2 (pushF 1 (fun _ => cm) gh) (pushF 1 (fun _ => ga) gj))) (pushF 1 (fun _ => gd) (F_c7_1 2 (pushF 1 (fun _ => cm) gh) (pushF 1 (fun _ => ga) gj))))
theorem H_eu (cm : Int) (ga : Bool) (gb : Int) (gd : Bool) (gh : Int) (gj : Bool) {K0 : Int -> Bool -> Prop} (h : P_eu cm ga gb gd gh gj) (hK : K0 (F_eu_0 cm ga gb gd gh gj) (F_eu_1 cm ga gb gd gh gj)) : B_eu cm ga gb gd gh gj K0  := by
 unfold B_eu P_eu F_eu_0 F_eu_1 at *
 simp only [Ts_iff, true_and]; try simp only [Ts_iff, true_and] at h
 repeat' first | exact hK | refine ⟨rfl, ?_⟩ | refine ⟨trivial, ?_⟩ | refine ⟨by decide, ?_⟩ | (refine ⟨h.1, ?_⟩; replace h := h.2) | refine ⟨h, ?_⟩
def B_bu_0 (gp : Nat) (cm : Nat -> Int) (ga : Nat -> Bool) (ic : Int) (c x0 : Int -> Prop) (x1 : Bool -> Int -> Prop)  : Prop := Ts 1 (cond (ilt ic ((gp : Nat) : Int)) (((0 <= ic /\ ic < ((gp : Nat) : Int)) /\ Ts 5 (cond (ga (Int.toNat ic)) (Ts 1 (x1 true ic)) (Ts 2 (c (iadd .i64 ic 1)))))) (x0 ic))
def W_bu_0 (gp : Nat) (cm : Nat -> Int) (ga : Nat -> Bool) : Nat -> Int -> (Int -> Prop) -> (Bool -> Int -> Prop) -> Prop
  | 0, _, _, _ => False
  | f + 1, w0, x0, x1 => B_bu_0 gp cm ga w0 (fun u0 => W_bu_0 gp cm ga f u0 x0 x1) x0 x1 
theorem BM_bu_0 (gp : Nat) (cm : Nat -> Int) (ga : Nat -> Bool) (ic : Int) {c c' : Int -> Prop} {x0 y0 : Int -> Prop} {x1 y1 : Bool -> Int -> Prop} (hc : ∀ w0, c w0 -> c' w0) (h0 : ∀ o0, x0 o0 -> y0 o0) (h1 : ∀ o0 o1, x1 o0 o1 -> y1 o0 o1) : B_bu_0 gp cm ga ic c x0 x1  -> B_bu_0 gp cm ga ic c' y0 y1  := by
  unfold B_bu_0
  repeat' first
    | exact hc _
    | exact h0 _
    | exact h1 _ _
    | refine Ts_imp ?_
    | refine cond_imp ?_ ?_
    | refine and_imp' ?_
theorem WM_bu_0 (gp : Nat) (cm : Nat -> Int) (ga : Nat -> Bool) {x0 y0 : Int -> Prop} {x1 y1 : Bool -> Int -> Prop} (h0 : ∀ o0, x0 o0 -> y0 o0) (h1 : ∀ o0 o1, x1 o0 o1 -> y1 o0 o1) : ∀ (f : Nat) (ic : Int), W_bu_0 gp cm ga f ic x0 x1 -> W_bu_0 gp cm ga f ic y0 y1
  | 0, w0 => fun h => h
  | f + 1, w0 => BM_bu_0 gp cm ga w0 (fun u0 => WM_bu_0 gp cm ga h0 h1 f u0) h0 h1
def B_bu (gp : Nat) (cm : Nat -> Int) (ga : Nat -> Bool) (K0 : Bool -> Prop) (l0 : Int -> (Int -> Prop) -> (Bool -> Int -> Prop) -> Prop) : Prop := Ts 4 ((l0 0 (fun i6 => Ts 1 (K0 false)) (fun i9 i6 => K0 i9)))
def P_bu (n : Nat) (x : Nat -> Int) (y : Nat -> Bool) : Prop := n <= 1000000
def F_bu_0 (n : Nat) (x : Nat -> Int) (y : Nat -> Bool) : Bool := anyN y n
theorem any_loop {p : Nat -> Bool} {n : Nat} (K : Bool -> Prop) (hK : K (anyN p n)) : ((∀ k, k < n -> p k = false) -> K false) /\ (∀ k, k < n -> p k = true -> K true) := by
  constructor
  · intro h
    have : anyN p n = false := by
      cases hf : anyN p n with
      | false => rfl
      | true => obtain ⟨k, h1, h2⟩ := anyN_t.1 hf; rw [h k h1] at h2; cases h2
    rwa [this] at hK
  · intro k hk hp
    have : anyN p n = true := anyN_t.2 ⟨k, hk, hp⟩
    rwa [this] at hK
theorem W_bu_ok {n : Nat} {x : Nat -> Int} {y : Nat -> Bool} (hp : n <= 1000000) {x0 : Int -> Prop} {x1 : Bool -> Int -> Prop} (h3 : (∀ k, k < n -> y k = false) -> ∀ v, x0 v) (h4 : ∀ k, k < n -> y k = true -> ∀ v, x1 true v) : ∀ (f i : Nat), i <= n -> n < f + i -> (∀ k, k < i -> y k = false) -> W_bu_0 n x y f i x0 x1
  | 0, i, h1, h2, _ => by omega
  | f + 1, i, h1, h2, g => by
    show B_bu_0 n x y i _ _ _
    unfold B_bu_0
    simp only [Ts_iff, true_and, Int.toNat_natCast]
    refine cond_intro (fun hc => ?_) (fun hc => ?_)
    · rw [ilt_t] at hc
      refine ⟨⟨by omega, hc⟩, cond_intro (fun hd => h4 i (by omega) hd _) (fun hd => ?_)⟩
      rw [iadd64 (by omega) (by omega)]
      exact W_bu_ok hp h3 h4 f (i + 1) (by omega) (by omega) (fun k hk => if e : k = i then by subst e; exact hd else g k (by omega))
    · rw [ilt_f] at hc
      exact h3 (fun k hk => g k (by omega)) _
theorem H_bu (gp : Nat) (cm : Nat -> Int) (ga : Nat -> Bool) {K0 : Bool -> Prop} (h : P_bu gp cm ga) (hK : K0 (F_bu_0 gp cm ga)) : B_bu gp cm ga K0 (W_bu_0 gp cm ga fuel) := by
  unfold B_bu
  simp only [Ts_iff]
  have hp : gp <= 1000000 := h
  obtain ⟨h3, h4⟩ := any_loop K0 hK
  exact W_bu_ok hp (fun h v => h3 h) (fun k hk hs v => h4 k hk hs) fuel 0 (Nat.zero_le _) (by rw [fuel_eq]; omega) (fun k hk => by omega)
theorem any2 (p : Nat -> Bool) : anyN p 2 = (p 0 || p 1) := by show ((false || p 0) || p 1) = _; rw [Bool.false_or]
theorem any4 (p : Nat -> Bool) : anyN p 4 = (p 0 || p 1 || p 2 || p 3) := by show ((((false || p 0) || p 1) || p 2) || p 3) = _; rw [Bool.false_or]
theorem flags2 (a b : Int) (f g : Bool) : F_bu_0 2 (pushF 1 (fun _ => a) b) (pushF 1 (fun _ => f) g) = (f || g) := any2 _
theorem flags4 (a b c d : Int) (f g h i : Bool) : F_bu_0 4 (appF 1 (fun _ => a) (appF 1 (fun _ => b) (pushF 1 (fun _ => c) d))) (appF 1 (fun _ => f) (appF 1 (fun _ => g) (pushF 1 (fun _ => h) i))) = (f || g || h || i) := any4 _
def B_av (cm : Int) (ga : Bool) (K0 : Int -> Bool -> Prop)  : Prop := Ts 5 (cond (ieq cm (-9223372036854775808)) (Ts 3 (K0 (-9223372036854775807) true)) (Ts 3 (K0 cm ga)))
def P_av (cm : Int) (ga : Bool) : Prop := True
def F_av_0 (cm : Int) (ga : Bool) : Int := (cond (ieq cm (-9223372036854775808)) (-9223372036854775807) cm)
def F_av_1 (cm : Int) (ga : Bool) : Bool := (cond (ieq cm (-9223372036854775808)) true ga)
theorem H_av (cm : Int) (ga : Bool) {K0 : Int -> Bool -> Prop} (h : P_av cm ga) (hK : K0 (F_av_0 cm ga) (F_av_1 cm ga)) : B_av cm ga K0  := by
 unfold B_av P_av F_av_0 F_av_1 at *
 simp only [Ts_iff, true_and]
 repeat' first | exact hK | (refine cond_intro (fun c => ?_) (fun c => ?_) <;> try simp only [c, cond_true, cond_false] at h hK ⊢)
def B_az_0 (gp : Nat) (cm : Nat -> Int) (ga : Nat -> Bool) (ib : Bool) (i5 : Int) (i7 : (Nat -> Int)) (c x0 : Bool -> Int -> (Nat -> Int) -> Prop)  : Prop := Ts 1 (cond (ilt i5 ((gp : Nat) : Int)) (Ts 1 (((0 <= i5 /\ i5 < ((gp : Nat) : Int)) /\ Ts 5 (((P_av (cm (Int.toNat i5)) (ga (Int.toNat i5))) /\ Ts 7 (cond ib (Ts 1 (((0 <= i5 /\ i5 < (((Int.toNat ((gp : Nat) : Int)) : Nat) : Int)) /\ (((Int.toNat i5) < (Int.toNat ((gp : Nat) : Int))) /\ Ts 1 ((true = true /\ Ts 2 (c true (iadd .i64 i5 1) (updF (Int.toNat i5) i7 (F_av_0 (cm (Int.toNat i5)) (ga (Int.toNat i5))))))))))) (Ts 3 (((0 <= i5 /\ i5 < (((Int.toNat ((gp : Nat) : Int)) : Nat) : Int)) /\ (((Int.toNat i5) < (Int.toNat ((gp : Nat) : Int))) /\ Ts 1 ((true = true /\ Ts 2 (c (F_av_1 (cm (Int.toNat i5)) (ga (Int.toNat i5))) (iadd .i64 i5 1) (updF (Int.toNat i5) i7 (F_av_0 (cm (Int.toNat i5)) (ga (Int.toNat i5))))))))))))))))) (x0 ib i5 i7))
def W_az_0 (gp : Nat) (cm : Nat -> Int) (ga : Nat -> Bool) : Nat -> Bool -> Int -> (Nat -> Int) -> (Bool -> Int -> (Nat -> Int) -> Prop) -> Prop
  | 0, _, _, _, _ => False
  | f + 1, w0, w1, w2, x0 => B_az_0 gp cm ga w0 w1 w2 (fun u0 u1 u2 => W_az_0 gp cm ga f u0 u1 u2 x0) x0 
theorem BM_az_0 (gp : Nat) (cm : Nat -> Int) (ga : Nat -> Bool) (ib : Bool) (i5 : Int) (i7 : (Nat -> Int)) {c c' : Bool -> Int -> (Nat -> Int) -> Prop} {x0 y0 : Bool -> Int -> (Nat -> Int) -> Prop} (hc : ∀ w0 w1 w2, c w0 w1 w2 -> c' w0 w1 w2) (h0 : ∀ o0 o1 o2, x0 o0 o1 o2 -> y0 o0 o1 o2) : B_az_0 gp cm ga ib i5 i7 c x0  -> B_az_0 gp cm ga ib i5 i7 c' y0  := by
  unfold B_az_0
  repeat' first
    | exact hc _ _ _
    | exact h0 _ _ _
    | refine Ts_imp ?_
    | refine cond_imp ?_ ?_
    | refine and_imp' ?_
theorem WM_az_0 (gp : Nat) (cm : Nat -> Int) (ga : Nat -> Bool) {x0 y0 : Bool -> Int -> (Nat -> Int) -> Prop} (h0 : ∀ o0 o1 o2, x0 o0 o1 o2 -> y0 o0 o1 o2) : ∀ (f : Nat) (ib : Bool) (i5 : Int) (i7 : (Nat -> Int)), W_az_0 gp cm ga f ib i5 i7 x0 -> W_az_0 gp cm ga f ib i5 i7 y0
  | 0, w0, w1, w2 => fun h => h
  | f + 1, w0, w1, w2 => BM_az_0 gp cm ga w0 w1 w2 (fun u0 u1 u2 => WM_az_0 gp cm ga h0 f u0 u1 u2) h0
def B_az (gp : Nat) (cm : Nat -> Int) (ga : Nat -> Bool) (K0 : Nat -> (Nat -> Int) -> Bool -> Prop) (l0 : Bool -> Int -> (Nat -> Int) -> (Bool -> Int -> (Nat -> Int) -> Prop) -> Prop) : Prop := Ts 4 (((0 <= ((gp : Nat) : Int) /\ ((gp : Nat) : Int) = ((gp : Nat) : Int) /\ ((gp : Nat) : Int) <= 1000000 /\ 8 <= 1000000) /\ Ts 5 ((l0 false 0 (fun _ => 0) (fun ku ma kx => Ts 4 (K0 (Int.toNat ((gp : Nat) : Int)) kx ku))))))
def valF (x : Nat -> Int) (y : Nat -> Bool) : Nat -> (Nat -> Int)
  | 0 => fun _ => 0
  | i + 1 => updF i (valF x y i) (F_av_0 (x i) (y i))
theorem updG_at (i : Nat) {α : Type} (f : Nat -> α) (v : α) : updF i f v i = v := by unfold updF; rw [Nat.beq_refl]; rfl
theorem updG_ne {i k : Nat} {α : Type} (f : Nat -> α) (v : α) (h : k ≠ i) : updF i f v k = f k := by
  unfold updF
  rw [show Nat.beq k i = false by cases hb : Nat.beq k i with | false => rfl | true => exact absurd (Nat.eq_of_beq_eq_true hb) h]
  rfl
theorem valF_at {x : Nat -> Int} {y : Nat -> Bool} : ∀ {n k : Nat}, k < n -> valF x y n k = F_av_0 (x k) (y k)
  | 0, k, h => by omega
  | n + 1, k, h => by
    show updF n (valF x y n) (F_av_0 (x n) (y n)) k = _
    by_cases e : k = n
    · subst e; rw [updG_at]
    · rw [updG_ne _ _ e]; exact valF_at (by omega)
def P_az (n : Nat) (x : Nat -> Int) (y : Nat -> Bool) : Prop := n <= 1000000
def F_az_0 (n : Nat) (x : Nat -> Int) (y : Nat -> Bool) : Nat := n
def F_az_1 (n : Nat) (x : Nat -> Int) (y : Nat -> Bool) : (Nat -> Int) := valF x y n
def F_az_2 (n : Nat) (x : Nat -> Int) (y : Nat -> Bool) : Bool := anyN (fun k => F_av_1 (x k) (y k)) n
theorem W_az_ok {n : Nat} {x : Nat -> Int} {y : Nat -> Bool} (hp : n <= 1000000) {x0 : Bool -> Int -> (Nat -> Int) -> Prop} (h3 : ∀ v, x0 (anyN (fun k => F_av_1 (x k) (y k)) n) v (valF x y n)) : ∀ (f i : Nat), i <= n -> n < f + i -> W_az_0 n x y f (anyN (fun k => F_av_1 (x k) (y k)) i) i (valF x y i) x0
  | 0, i, h1, h2 => by omega
  | f + 1, i, h1, h2 => by
    show B_az_0 n x y _ i _ _ _
    unfold B_az_0
    simp only [Ts_iff, true_and, Int.toNat_natCast]
    refine cond_intro (fun hc => ?_) (fun hc => ?_)
    · rw [ilt_t] at hc
      rw [iadd64 (by omega) (by omega)]
      have hr := W_az_ok hp h3 f (i + 1) (by omega) (by omega)
      have e : anyN (fun k => F_av_1 (x k) (y k)) (i + 1) = (anyN (fun k => F_av_1 (x k) (y k)) i || F_av_1 (x i) (y i)) := rfl
      rw [e] at hr
      refine ⟨⟨by omega, hc⟩, trivial, cond_intro (fun hd => ?_) (fun hd => ?_)⟩
      · rw [hd, Bool.true_or] at hr
        exact ⟨⟨by omega, hc⟩, by omega, hr⟩
      · rw [hd, Bool.false_or] at hr
        exact ⟨⟨by omega, hc⟩, by omega, hr⟩
    · rw [ilt_f] at hc
      have : i = n := by omega
      subst this
      exact h3 _
theorem H_az (gp : Nat) (cm : Nat -> Int) (ga : Nat -> Bool) {K0 : Nat -> (Nat -> Int) -> Bool -> Prop} (h : P_az gp cm ga) (hK : K0 (F_az_0 gp cm ga) (F_az_1 gp cm ga) (F_az_2 gp cm ga)) : B_az gp cm ga K0 (W_az_0 gp cm ga fuel) := by
  unfold B_az
  simp only [Ts_iff, Int.toNat_natCast]
  have hp : gp <= 1000000 := h
  exact ⟨⟨by omega, trivial, by omega, by omega⟩, W_az_ok hp (fun v => hK) fuel 0 (Nat.zero_le _) (by rw [fuel_eq]; omega)⟩
def B_br (cm : Bool) (ge gg : Int) (a1 : Bool) (K0 : Int -> Bool -> Prop)  : Prop := Ts 6 (((0 <= (1 : Int) /\ (1 : Int) < ((2 : Nat) : Int)) /\ Ts 3 (cond (ieq gg 0) (Ts 1 (((0 <= (0 : Int) /\ (0 : Int) < ((2 : Nat) : Int)) /\ Ts 3 (cond (ile ge 9223372036854775807) (Ts 1 (((0 <= (0 : Int) /\ (0 : Int) < ((2 : Nat) : Int)) /\ Ts 7 (cond cm (Ts 8 (K0 (ineg .i64 (iconv .i64 ge)) a1)) (Ts 3 (K0 (iconv .i64 ge) a1)))))) (Ts 2 (cond cm (Ts 8 (K0 (ineg .i64 9223372036854775807) true)) (Ts 3 (K0 9223372036854775807 true)))))))) (Ts 3 (cond cm (Ts 8 (K0 (ineg .i64 9223372036854775807) true)) (Ts 3 (K0 9223372036854775807 true)))))))
def P_br (cm : Bool) (ge gg : Int) (a1 : Bool) : Prop := True
def F_br_0 (cm : Bool) (ge gg : Int) (a1 : Bool) : Int := (cond (ieq gg 0) (cond (ile ge 9223372036854775807) (cond cm (ineg .i64 (iconv .i64 ge)) (iconv .i64 ge)) (cond cm (ineg .i64 9223372036854775807) 9223372036854775807)) (cond cm (ineg .i64 9223372036854775807) 9223372036854775807))
def F_br_1 (cm : Bool) (ge gg : Int) (a1 : Bool) : Bool := (cond (ieq gg 0) (cond (ile ge 9223372036854775807) a1 true) true)
theorem H_br (cm : Bool) (ge gg : Int) (a1 : Bool) {K0 : Int -> Bool -> Prop} (h : P_br cm ge gg a1) (hK : K0 (F_br_0 cm ge gg a1) (F_br_1 cm ge gg a1)) : B_br cm ge gg a1 K0  := by
 unfold B_br P_br F_br_0 F_br_1 at *
 simp only [Ts_iff, true_and]
 repeat' first | exact hK | (refine cond_intro (fun c => ?_) (fun c => ?_) <;> try simp only [c, cond_true, cond_false] at h hK ⊢) | refine ⟨rfl, ?_⟩ | refine ⟨trivial, ?_⟩ | refine ⟨by decide, ?_⟩ | (refine ⟨h.1, ?_⟩; replace h := h.2) | refine ⟨h, ?_⟩
def B_bf (a0 : Int) (K0 : Bool -> Int -> Int -> Prop)  : Prop := Ts 3 (cond (ilt a0 0) (Ts 7 (K0 true (ineg .u64 (iconv .u64 a0)) 0)) (Ts 6 (K0 false (iconv .u64 a0) 0)))
def P_bf (a0 : Int) : Prop := True
def F_bf_0 (a0 : Int) : Bool := (cond (ilt a0 0) true false)
def F_bf_1 (a0 : Int) : Int := (cond (ilt a0 0) (ineg .u64 (iconv .u64 a0)) (iconv .u64 a0))
def F_bf_2 (a0 : Int) : Int := 0
theorem H_bf (a0 : Int) {K0 : Bool -> Int -> Int -> Prop} (h : P_bf a0) (hK : K0 (F_bf_0 a0) (F_bf_1 a0) (F_bf_2 a0)) : B_bf a0 K0  := by
 unfold B_bf P_bf F_bf_0 F_bf_1 F_bf_2 at *
 simp only [Ts_iff, true_and]
 repeat' first | exact hK | (refine cond_intro (fun c => ?_) (fun c => ?_) <;> try simp only [c, cond_true, cond_false] at h hK ⊢)
def B_bk (cm : Bool) (ge gg : Int) (K0 : Bool -> Int -> Int -> Prop)  : Prop := Ts 3 (((0 <= (0 : Int) /\ (0 : Int) < ((2 : Nat) : Int)) /\ Ts 1 (((0 <= (32 : Int)) /\ Ts 1 (((0 <= (1 : Int) /\ (1 : Int) < ((2 : Nat) : Int)) /\ Ts 1 (((0 <= (32 : Int)) /\ Ts 1 (((0 <= (0 : Int) /\ (0 : Int) < ((2 : Nat) : Int)) /\ Ts 1 (((0 <= (32 : Int)) /\ Ts 7 (K0 cm (ishl .u64 ge 32) (ior .u64 (ishl .u64 gg 32) (ishr .u64 ge 32)))))))))))))))
def P_bk (cm : Bool) (ge gg : Int) : Prop := True
def F_bk_0 (cm : Bool) (ge gg : Int) : Bool := cm
def F_bk_1 (cm : Bool) (ge gg : Int) : Int := (ishl .u64 ge 32)
def F_bk_2 (cm : Bool) (ge gg : Int) : Int := (ior .u64 (ishl .u64 gg 32) (ishr .u64 ge 32))
theorem H_bk (cm : Bool) (ge gg : Int) {K0 : Bool -> Int -> Int -> Prop} (h : P_bk cm ge gg) (hK : K0 (F_bk_0 cm ge gg) (F_bk_1 cm ge gg) (F_bk_2 cm ge gg)) : B_bk cm ge gg K0  := by
 unfold B_bk P_bk F_bk_0 F_bk_1 F_bk_2 at *
 simp only [Ts_iff, true_and]
 repeat' first | exact hK | refine ⟨rfl, ?_⟩ | refine ⟨trivial, ?_⟩ | refine ⟨by decide, ?_⟩ | (refine ⟨h.1, ?_⟩; replace h := h.2) | refine ⟨h, ?_⟩
def B_cn (a0 a1 : Int) (K0 : Int -> Bool -> Prop)  : Prop := Ts 3 (cond (ieq a1 0) (Ts 1 (((P_cl a0 0) /\ Ts 4 (K0 (imul .i64 (F_cl_0 a0 0) 9223372036854775807) true)))) (Ts 1 (((P_bf a0) /\ ((P_bk (F_bf_0 a0) (F_bf_1 a0) (F_bf_2 a0)) /\ Ts 1 (((P_bf a1) /\ Ts 5 (((0 <= (0 : Int) /\ (0 : Int) < ((2 : Nat) : Int)) /\ Ts 3 (((0 <= (1 : Int) /\ (1 : Int) < ((2 : Nat) : Int)) /\ Ts 2 ((((F_bf_1 a1) ≠ 0) /\ Ts 2 (((0 <= (1 : Int) /\ (1 : Int) < ((2 : Nat) : Int)) /\ Ts 2 ((((F_bf_1 a1) ≠ 0) /\ Ts 1 (((0 <= (0 : Int) /\ (0 : Int) < ((2 : Nat) : Int)) /\ Ts 2 (((P_a9 (irem .u64 (F_bk_2 (F_bf_0 a0) (F_bf_1 a0) (F_bf_2 a0)) (F_bf_1 a1)) (F_bk_1 (F_bf_0 a0) (F_bf_1 a0) (F_bf_2 a0)) (F_bf_1 a1)) /\ Ts 5 ((true = true /\ Ts 9 (((P_br (!(beqB (F_bk_0 (F_bf_0 a0) (F_bf_1 a0) (F_bf_2 a0)) (F_bf_0 a1))) (F_a9_0 (irem .u64 (F_bk_2 (F_bf_0 a0) (F_bf_1 a0) (F_bf_2 a0)) (F_bf_1 a1)) (F_bk_1 (F_bf_0 a0) (F_bf_1 a0) (F_bf_2 a0)) (F_bf_1 a1)) (iquo .u64 (F_bk_2 (F_bf_0 a0) (F_bf_1 a0) (F_bf_2 a0)) (F_bf_1 a1)) false) /\ Ts 2 (K0 (F_br_0 (!(beqB (F_bk_0 (F_bf_0 a0) (F_bf_1 a0) (F_bf_2 a0)) (F_bf_0 a1))) (F_a9_0 (irem .u64 (F_bk_2 (F_bf_0 a0) (F_bf_1 a0) (F_bf_2 a0)) (F_bf_1 a1)) (F_bk_1 (F_bf_0 a0) (F_bf_1 a0) (F_bf_2 a0)) (F_bf_1 a1)) (iquo .u64 (F_bk_2 (F_bf_0 a0) (F_bf_1 a0) (F_bf_2 a0)) (F_bf_1 a1)) false) (F_br_1 (!(beqB (F_bk_0 (F_bf_0 a0) (F_bf_1 a0) (F_bf_2 a0)) (F_bf_0 a1))) (F_a9_0 (irem .u64 (F_bk_2 (F_bf_0 a0) (F_bf_1 a0) (F_bf_2 a0)) (F_bf_1 a1)) (F_bk_1 (F_bf_0 a0) (F_bf_1 a0) (F_bf_2 a0)) (F_bf_1 a1)) (iquo .u64 (F_bk_2 (F_bf_0 a0) (F_bf_1 a0) (F_bf_2 a0)) (F_bf_1 a1)) false)))))))))))))))))))))))))))
def P_cn (a0 a1 : Int) : Prop := (cond (ieq a1 0) True (((F_bf_1 a1) ≠ 0) /\ (((F_bf_1 a1) ≠ 0) /\ (P_a9 (irem .u64 (F_bk_2 (F_bf_0 a0) (F_bf_1 a0) (F_bf_2 a0)) (F_bf_1 a1)) (F_bk_1 (F_bf_0 a0) (F_bf_1 a0) (F_bf_2 a0)) (F_bf_1 a1)))))
def F_cn_0 (a0 a1 : Int) : Int := (cond (ieq a1 0) (imul .i64 (F_cl_0 a0 0) 9223372036854775807) (F_br_0 (!(beqB (F_bk_0 (F_bf_0 a0) (F_bf_1 a0) (F_bf_2 a0)) (F_bf_0 a1))) (F_a9_0 (irem .u64 (F_bk_2 (F_bf_0 a0) (F_bf_1 a0) (F_bf_2 a0)) (F_bf_1 a1)) (F_bk_1 (F_bf_0 a0) (F_bf_1 a0) (F_bf_2 a0)) (F_bf_1 a1)) (iquo .u64 (F_bk_2 (F_bf_0 a0) (F_bf_1 a0) (F_bf_2 a0)) (F_bf_1 a1)) false))
def F_cn_1 (a0 a1 : Int) : Bool := (cond (ieq a1 0) true (F_br_1 (!(beqB (F_bk_0 (F_bf_0 a0) (F_bf_1 a0) (F_bf_2 a0)) (F_bf_0 a1))) (F_a9_0 (irem .u64 (F_bk_2 (F_bf_0 a0) (F_bf_1 a0) (F_bf_2 a0)) (F_bf_1 a1)) (F_bk_1 (F_bf_0 a0) (F_bf_1 a0) (F_bf_2 a0)) (F_bf_1 a1)) (iquo .u64 (F_bk_2 (F_bf_0 a0) (F_bf_1 a0) (F_bf_2 a0)) (F_bf_1 a1)) false))
theorem H_cn (a0 a1 : Int) {K0 : Int -> Bool -> Prop} (h : P_cn a0 a1) (hK : K0 (F_cn_0 a0 a1) (F_cn_1 a0 a1)) : B_cn a0 a1 K0  := by
 unfold B_cn P_cn F_cn_0 F_cn_1 at *
 simp only [Ts_iff, true_and]; try simp only [Ts_iff, true_and] at h
 repeat' first | exact hK | (refine cond_intro (fun c => ?_) (fun c => ?_) <;> try simp only [c, cond_true, cond_false] at h hK ⊢) | refine ⟨rfl, ?_⟩ | refine ⟨trivial, ?_⟩ | refine ⟨by decide, ?_⟩ | (refine ⟨h.1, ?_⟩; replace h := h.2) | refine ⟨h, ?_⟩
def B_et (a0 : Int) (K0 : Int -> Bool -> Prop)  : Prop := Ts 2 (((P_bf a0) /\ ((P_bk (F_bf_0 a0) (F_bf_1 a0) (F_bf_2 a0)) /\ ((P_br (F_bk_0 (F_bf_0 a0) (F_bf_1 a0) (F_bf_2 a0)) (F_bk_1 (F_bf_0 a0) (F_bf_1 a0) (F_bf_2 a0)) (F_bk_2 (F_bf_0 a0) (F_bf_1 a0) (F_bf_2 a0)) false) /\ Ts 2 (K0 (F_br_0 (F_bk_0 (F_bf_0 a0) (F_bf_1 a0) (F_bf_2 a0)) (F_bk_1 (F_bf_0 a0) (F_bf_1 a0) (F_bf_2 a0)) (F_bk_2 (F_bf_0 a0) (F_bf_1 a0) (F_bf_2 a0)) false) (F_br_1 (F_bk_0 (F_bf_0 a0) (F_bf_1 a0) (F_bf_2 a0)) (F_bk_1 (F_bf_0 a0) (F_bf_1 a0) (F_bf_2 a0)) (F_bk_2 (F_bf_0 a0) (F_bf_1 a0) (F_bf_2 a0)) false))))))
def P_et (a0 : Int) : Prop := True
def F_et_0 (a0 : Int) : Int := (F_br_0 (F_bk_0 (F_bf_0 a0) (F_bf_1 a0) (F_bf_2 a0)) (F_bk_1 (F_bf_0 a0) (F_bf_1 a0) (F_bf_2 a0)) (F_bk_2 (F_bf_0 a0) (F_bf_1 a0) (F_bf_2 a0)) false)
def F_et_1 (a0 : Int) : Bool := (F_br_1 (F_bk_0 (F_bf_0 a0) (F_bf_1 a0) (F_bf_2 a0)) (F_bk_1 (F_bf_0 a0) (F_bf_1 a0) (F_bf_2 a0)) (F_bk_2 (F_bf_0 a0) (F_bf_1 a0) (F_bf_2 a0)) false)
theorem H_et (a0 : Int) {K0 : Int -> Bool -> Prop} (h : P_et a0) (hK : K0 (F_et_0 a0) (F_et_1 a0)) : B_et a0 K0  := by
 unfold B_et P_et F_et_0 F_et_1 at *
 simp only [Ts_iff, true_and]
 repeat' first | exact hK | refine ⟨rfl, ?_⟩ | refine ⟨trivial, ?_⟩ | refine ⟨by decide, ?_⟩ | (refine ⟨h.1, ?_⟩; replace h := h.2) | refine ⟨h, ?_⟩
def B_ao (a0 a1 : Int) (K0 : Bool -> Int -> Int -> Prop)  : Prop := Ts 2 (((P_bf a0) /\ Ts 1 (((P_bf a1) /\ Ts 5 (((0 <= (0 : Int) /\ (0 : Int) < ((2 : Nat) : Int)) /\ Ts 2 (((0 <= (0 : Int) /\ (0 : Int) < ((2 : Nat) : Int)) /\ Ts 1 (((P_dy (F_bf_1 a0) (F_bf_1 a1)) /\ Ts 16 (K0 (!(beqB (F_bf_0 a0) (F_bf_0 a1))) (F_dy_1 (F_bf_1 a0) (F_bf_1 a1)) (F_dy_0 (F_bf_1 a0) (F_bf_1 a1)))))))))))))
def P_ao (a0 a1 : Int) : Prop := True
def F_ao_0 (a0 a1 : Int) : Bool := (!(beqB (F_bf_0 a0) (F_bf_0 a1)))
def F_ao_1 (a0 a1 : Int) : Int := (F_dy_1 (F_bf_1 a0) (F_bf_1 a1))
def F_ao_2 (a0 a1 : Int) : Int := (F_dy_0 (F_bf_1 a0) (F_bf_1 a1))
theorem H_ao (a0 a1 : Int) {K0 : Bool -> Int -> Int -> Prop} (h : P_ao a0 a1) (hK : K0 (F_ao_0 a0 a1) (F_ao_1 a0 a1) (F_ao_2 a0 a1)) : B_ao a0 a1 K0  := by
 unfold B_ao P_ao F_ao_0 F_ao_1 F_ao_2 at *
 simp only [Ts_iff, true_and]
 repeat' first | exact hK | refine ⟨rfl, ?_⟩ | refine ⟨trivial, ?_⟩ | refine ⟨by decide, ?_⟩ | (refine ⟨h.1, ?_⟩; replace h := h.2) | refine ⟨h, ?_⟩
def B_cb (cm : Bool) (ge gg : Int) (K0 : Bool -> Int -> Int -> Prop)  : Prop := Ts 3 (((0 <= (1 : Int) /\ (1 : Int) < ((2 : Nat) : Int)) /\ Ts 1 (((0 <= (32 : Int)) /\ Ts 1 (((0 <= (0 : Int) /\ (0 : Int) < ((2 : Nat) : Int)) /\ Ts 1 (((0 <= (32 : Int)) /\ Ts 2 (((0 <= (1 : Int) /\ (1 : Int) < ((2 : Nat) : Int)) /\ Ts 1 (((0 <= (32 : Int)) /\ Ts 6 (K0 cm (ior .u64 (ishl .u64 gg 32) (ishr .u64 ge 32)) (ishr .u64 gg 32))))))))))))))
def P_cb (cm : Bool) (ge gg : Int) : Prop := True
def F_cb_0 (cm : Bool) (ge gg : Int) : Bool := cm
def F_cb_1 (cm : Bool) (ge gg : Int) : Int := (ior .u64 (ishl .u64 gg 32) (ishr .u64 ge 32))
def F_cb_2 (cm : Bool) (ge gg : Int) : Int := (ishr .u64 gg 32)
theorem H_cb (cm : Bool) (ge gg : Int) {K0 : Bool -> Int -> Int -> Prop} (h : P_cb cm ge gg) (hK : K0 (F_cb_0 cm ge gg) (F_cb_1 cm ge gg) (F_cb_2 cm ge gg)) : B_cb cm ge gg K0  := by
 unfold B_cb P_cb F_cb_0 F_cb_1 F_cb_2 at *
 simp only [Ts_iff, true_and]
 repeat' first | exact hK | refine ⟨rfl, ?_⟩ | refine ⟨trivial, ?_⟩ | refine ⟨by decide, ?_⟩ | (refine ⟨h.1, ?_⟩; replace h := h.2) | refine ⟨h, ?_⟩
def E_c8_0 (cm : Int) (ga : Bool) (gb : Int) (gd : Bool) : Bool := (F_ao_0 (F_av_0 cm ga) (F_av_0 gb gd))
def E_c8_1 (cm : Int) (ga : Bool) (gb : Int) (gd : Bool) : Int := (F_ao_1 (F_av_0 cm ga) (F_av_0 gb gd))
def E_c8_2 (cm : Int) (ga : Bool) (gb : Int) (gd : Bool) : Int := (F_ao_2 (F_av_0 cm ga) (F_av_0 gb gd))
def E_c8_3 (cm : Int) (ga : Bool) (gb : Int) (gd : Bool) : Bool := (F_cb_0 (E_c8_0 cm ga gb gd) (E_c8_1 cm ga gb gd) (E_c8_2 cm ga gb gd))
def E_c8_4 (cm : Int) (ga : Bool) (gb : Int) (gd : Bool) : Int := (F_cb_1 (E_c8_0 cm ga gb gd) (E_c8_1 cm ga gb gd) (E_c8_2 cm ga gb gd))
def E_c8_5 (cm : Int) (ga : Bool) (gb : Int) (gd : Bool) : Int := (F_cb_2 (E_c8_0 cm ga gb gd) (E_c8_1 cm ga gb gd) (E_c8_2 cm ga gb gd))
def E_c8_6 (cm : Int) (ga : Bool) (gb : Int) (gd : Bool) : Bool := (F_bu_0 2 (pushF 1 (fun _ => (F_av_0 cm ga)) (F_av_0 gb gd)) (pushF 1 (fun _ => (F_av_1 cm ga)) (F_av_1 gb gd)))
def E_c8_7 (cm : Int) (ga : Bool) (gb : Int) (gd : Bool) : Int := (F_br_0 (E_c8_3 cm ga gb gd) (E_c8_4 cm ga gb gd) (E_c8_5 cm ga gb gd) (E_c8_6 cm ga gb gd))
def E_c8_8 (cm : Int) (ga : Bool) (gb : Int) (gd : Bool) : Bool := (F_br_1 (E_c8_3 cm ga gb gd) (E_c8_4 cm ga gb gd) (E_c8_5 cm ga gb gd) (E_c8_6 cm ga gb gd))
def B_c8 (cm : Int) (ga : Bool) (gb : Int) (gd : Bool) (K0 : Int -> Bool -> Prop)  : Prop := Ts 4 (((P_av cm ga) /\ Ts 1 (((P_av gb gd) /\ Ts 2 ((true = true /\ Ts 4 (((P_ao (F_av_0 cm ga) (F_av_0 gb gd)) /\ ((P_cb (E_c8_0 cm ga gb gd) (E_c8_1 cm ga gb gd) (E_c8_2 cm ga gb gd)) /\ Ts 3 (((P_bu 2 (pushF 1 (fun _ => (F_av_0 cm ga)) (F_av_0 gb gd)) (pushF 1 (fun _ => (F_av_1 cm ga)) (F_av_1 gb gd))) /\ ((P_br (E_c8_3 cm ga gb gd) (E_c8_4 cm ga gb gd) (E_c8_5 cm ga gb gd) (E_c8_6 cm ga gb gd)) /\ Ts 1 ((true = true /\ Ts 1 (K0 (E_c8_7 cm ga gb gd) (E_c8_8 cm ga gb gd))))))))))))))))
def P_c8 (cm : Int) (ga : Bool) (gb : Int) (gd : Bool) : Prop := (P_bu 2 (pushF 1 (fun _ => (F_av_0 cm ga)) (F_av_0 gb gd)) (pushF 1 (fun _ => (F_av_1 cm ga)) (F_av_1 gb gd)))
def F_c8_0 (cm : Int) (ga : Bool) (gb : Int) (gd : Bool) : Int := (E_c8_7 cm ga gb gd)
def F_c8_1 (cm : Int) (ga : Bool) (gb : Int) (gd : Bool) : Bool := (E_c8_8 cm ga gb gd)
theorem H_c8 (cm : Int) (ga : Bool) (gb : Int) (gd : Bool) {K0 : Int -> Bool -> Prop} (h : P_c8 cm ga gb gd) (hK : K0 (F_c8_0 cm ga gb gd) (F_c8_1 cm ga gb gd)) : B_c8 cm ga gb gd K0  := by
 unfold B_c8 P_c8 F_c8_0 F_c8_1 at *
 simp only [Ts_iff, true_and]; try simp only [Ts_iff, true_and] at h
 repeat' first | exact hK | refine ⟨rfl, ?_⟩ | refine ⟨trivial, ?_⟩ | refine ⟨by decide, ?_⟩ | (refine ⟨h.1, ?_⟩; replace h := h.2) | refine ⟨h, ?_⟩
def B_cf (cm ga gb gd : Int) (K0 : Int -> Prop)  : Prop := Ts 3 (((0 <= (1 : Int) /\ (1 : Int) < ((2 : Nat) : Int)) /\ Ts 1 (((0 <= (1 : Int) /\ (1 : Int) < ((2 : Nat) : Int)) /\ Ts 1 (((P_bt ga gd) /\ ((0 <= (0 : Int) /\ (0 : Int) < ((2 : Nat) : Int)) /\ Ts 1 (((0 <= (0 : Int) /\ (0 : Int) < ((2 : Nat) : Int)) /\ Ts 1 (((P_bt cm gb) /\ Ts 1 (((P_bv 2 (pushF 1 (fun _ => (F_bt_0 ga gd)) (F_bt_0 cm gb))) /\ Ts 1 ((true = true /\ K0 (F_bv_0 2 (pushF 1 (fun _ => (F_bt_0 ga gd)) (F_bt_0 cm gb))))))))))))))))))
def P_cf (cm ga gb gd : Int) : Prop := (P_bv 2 (pushF 1 (fun _ => (F_bt_0 ga gd)) (F_bt_0 cm gb)))
def F_cf_0 (cm ga gb gd : Int) : Int := (F_bv_0 2 (pushF 1 (fun _ => (F_bt_0 ga gd)) (F_bt_0 cm gb)))
theorem H_cf (cm ga gb gd : Int) {K0 : Int -> Prop} (h : P_cf cm ga gb gd) (hK : K0 (F_cf_0 cm ga gb gd)) : B_cf cm ga gb gd K0  := by
 unfold B_cf P_cf F_cf_0 at *
 simp only [Ts_iff, true_and]; try simp only [Ts_iff, true_and] at h
 repeat' first | exact hK | refine ⟨rfl, ?_⟩ | refine ⟨trivial, ?_⟩ | refine ⟨by decide, ?_⟩ | (refine ⟨h.1, ?_⟩; replace h := h.2) | refine ⟨h, ?_⟩
def B_bm (cm : Bool) (ge gg : Int) (gb : Bool) (g8 g9 : Int) (K0 : Bool -> Int -> Int -> Prop)  : Prop := Ts 8 (cond (beqB cm gb) (Ts 1 (((0 <= (0 : Int) /\ (0 : Int) < ((2 : Nat) : Int)) /\ Ts 2 (((0 <= (0 : Int) /\ (0 : Int) < ((2 : Nat) : Int)) /\ Ts 1 (((P_mb_Add64 ge g8 0) /\ Ts 6 (((0 <= (1 : Int) /\ (1 : Int) < ((2 : Nat) : Int)) /\ Ts 2 (((0 <= (1 : Int) /\ (1 : Int) < ((2 : Nat) : Int)) /\ Ts 2 (((P_mb_Add64 gg g9 (F_mb_Add64_1 ge g8 0)) /\ Ts 13 (K0 cm (F_mb_Add64_0 ge g8 0) (F_mb_Add64_0 gg g9 (F_mb_Add64_1 ge g8 0)))))))))))))))) (Ts 4 (((P_cf ge gg g8 g9) /\ Ts 1 (cond (ilt (F_cf_0 ge gg g8 g9) 0) (Ts 5 (((0 <= (0 : Int) /\ (0 : Int) < ((2 : Nat) : Int)) /\ Ts 2 (((0 <= (0 : Int) /\ (0 : Int) < ((2 : Nat) : Int)) /\ Ts 1 (((P_mb_Sub64 g8 ge 0) /\ Ts 6 (((0 <= (1 : Int) /\ (1 : Int) < ((2 : Nat) : Int)) /\ Ts 2 (((0 <= (1 : Int) /\ (1 : Int) < ((2 : Nat) : Int)) /\ Ts 2 (((P_mb_Sub64 g9 gg (F_mb_Sub64_1 g8 ge 0)) /\ Ts 13 (K0 gb (F_mb_Sub64_0 g8 ge 0) (F_mb_Sub64_0 g9 gg (F_mb_Sub64_1 g8 ge 0)))))))))))))))) (Ts 1 (((0 <= (0 : Int) /\ (0 : Int) < ((2 : Nat) : Int)) /\ Ts 2 (((0 <= (0 : Int) /\ (0 : Int) < ((2 : Nat) : Int)) /\ Ts 1 (((P_mb_Sub64 ge g8 0) /\ Ts 6 (((0 <= (1 : Int) /\ (1 : Int) < ((2 : Nat) : Int)) /\ Ts 2 (((0 <= (1 : Int) /\ (1 : Int) < ((2 : Nat) : Int)) /\ Ts 2 (((P_mb_Sub64 gg g9 (F_mb_Sub64_1 ge g8 0)) /\ Ts 13 (K0 cm (F_mb_Sub64_0 ge g8 0) (F_mb_Sub64_0 gg g9 (F_mb_Sub64_1 ge g8 0)))))))))))))))))))))
def P_bm (cm : Bool) (ge gg : Int) (gb : Bool) (g8 g9 : Int) : Prop := (cond (beqB cm gb) ((P_mb_Add64 ge g8 0) /\ (P_mb_Add64 gg g9 (F_mb_Add64_1 ge g8 0))) ((P_cf ge gg g8 g9) /\ (cond (ilt (F_cf_0 ge gg g8 g9) 0) ((P_mb_Sub64 g8 ge 0) /\ (P_mb_Sub64 g9 gg (F_mb_Sub64_1 g8 ge 0))) ((P_mb_Sub64 ge g8 0) /\ (P_mb_Sub64 gg g9 (F_mb_Sub64_1 ge g8 0))))))
def F_bm_0 (cm : Bool) (ge gg : Int) (gb : Bool) (g8 g9 : Int) : Bool := (cond (beqB cm gb) cm (cond (ilt (F_cf_0 ge gg g8 g9) 0) gb cm))
def F_bm_1 (cm : Bool) (ge gg : Int) (gb : Bool) (g8 g9 : Int) : Int := (cond (beqB cm gb) (F_mb_Add64_0 ge g8 0) (cond (ilt (F_cf_0 ge gg g8 g9) 0) (F_mb_Sub64_0 g8 ge 0) (F_mb_Sub64_0 ge g8 0)))
def F_bm_2 (cm : Bool) (ge gg : Int) (gb : Bool) (g8 g9 : Int) : Int := (cond (beqB cm gb) (F_mb_Add64_0 gg g9 (F_mb_Add64_1 ge g8 0)) (cond (ilt (F_cf_0 ge gg g8 g9) 0) (F_mb_Sub64_0 g9 gg (F_mb_Sub64_1 g8 ge 0)) (F_mb_Sub64_0 gg g9 (F_mb_Sub64_1 ge g8 0))))
theorem H_bm (cm : Bool) (ge gg : Int) (gb : Bool) (g8 g9 : Int) {K0 : Bool -> Int -> Int -> Prop} (h : P_bm cm ge gg gb g8 g9) (hK : K0 (F_bm_0 cm ge gg gb g8 g9) (F_bm_1 cm ge gg gb g8 g9) (F_bm_2 cm ge gg gb g8 g9)) : B_bm cm ge gg gb g8 g9 K0  := by
 unfold B_bm P_bm F_bm_0 F_bm_1 F_bm_2 at *
 simp only [Ts_iff, true_and]; try simp only [Ts_iff, true_and] at h
 repeat' first | exact hK | (refine cond_intro (fun c => ?_) (fun c => ?_) <;> try simp only [c, cond_true, cond_false] at h hK ⊢) | refine ⟨rfl, ?_⟩ | refine ⟨trivial, ?_⟩ | refine ⟨by decide, ?_⟩ | (refine ⟨h.1, ?_⟩; replace h := h.2) | refine ⟨h, ?_⟩
theorem sound_0 (v : Int) (f : Bool) : F_av_0 v f = whole v := whole_eq v f
theorem sound_1 (v : Int) (f : Bool) : F_av_1 v f = F_aq_1 v f := rfl
theorem inegU (a : Int) : ineg .u64 a = (-a) % 18446744073709551616 := by
  rw [ineg_eq]
  show IntKind.u64.wrap (0 - a) = _
  rw [wrapU, Int.zero_sub]
theorem bf_ok {v : Int} (hv : Num' v) : F_bf_0 v = ilt v 0 /\ F_bf_1 v = max v (-v) /\ F_bf_2 v = 0 /\ VW (F_bf_0 v) (F_bf_2 v) (F_bf_1 v) = v := by
  obtain ⟨h1, h2⟩ := hv
  have e0 : F_bf_0 v = ilt v 0 := by unfold F_bf_0; cases ilt v 0 <;> rfl
  have e1 : F_bf_1 v = max v (-v) := by
    unfold F_bf_1
    by_cases h : v < 0
    · rw [ilt_t.2 h, cond_true, inegU, iconvU]; omega
    · rw [ilt_f.2 (by omega), cond_false, iconvU]; omega
  refine ⟨e0, e1, rfl, ?_⟩
  rw [e0, e1]
  show VW (ilt v 0) 0 (max v (-v)) = v
  by_cases h : v < 0
  · rw [ilt_t.2 h, VW_t]; omega
  · rw [ilt_f.2 (by omega), VW_f]; omega
theorem ao_ok {a b : Int} (ha : Num' a) (hb : Num' b) : U64 (F_ao_1 a b) /\ U64 (F_ao_2 a b) /\ VW (F_ao_0 a b) (F_ao_2 a b) (F_ao_1 a b) = a * b /\ F_ao_2 a b < 4611686018427387904 := by
  obtain ⟨a0, a1, a2, a3⟩ := bf_ok ha
  obtain ⟨b0, b1, b2, b3⟩ := bf_ok hb
  have ua : U64 (max a (-a)) := by obtain ⟨_, _⟩ := ha; exact ⟨by omega, by omega⟩
  have ub : U64 (max b (-b)) := by obtain ⟨_, _⟩ := hb; exact ⟨by omega, by omega⟩
  have e2 : F_ao_2 a b = max (a * b) (-(a * b)) / 18446744073709551616 := by
    unfold F_ao_2
    rw [a1, b1, Mul64_hi ua ub, abs_mul']
  have e1 : F_ao_1 a b = max (a * b) (-(a * b)) % 18446744073709551616 := by
    unfold F_ao_1
    rw [a1, b1, Mul64_lo, abs_mul']
  have hle : max (a * b) (-(a * b)) <= 9223372036854775807 * 9223372036854775807 := by
    rw [abs_mul']
    obtain ⟨_, _⟩ := ha
    obtain ⟨_, _⟩ := hb
    exact Int.mul_le_mul (by omega) (by omega) (by omega) (by omega)
  have e0 : F_ao_0 a b = !(beqB (ilt a 0) (ilt b 0)) := by unfold F_ao_0; rw [a0, b0]
  rw [e0, e1, e2]
  have hv : ∀ z : Int, z / 18446744073709551616 * 18446744073709551616 + z % 18446744073709551616 = z := fun z => by omega
  refine ⟨⟨by omega, by omega⟩, ⟨by omega, by omega⟩, ?_, by omega⟩
  unfold VW
  rw [hv]
  by_cases h1 : a < 0 <;> by_cases h2 : b < 0
  · rw [ilt_t.2 h1, ilt_t.2 h2, beqB_eq]
    have := Int.mul_pos_of_neg_of_neg h1 h2
    show max (a * b) (-(a * b)) = a * b
    omega
  · rw [ilt_t.2 h1, ilt_f.2 (by omega), beqB_eq]
    have := Int.mul_nonpos_of_nonpos_of_nonneg (show a <= 0 by omega) (show 0 <= b by omega)
    show -(max (a * b) (-(a * b))) = a * b
    omega
  · rw [ilt_f.2 (by omega), ilt_t.2 h2, beqB_eq]
    have := Int.mul_nonpos_of_nonneg_of_nonpos (show 0 <= a by omega) (show b <= 0 by omega)
    show -(max (a * b) (-(a * b))) = a * b
    omega
  · rw [ilt_f.2 (by omega), ilt_f.2 (by omega), beqB_eq]
    have := Int.mul_nonneg (show 0 <= a by omega) (show 0 <= b by omega)
    show max (a * b) (-(a * b)) = a * b
    omega
theorem cmpU (a b : Int) : F_bt_0 a b = if a < b then -1 else if b < a then 1 else 0 := by
  unfold F_bt_0 F_cr_0
  rw [ine_f.2 (rfl : a = a), ine_f.2 (rfl : b = b)]
  simp only [cond_false]
  by_cases h : a < b
  · rw [ilt_t.2 h, cond_true, if_pos h]
  · rw [ilt_f.2 (by omega), cond_false, if_neg h]
    by_cases g : b < a
    · rw [igt_t.2 g, cond_true, if_pos g]
    · rw [igt_f.2 (by omega), cond_false, if_neg g]
theorem fx_compare {al ah bl bh : Int} (h1 : U64 al) (h2 : U64 bl) : ilt (F_cf_0 al ah bl bh) 0 = true ↔ ah * 18446744073709551616 + al < bh * 18446744073709551616 + bl := by
  obtain ⟨_, _⟩ := h1
  obtain ⟨_, _⟩ := h2
  unfold F_cf_0 F_bv_0
  have e : orN (pushF 1 (fun _ => F_bt_0 ah bh) (F_bt_0 al bl)) 2 = if F_bt_0 ah bh = 0 then F_bt_0 al bl else F_bt_0 ah bh := by
    show (if (if (0 : Int) = 0 then F_bt_0 ah bh else 0) = 0 then F_bt_0 al bl else (if (0 : Int) = 0 then F_bt_0 ah bh else 0)) = _
    rw [if_pos rfl]
  rw [e, ilt_t, cmpU, cmpU]
  split <;> split <;> (try split) <;> (try split) <;> omega
theorem fx_plus_ok {a : Bool} {ah al : Int} {b : Bool} {bh bl : Int} (h1 : U64 al) (h2 : U64 ah) (h3 : U64 bl) (h4 : U64 bh) (ha : ah < 9223372036854775808) (hb : bh < 9223372036854775808) :
    P_bm a al ah b bl bh /\ U64 (F_bm_1 a al ah b bl bh) /\ U64 (F_bm_2 a al ah b bl bh) /\ VW (F_bm_0 a al ah b bl bh) (F_bm_2 a al ah b bl bh) (F_bm_1 a al ah b bl bh) = VW a ah al + VW b bh bl := by
  have hc := fx_compare (ah := ah) (bh := bh) h1 h3
  obtain ⟨a1, a2⟩ := h1
  obtain ⟨a3, a4⟩ := h2
  obtain ⟨b1, b2⟩ := h3
  obtain ⟨b3, b4⟩ := h4
  have sub : ∀ {xl xh yl yh : Int}, U64 xl -> U64 xh -> U64 yl -> U64 yh -> (yh * 18446744073709551616 + yl <= xh * 18446744073709551616 + xl) -> P_mb_Sub64 xl yl 0 /\ P_mb_Sub64 xh yh (F_mb_Sub64_1 xl yl 0) /\ U64 (F_mb_Sub64_0 xl yl 0) /\ U64 (F_mb_Sub64_0 xh yh (F_mb_Sub64_1 xl yl 0)) /\ F_mb_Sub64_0 xh yh (F_mb_Sub64_1 xl yl 0) * 18446744073709551616 + F_mb_Sub64_0 xl yl 0 = xh * 18446744073709551616 + xl - (yh * 18446744073709551616 + yl) := by
    intro xl xh yl yh ⟨_, _⟩ ⟨_, _⟩ ⟨_, _⟩ ⟨_, _⟩ hle
    refine ⟨⟨by omega, by omega, by omega, by omega⟩, ⟨by omega, by omega, by omega, ?_, ?_⟩, ?_, ?_, ?_⟩
    · unfold F_mb_Sub64_1; split <;> omega
    · unfold F_mb_Sub64_1; split <;> omega
    · unfold F_mb_Sub64_0; exact ⟨by omega, by omega⟩
    · unfold F_mb_Sub64_0; exact ⟨by omega, by omega⟩
    · unfold F_mb_Sub64_0 F_mb_Sub64_1; split <;> omega
  unfold P_bm F_bm_0 F_bm_1 F_bm_2
  cases hs : beqB a b with
  | true =>
    have : a = b := by rw [beqB_eq] at hs; exact eq_of_beq hs
    subst this
    simp only [cond_true]
    have u1 : U64 (F_mb_Add64_0 al bl 0) := by unfold F_mb_Add64_0; exact ⟨by omega, by omega⟩
    have u2 : U64 (F_mb_Add64_0 ah bh (F_mb_Add64_1 al bl 0)) := by unfold F_mb_Add64_0; exact ⟨by omega, by omega⟩
    refine ⟨⟨⟨a1, b1, by omega, by omega⟩, ⟨a3, b3, ?_, ?_⟩⟩, u1, u2, ?_⟩
    · unfold F_mb_Add64_1; omega
    · unfold F_mb_Add64_1; omega
    · unfold F_mb_Add64_0 F_mb_Add64_1
      cases a
      · rw [VW_f, VW_f, VW_f]; omega
      · rw [VW_t, VW_t, VW_t]; omega
  | false =>
    have hne : a ≠ b := fun h => by subst h; rw [beqB_eq] at hs; simp at hs
    simp only [cond_false]
    cases hl : ilt (F_cf_0 al ah bl bh) 0 with
    | true =>
      obtain ⟨p1, p2, u1, u2, e⟩ := sub (xl := bl) (xh := bh) (yl := al) (yh := ah) ⟨b1, b2⟩ ⟨b3, b4⟩ ⟨a1, a2⟩ ⟨a3, a4⟩ (by have := hc.1 hl; omega)
      simp only [cond_true]
      refine ⟨⟨(by show 2 <= 1000000; decide), p1, p2⟩, u1, u2, ?_⟩
      cases a <;> cases b <;> first | exact absurd rfl hne | (simp only [VW_t, VW_f]; omega)
    | false =>
      obtain ⟨p1, p2, u1, u2, e⟩ := sub (xl := al) (xh := ah) (yl := bl) (yh := bh) ⟨a1, a2⟩ ⟨a3, a4⟩ ⟨b1, b2⟩ ⟨b3, b4⟩ (by
        rcases ilt_or_ge (ah * 18446744073709551616 + al) (bh * 18446744073709551616 + bl) with h | h
        · rw [hc.2 h] at hl; cases hl
        · exact h)
      simp only [cond_false]
      refine ⟨⟨(by show 2 <= 1000000; decide), p1, p2⟩, u1, u2, ?_⟩
      cases a <;> cases b <;> first | exact absurd rfl hne | (simp only [VW_t, VW_f]; omega)
theorem fx_down_ok {neg : Bool} {lo hi : Int} (h1 : U64 lo) (h2 : U64 hi) : U64 (F_cb_1 neg lo hi) /\ U64 (F_cb_2 neg lo hi) /\ VW (F_cb_0 neg lo hi) (F_cb_2 neg lo hi) (F_cb_1 neg lo hi) = tq (VW neg hi lo) := by
  obtain ⟨g1, g2, g3⟩ := down_ok (neg := neg) h2 h1
  refine ⟨g2, g1, ?_⟩
  show VW neg (F_el_1 neg hi lo) (F_el_2 neg hi lo) = _
  obtain ⟨_, _⟩ := h1
  obtain ⟨_, _⟩ := h2
  cases neg
  · rw [VW_f, VW_f, g3]
    unfold tq
    rw [if_neg (by omega)]
  · rw [VW_t, VW_t, g3]
    unfold tq
    by_cases h : -(hi * 18446744073709551616 + lo) < 0
    · rw [if_pos h, Int.neg_neg]
    · rw [if_neg h]; omega
theorem fx_up_ok {neg : Bool} {lo hi : Int} (h1 : U64 lo) (h2 : 0 <= hi /\ hi < 4294967296) : U64 (F_bk_1 neg lo hi) /\ U64 (F_bk_2 neg lo hi) /\ F_bk_2 neg lo hi * 18446744073709551616 + F_bk_1 neg lo hi = (hi * 18446744073709551616 + lo) * 4294967296 := by
  obtain ⟨g1, g2, g3⟩ := up_ok (neg := neg) h2 h1
  exact ⟨g2, g1, g3⟩
theorem fx_fit_ok {neg : Bool} {lo hi : Int} (h1 : U64 lo) (h2 : U64 hi) (f : Bool) : F_br_0 neg lo hi f = satN (VW neg hi lo) /\ F_br_1 neg lo hi f = (f || satB (VW neg hi lo)) := by
  obtain ⟨g1, g2⟩ := fit_ok (neg := neg) h2 h1 f
  rw [← g1, ← g2]
  unfold F_br_0 F_br_1 F_d7_0 F_d7_1
  by_cases h : hi = 0
  · rw [ieq_t.2 h, ine_f.2 h]
    simp only [cond_true, cond_false]
    by_cases g : lo <= 9223372036854775807
    · rw [ile_t.2 g, igt_f.2 g]; exact ⟨rfl, rfl⟩
    · rw [ile_f.2 (by omega), igt_t.2 (by omega)]; exact ⟨rfl, rfl⟩
  · rw [ieq_f.2 h, ine_t.2 h]; exact ⟨rfl, rfl⟩
theorem fxInt_ok {v : Int} (hv : Num' v) : P_et v /\ F_et_0 v = satN (v * 4294967296) /\ F_et_1 v = satB (v * 4294967296) := by
  unfold F_et_0 F_et_1
  obtain ⟨e0, e1, e2, e3⟩ := bf_ok hv
  have u1 : U64 (F_bf_1 v) := by rw [e1]; obtain ⟨_, _⟩ := hv; exact ⟨by omega, by omega⟩
  obtain ⟨g1, g2, g3⟩ := fx_up_ok (neg := F_bf_0 v) u1 (hi := F_bf_2 v) (by rw [e2]; omega)
  obtain ⟨f1, f2⟩ := fx_fit_ok (neg := F_bk_0 (F_bf_0 v) (F_bf_1 v) (F_bf_2 v)) g1 g2 false
  have hv : VW (F_bk_0 (F_bf_0 v) (F_bf_1 v) (F_bf_2 v)) (F_bk_2 (F_bf_0 v) (F_bf_1 v) (F_bf_2 v)) (F_bk_1 (F_bf_0 v) (F_bf_1 v) (F_bf_2 v)) = v * 4294967296 := by
    have h0 : F_bk_0 (F_bf_0 v) (F_bf_1 v) (F_bf_2 v) = F_bf_0 v := rfl
    unfold VW at e3 ⊢
    rw [g3, h0]
    cases hh : F_bf_0 v <;> rw [hh] at e3
    · rw [sg_f] at e3 ⊢; omega
    · rw [sg_t] at e3 ⊢; omega
  rw [hv] at f1 f2
  rw [f1, f2, Bool.false_or]
  exact ⟨trivial, rfl, rfl⟩
theorem fxMul_ok {v w : Int} {f g : Bool} (hv : Num' v) (hw : Num' w) : P_c8 v f w g /\ F_c8_0 v f w g = satN (tq (v * w)) /\ F_c8_1 v f w g = (f || g || satB (tq (v * w))) := by
  unfold P_c8 F_c8_0 F_c8_1
  simp only [E_c8_0, E_c8_1, E_c8_2, E_c8_3, E_c8_4, E_c8_5, E_c8_6, E_c8_7, E_c8_8]
  simp only [sound_0, sound_1, whole_id hv, whole_id hw, wholeF_id hv, wholeF_id hw, flags2]
  obtain ⟨h1, h2, h3, h4⟩ := ao_ok hv hw
  obtain ⟨d1, d2, d3⟩ := fx_down_ok (neg := F_ao_0 v w) h1 h2
  rw [h3] at d3
  obtain ⟨e1, e2⟩ := fx_fit_ok (neg := F_cb_0 (F_ao_0 v w) (F_ao_1 v w) (F_ao_2 v w)) d1 d2 (f || g)
  rw [d3] at e1 e2
  exact ⟨(by show 2 <= 1000000; decide), e1, e2⟩
def B_cp_0 (gp : Nat) (cm : Nat -> Int) (ga : Nat -> Bool) (il : Int) (iv : Bool) (iw iy : Int) (c x0 : Int -> Bool -> Int -> Int -> Prop)  : Prop := Ts 1 (cond (ilt il (((F_az_0 gp cm ga) : Nat) : Int)) (((0 <= il /\ il < (((F_az_0 gp cm ga) : Nat) : Int)) /\ Ts 4 (((P_bf ((F_az_1 gp cm ga) (Int.toNat il))) /\ ((P_bm iv iw iy (F_bf_0 ((F_az_1 gp cm ga) (Int.toNat il))) (F_bf_1 ((F_az_1 gp cm ga) (Int.toNat il))) (F_bf_2 ((F_az_1 gp cm ga) (Int.toNat il)))) /\ Ts 1 ((true = true /\ Ts 2 (c (iadd .i64 il 1) (F_bm_0 iv iw iy (F_bf_0 ((F_az_1 gp cm ga) (Int.toNat il))) (F_bf_1 ((F_az_1 gp cm ga) (Int.toNat il))) (F_bf_2 ((F_az_1 gp cm ga) (Int.toNat il)))) (F_bm_1 iv iw iy (F_bf_0 ((F_az_1 gp cm ga) (Int.toNat il))) (F_bf_1 ((F_az_1 gp cm ga) (Int.toNat il))) (F_bf_2 ((F_az_1 gp cm ga) (Int.toNat il)))) (F_bm_2 iv iw iy (F_bf_0 ((F_az_1 gp cm ga) (Int.toNat il))) (F_bf_1 ((F_az_1 gp cm ga) (Int.toNat il))) (F_bf_2 ((F_az_1 gp cm ga) (Int.toNat il)))))))))))) (x0 il iv iw iy))
def W_cp_0 (gp : Nat) (cm : Nat -> Int) (ga : Nat -> Bool) : Nat -> Int -> Bool -> Int -> Int -> (Int -> Bool -> Int -> Int -> Prop) -> Prop
  | 0, _, _, _, _, _ => False
  | f + 1, w0, w1, w2, w3, x0 => B_cp_0 gp cm ga w0 w1 w2 w3 (fun u0 u1 u2 u3 => W_cp_0 gp cm ga f u0 u1 u2 u3 x0) x0 
theorem BM_cp_0 (gp : Nat) (cm : Nat -> Int) (ga : Nat -> Bool) (il : Int) (iv : Bool) (iw iy : Int) {c c' : Int -> Bool -> Int -> Int -> Prop} {x0 y0 : Int -> Bool -> Int -> Int -> Prop} (hc : ∀ w0 w1 w2 w3, c w0 w1 w2 w3 -> c' w0 w1 w2 w3) (h0 : ∀ o0 o1 o2 o3, x0 o0 o1 o2 o3 -> y0 o0 o1 o2 o3) : B_cp_0 gp cm ga il iv iw iy c x0  -> B_cp_0 gp cm ga il iv iw iy c' y0  := by
  unfold B_cp_0
  repeat' first
    | exact hc _ _ _ _
    | exact h0 _ _ _ _
    | refine Ts_imp ?_
    | refine cond_imp ?_ ?_
    | refine and_imp' ?_
theorem WM_cp_0 (gp : Nat) (cm : Nat -> Int) (ga : Nat -> Bool) {x0 y0 : Int -> Bool -> Int -> Int -> Prop} (h0 : ∀ o0 o1 o2 o3, x0 o0 o1 o2 o3 -> y0 o0 o1 o2 o3) : ∀ (f : Nat) (il : Int) (iv : Bool) (iw iy : Int), W_cp_0 gp cm ga f il iv iw iy x0 -> W_cp_0 gp cm ga f il iv iw iy y0
  | 0, w0, w1, w2, w3 => fun h => h
  | f + 1, w0, w1, w2, w3 => BM_cp_0 gp cm ga w0 w1 w2 w3 (fun u0 u1 u2 u3 => WM_cp_0 gp cm ga h0 f u0 u1 u2 u3) h0
def B_cp (gp : Nat) (cm : Nat -> Int) (ga : Nat -> Bool) (K0 : Int -> Bool -> Prop) (l0 : Int -> Bool -> Int -> Int -> (Int -> Bool -> Int -> Int -> Prop) -> Prop) : Prop := Ts 2 (((P_az gp cm ga) /\ Ts 9 ((l0 0 false 0 0 (fun kl km kn ko => Ts 2 (((P_br km kn ko (F_az_2 gp cm ga)) /\ Ts 2 (K0 (F_br_0 km kn ko (F_az_2 gp cm ga)) (F_br_1 km kn ko (F_az_2 gp cm ga))))))))))
def P_cp (n : Nat) (x : Nat -> Int) (y : Nat -> Bool) : Prop := n <= 1000000 /\ ∀ k, k < n -> I64' (x k)
def F_cp_0 (n : Nat) (x : Nat -> Int) (y : Nat -> Bool) : Int := satN (sumN x n)
def F_cp_1 (n : Nat) (x : Nat -> Int) (y : Nat -> Bool) : Bool := F_bd_0 n x y || satB (sumN x n)
theorem VW_small {neg : Bool} {hi lo : Int} (h1 : U64 hi) (h2 : U64 lo) {m : Int} (hm : 0 <= m) (hv : -(m * 18446744073709551616) <= VW neg hi lo /\ VW neg hi lo <= m * 18446744073709551616) : hi <= m := by
  obtain ⟨a1, a2⟩ := h1
  obtain ⟨b1, b2⟩ := h2
  cases neg
  · rw [VW_f] at hv; omega
  · rw [VW_t] at hv; omega
theorem W_cp_ok {n : Nat} {x : Nat -> Int} {y : Nat -> Bool} (hp : P_cp n x y) {x0 : Int -> Bool -> Int -> Int -> Prop} (h3 : ∀ v neg lo hi, U64 lo -> U64 hi -> VW neg hi lo = sumN x n -> x0 v neg lo hi) : ∀ (f i : Nat) (neg : Bool) (lo hi : Int), i <= n -> n < f + i -> U64 lo -> U64 hi -> VW neg hi lo = sumN x i -> W_cp_0 n x y f i neg lo hi x0
  | 0, i, _, _, _, h1, h2, _, _, _ => by omega
  | f + 1, i, neg, lo, hi, h1, h2, ul, uh, hv => by
    show B_cp_0 n x y i _ _ _ _ _
    unfold B_cp_0
    simp only [Ts_iff, true_and, Int.toNat_natCast]
    refine cond_intro (fun hc => ?_) (fun hc => ?_)
    · rw [ilt_t] at hc
      have hin : i < n := by have : ((F_az_0 n x y : Nat) : Int) = (n : Int) := rfl; omega
      have hn := hp.1
      have hb := sumN_le hp.2 (n := i) (by omega)
      have hs : hi <= 1000000 := VW_small uh ul (by omega) (by rw [hv]; omega)
      have hw := whole_num (hp.2 i hin)
      have ev : F_az_1 n x y i = whole (x i) := (valF_at hin).trans (sound_0 _ _)
      rw [ev]
      obtain ⟨e0, e1, e2, e3⟩ := bf_ok hw
      have u1 : U64 (F_bf_1 (whole (x i))) := by rw [e1]; obtain ⟨_, _⟩ := hw; exact ⟨by omega, by omega⟩
      have u2 : U64 (F_bf_2 (whole (x i))) := by rw [e2]; exact ⟨by omega, by omega⟩
      obtain ⟨p, q1, q2, q3⟩ := fx_plus_ok (a := neg) (b := F_bf_0 (whole (x i))) ul uh u1 u2 (by omega) (by rw [e2]; omega)
      refine ⟨⟨by omega, hc⟩, trivial, p, ?_⟩
      rw [iadd64 (by omega) (by omega)]
      exact W_cp_ok hp h3 f (i + 1) _ _ _ (by omega) (by omega) q1 q2 (by rw [q3, hv, e3]; rfl)
    · rw [ilt_f] at hc
      have : i = n := by have : ((F_az_0 n x y : Nat) : Int) = (n : Int) := rfl; omega
      subst this
      exact h3 _ _ _ _ ul uh hv
theorem H_cp (gp : Nat) (cm : Nat -> Int) (ga : Nat -> Bool) {K0 : Int -> Bool -> Prop} (h : P_cp gp cm ga) (hK : K0 (F_cp_0 gp cm ga) (F_cp_1 gp cm ga)) : B_cp gp cm ga K0 (W_cp_0 gp cm ga fuel) := by
  unfold B_cp
  simp only [Ts_iff]
  refine ⟨h.1, W_cp_ok h (fun v neg lo hi ul uh hv => ?_) fuel 0 false 0 0 (Nat.zero_le _) (by rw [fuel_eq]; have := h.1; omega) ⟨by omega, by omega⟩ ⟨by omega, by omega⟩ rfl⟩
  obtain ⟨g1, g2⟩ := fx_fit_ok (neg := neg) ul uh (F_az_2 gp cm ga)
  rw [hv] at g1 g2
  refine ⟨trivial, ?_⟩
  rw [g1, g2]
  exact hK
def B_ed (cm : Int) (ga : Bool) (K0 : Int -> Bool -> Prop)  : Prop := Ts 3 (((P_av cm ga) /\ Ts 9 (K0 (ineg .i64 (F_av_0 cm ga)) (F_av_1 cm ga))))
def P_ed (cm : Int) (ga : Bool) : Prop := True
def F_ed_0 (cm : Int) (ga : Bool) : Int := (ineg .i64 (F_av_0 cm ga))
def F_ed_1 (cm : Int) (ga : Bool) : Bool := (F_av_1 cm ga)
theorem H_ed (cm : Int) (ga : Bool) {K0 : Int -> Bool -> Prop} (h : P_ed cm ga) (hK : K0 (F_ed_0 cm ga) (F_ed_1 cm ga)) : B_ed cm ga K0  := by
 unfold B_ed P_ed F_ed_0 F_ed_1 at *
 simp only [Ts_iff, true_and]
 repeat' first | exact hK | refine ⟨rfl, ?_⟩ | refine ⟨trivial, ?_⟩ | refine ⟨by decide, ?_⟩ | (refine ⟨h.1, ?_⟩; replace h := h.2) | refine ⟨h, ?_⟩
theorem fxNeg_ok {v : Int} {f : Bool} (hv : Num' v) : F_ed_0 v f = -v /\ F_ed_1 v f = f := by
  unfold F_ed_0 F_ed_1
  rw [sound_0, sound_1, whole_id hv, wholeF_id hv, ineg64 hv.1 hv.2]
  exact ⟨rfl, rfl⟩
theorem neg_num {v : Int} (hv : Num' v) : Num' (-v) := by obtain ⟨_, _⟩ := hv; exact ⟨by omega, by omega⟩
theorem num_i {v : Int} (hv : Num' v) : I64' v := by obtain ⟨_, _⟩ := hv; exact ⟨by omega, by omega⟩
theorem satN_num (v : Int) : Num' (satN v) := satN_range v
theorem digit64 {hi lo d : Int} (hd : 0 < d) (hl : U64 lo) : 0 <= ((hi - hi / d * d) * 18446744073709551616 + lo) / d /\ ((hi - hi / d * d) * 18446744073709551616 + lo) / d < 18446744073709551616 /\ hi / d * 18446744073709551616 + ((hi - hi / d * d) * 18446744073709551616 + lo) / d = (hi * 18446744073709551616 + lo) / d := by
  obtain ⟨l1, l2⟩ := hl
  obtain ⟨q1, q2⟩ := ediv_bounds (x := hi) (y := d) hd
  rw [Int.add_mul, Int.one_mul] at q2
  generalize hi / d = q at *
  obtain ⟨c1, c2⟩ := ediv_bounds (x := (hi - q * d) * 18446744073709551616 + lo) (y := d) hd
  rw [Int.add_mul, Int.one_mul] at c2
  refine ⟨Int.ediv_nonneg (by omega) (by omega), Int.ediv_lt_of_lt_mul hd (by omega), ?_⟩
  symm
  refine ediv_unique hd ?_ ?_
  · rw [Int.add_mul, Int.mul_right_comm]; omega
  · rw [Int.add_mul, Int.add_mul, Int.one_mul, Int.mul_right_comm]; omega
theorem fxRatio_ok {a b : Int} (ha : Num' a) (hb : Num' b) (h0 : b ≠ 0) : P_cn a b /\ F_cn_0 a b = satN (dq a b) /\ F_cn_1 a b = satB (dq a b) := by
  unfold P_cn F_cn_0 F_cn_1
  rw [ieq_f.2 h0]
  simp only [cond_false]
  obtain ⟨a0, a1, a2, a3⟩ := bf_ok ha
  obtain ⟨b0, b1, b2, b3⟩ := bf_ok hb
  have u1 : U64 (F_bf_1 a) := by rw [a1]; obtain ⟨_, _⟩ := ha; exact ⟨by omega, by omega⟩
  have d0 : 1 <= F_bf_1 b /\ F_bf_1 b < 9223372036854775808 := by rw [b1]; obtain ⟨_, _⟩ := hb; omega
  obtain ⟨g1, g2, g3⟩ := fx_up_ok (neg := F_bf_0 a) u1 (hi := F_bf_2 a) (by rw [a2]; omega)
  have e0 : F_bk_0 (F_bf_0 a) (F_bf_1 a) (F_bf_2 a) = F_bf_0 a := rfl
  rw [e0]
  have hd : dq a b = sg (!(beqB (ilt a 0) (ilt b 0))) (F_bf_1 a * 4294967296 / F_bf_1 b) := by unfold dq; rw [a1, b1]
  have hz : F_bf_2 a * 18446744073709551616 + F_bf_1 a = F_bf_1 a := by rw [a2]; omega
  rw [hz] at g3
  rw [hd, ← a0, ← b0]
  generalize F_bk_1 (F_bf_0 a) (F_bf_1 a) (F_bf_2 a) = lo at *
  generalize F_bk_2 (F_bf_0 a) (F_bf_1 a) (F_bf_2 a) = hi at *
  generalize F_bf_1 b = d at *
  generalize F_bf_1 a * 4294967296 = N at *
  obtain ⟨l1, l2⟩ := g1
  obtain ⟨r1, r2⟩ := g2
  obtain ⟨q1, q2⟩ := ediv_bounds (x := hi) (y := d) (by omega)
  have q0 := Int.ediv_nonneg r1 (show 0 <= d by omega)
  have ql := Int.ediv_le_self d r1
  rw [iremU r1, iquoU ⟨r1, r2⟩ (by omega)]
  rw [Int.add_mul, Int.one_mul] at q2
  have hrem : 0 <= hi - hi / d * d /\ hi - hi / d * d < d := by omega
  have m0 := digit64 (hi := hi) (lo := lo) (d := d) (by omega) ⟨l1, l2⟩
  unfold F_a9_0
  obtain ⟨k1, k2, k3⟩ := m0
  rw [g3] at k3
  obtain ⟨f1, f2⟩ := fx_fit_ok (neg := !(beqB (F_bf_0 a) (F_bf_0 b))) (lo := ((hi - hi / d * d) * 18446744073709551616 + lo) / d) (hi := hi / d) ⟨k1, k2⟩ ⟨q0, by omega⟩ false
  have hv : ∀ neg, VW neg (hi / d) (((hi - hi / d * d) * 18446744073709551616 + lo) / d) = sg neg (N / d) := fun neg => by
    unfold VW
    rw [k3]
  rw [hv] at f1 f2
  refine ⟨⟨by omega, by omega, ⟨hrem.1, by omega⟩, ⟨l1, l2⟩, ⟨by omega, by omega⟩, hrem.2⟩, f1, ?_⟩
  rw [f2, Bool.false_or]
theorem sum2 {v w : Int} (hv : Num' v) (hw : Num' w) : sumN (pushF 1 (fun _ => v) w) 2 = v + w := by
  show 0 + whole v + whole w = v + w
  rw [whole_id hv, whole_id hw]; omega
theorem flagged2 {v w : Int} {f g : Bool} (hv : Num' v) (hw : Num' w) : F_bd_0 2 (pushF 1 (fun _ => v) w) (pushF 1 (fun _ => f) g) = (f || g) := by
  unfold F_bd_0
  rw [any2]
  show (F_aq_1 v f || F_aq_1 w g) = _
  rw [wholeF_id hv, wholeF_id hw]
theorem two_i {v w : Int} (hv : Num' v) (hw : Num' w) : ∀ k, k < 2 -> I64' (pushF 1 (fun _ => v) w k) := fun k hk => by
  have : k = 0 ∨ k = 1 := by omega
  rcases this with rfl | rfl
  · exact num_i hv
  · exact num_i hw
theorem fxSum2_ok {v w : Int} {f g : Bool} (hv : Num' v) (hw : Num' w) : P_cp 2 (pushF 1 (fun _ => v) w) (pushF 1 (fun _ => f) g) /\ F_cp_0 2 (pushF 1 (fun _ => v) w) (pushF 1 (fun _ => f) g) = satN (v + w) /\ F_cp_1 2 (pushF 1 (fun _ => v) w) (pushF 1 (fun _ => f) g) = (f || g || satB (v + w)) := by
  unfold F_cp_0 F_cp_1
  rw [sum2 hv hw, flagged2 hv hw]
  exact ⟨⟨by omega, two_i hv hw⟩, rfl, rfl⟩
theorem rSum2_ok {v w : Int} {f g : Bool} (hv : Num' v) (hw : Num' w) : P_cj 2 (pushF 1 (fun _ => v) w) (pushF 1 (fun _ => f) g) /\ F_cj_0 2 (pushF 1 (fun _ => v) w) (pushF 1 (fun _ => f) g) = satN (v + w) /\ F_cj_1 2 (pushF 1 (fun _ => v) w) (pushF 1 (fun _ => f) g) = (f || g || satB (v + w)) := by
  unfold F_cj_0 F_cj_1
  rw [sum2 hv hw, flagged2 hv hw]
  exact ⟨⟨by omega, two_i hv hw⟩, rfl, rfl⟩
theorem Int_pk {v : Int} (hv : Num' v) : P_et v /\ P_fp v /\ F_et_0 v = F_fp_0 v /\ F_et_1 v = F_fp_1 v /\ Num' (F_fp_0 v) := by
  obtain ⟨p1, e1, e2⟩ := fxInt_ok hv
  obtain ⟨g1, g2⟩ := Int_ok hv
  exact ⟨p1, trivial, by rw [e1, g1], by rw [e2, g2], by rw [g1]; exact satN_num _⟩
theorem Mul_pk {v w : Int} {f g : Bool} (hv : Num' v) (hw : Num' w) : P_c8 v f w g /\ P_ct v f w g /\ F_c8_0 v f w g = F_ct_0 v f w g /\ F_c8_1 v f w g = F_ct_1 v f w g /\ Num' (F_ct_0 v f w g) := by
  obtain ⟨p1, e1, e2⟩ := fxMul_ok (f := f) (g := g) hv hw
  obtain ⟨g1, g2⟩ := Mul_ok (f := f) (g := g) hv hw
  exact ⟨p1, trivial, by rw [e1, g1], by rw [e2, g2], by rw [g1]; exact satN_num _⟩
theorem Neg_pk {v : Int} {f : Bool} (hv : Num' v) : F_ed_0 v f = F_ep_0 v f /\ F_ed_1 v f = F_ep_1 v f /\ Num' (F_ep_0 v f) := by
  obtain ⟨e1, e2⟩ := fxNeg_ok (f := f) hv
  obtain ⟨g1, g2⟩ := Neg_ok (f := f) hv
  exact ⟨by rw [e1, g1], by rw [e2, g2], by rw [g1]; exact neg_num hv⟩
theorem Sub_ok {v w : Int} {f g : Bool} (hv : Num' v) (hw : Num' w) : P_fh v f w g /\ F_fh_0 v f w g = satN (v - w) /\ F_fh_1 v f w g = (f || g || satB (v - w)) := by
  unfold P_fh F_fh_0 F_fh_1
  rw [(Neg_ok hw).1, (Neg_ok hw).2]
  have := rSum2_ok (f := f) (g := g) hv (neg_num hw)
  rwa [← Int.sub_eq_add_neg] at this
def B_fi (cm : Int) (ga : Bool) (gb : Int) (gd : Bool) (K0 : Int -> Bool -> Prop)  : Prop := Ts 5 (((P_ed gb gd) /\ Ts 1 (((P_cp 2 (pushF 1 (fun _ => cm) (F_ed_0 gb gd)) (pushF 1 (fun _ => ga) (F_ed_1 gb gd))) /\ Ts 1 ((true = true /\ Ts 1 (K0 (F_cp_0 2 (pushF 1 (fun _ => cm) (F_ed_0 gb gd)) (pushF 1 (fun _ => ga) (F_ed_1 gb gd))) (F_cp_1 2 (pushF 1 (fun _ => cm) (F_ed_0 gb gd)) (pushF 1 (fun _ => ga) (F_ed_1 gb gd))))))))))
def P_fi (cm : Int) (ga : Bool) (gb : Int) (gd : Bool) : Prop := (P_cp 2 (pushF 1 (fun _ => cm) (F_ed_0 gb gd)) (pushF 1 (fun _ => ga) (F_ed_1 gb gd)))
def F_fi_0 (cm : Int) (ga : Bool) (gb : Int) (gd : Bool) : Int := (F_cp_0 2 (pushF 1 (fun _ => cm) (F_ed_0 gb gd)) (pushF 1 (fun _ => ga) (F_ed_1 gb gd)))
def F_fi_1 (cm : Int) (ga : Bool) (gb : Int) (gd : Bool) : Bool := (F_cp_1 2 (pushF 1 (fun _ => cm) (F_ed_0 gb gd)) (pushF 1 (fun _ => ga) (F_ed_1 gb gd)))
theorem H_fi (cm : Int) (ga : Bool) (gb : Int) (gd : Bool) {K0 : Int -> Bool -> Prop} (h : P_fi cm ga gb gd) (hK : K0 (F_fi_0 cm ga gb gd) (F_fi_1 cm ga gb gd)) : B_fi cm ga gb gd K0  := by
 unfold B_fi P_fi F_fi_0 F_fi_1 at *
 simp only [Ts_iff, true_and]; try simp only [Ts_iff, true_and] at h
 repeat' first | exact hK | refine ⟨rfl, ?_⟩ | refine ⟨trivial, ?_⟩ | refine ⟨by decide, ?_⟩ | (refine ⟨h.1, ?_⟩; replace h := h.2) | refine ⟨h, ?_⟩
theorem fxSub_ok {v w : Int} {f g : Bool} (hv : Num' v) (hw : Num' w) : P_fi v f w g /\ F_fi_0 v f w g = satN (v - w) /\ F_fi_1 v f w g = (f || g || satB (v - w)) := by
  unfold P_fi F_fi_0 F_fi_1
  rw [(fxNeg_ok hw).1, (fxNeg_ok hw).2]
  have := fxSum2_ok (f := f) (g := g) hv (neg_num hw)
  rwa [← Int.sub_eq_add_neg] at this
theorem Sub_pk {v w : Int} {f g : Bool} (hv : Num' v) (hw : Num' w) : P_fi v f w g /\ P_fh v f w g /\ F_fi_0 v f w g = F_fh_0 v f w g /\ F_fi_1 v f w g = F_fh_1 v f w g /\ Num' (F_fh_0 v f w g) := by
  obtain ⟨p1, e1, e2⟩ := fxSub_ok (f := f) (g := g) hv hw
  obtain ⟨p2, g1, g2⟩ := Sub_ok (f := f) (g := g) hv hw
  exact ⟨p1, p2, by rw [e1, g1], by rw [e2, g2], by rw [g1]; exact satN_num _⟩
def B_ax_0 (cm ga ia : Int) (c : Int -> Prop) (x0 : Int -> Int -> Prop)  : Prop := ((0 <= (1 : Int) /\ (1 : Int) < ((2 : Nat) : Int)) /\ Ts 3 (cond (ige ga ia) (Ts 2 (x0 ia ia)) (((0 <= (1 : Int) /\ (1 : Int) < ((2 : Nat) : Int)) /\ Ts 1 (((0 <= (0 : Int) /\ (0 : Int) < ((2 : Nat) : Int)) /\ Ts 2 (((P_a9 ga cm ia) /\ Ts 8 (cond (ige (F_a9_0 ga cm ia) ia) (Ts 2 (x0 ia ia)) (Ts 2 (((P_mb_Add64 ia (F_a9_0 ga cm ia) 0) /\ Ts 6 (((0 <= (1 : Int)) /\ Ts 1 (((0 <= (63 : Int)) /\ Ts 2 (c (ior .u64 (ishr .u64 (F_mb_Add64_0 ia (F_a9_0 ga cm ia) 0) 1) (ishl .u64 (F_mb_Add64_1 ia (F_a9_0 ga cm ia) 0) 63)))))))))))))))))))
def W_ax_0 (cm ga : Int) : Nat -> Int -> (Int -> Int -> Prop) -> Prop
  | 0, _, _ => False
  | f + 1, w0, x0 => B_ax_0 cm ga w0 (fun u0 => W_ax_0 cm ga f u0 x0) x0 
theorem BM_ax_0 (cm ga ia : Int) {c c' : Int -> Prop} {x0 y0 : Int -> Int -> Prop} (hc : ∀ w0, c w0 -> c' w0) (h0 : ∀ o0 o1, x0 o0 o1 -> y0 o0 o1) : B_ax_0 cm ga ia c x0  -> B_ax_0 cm ga ia c' y0  := by
  unfold B_ax_0
  repeat' first
    | exact hc _
    | exact h0 _ _
    | refine Ts_imp ?_
    | refine cond_imp ?_ ?_
    | refine and_imp' ?_
theorem WM_ax_0 (cm ga : Int) {x0 y0 : Int -> Int -> Prop} (h0 : ∀ o0 o1, x0 o0 o1 -> y0 o0 o1) : ∀ (f : Nat) (ia : Int), W_ax_0 cm ga f ia x0 -> W_ax_0 cm ga f ia y0
  | 0, w0 => fun h => h
  | f + 1, w0 => BM_ax_0 cm ga w0 (fun u0 => WM_ax_0 cm ga h0 f u0) h0
def B_ax (cm ga : Int) (K0 : Int -> Prop) (l0 : Int -> (Int -> Int -> Prop) -> Prop) : Prop := Ts 2 (((0 <= (1 : Int) /\ (1 : Int) < ((2 : Nat) : Int)) /\ Ts 3 (cond (ieq ga 0) (((0 <= (0 : Int) /\ (0 : Int) < ((2 : Nat) : Int)) /\ Ts 3 (cond (ieq cm 0) (Ts 1 (K0 0)) (((0 <= (0 : Int) /\ (0 : Int) < ((2 : Nat) : Int)) /\ Ts 1 (((P_d9 cm) /\ Ts 1 (((0 <= (1 : Int) /\ (1 : Int) < ((2 : Nat) : Int)) /\ Ts 2 (cond (ine ga 0) (((0 <= (1 : Int) /\ (1 : Int) < ((2 : Nat) : Int)) /\ Ts 1 (((P_d9 ga) /\ Ts 5 ((((2 : Int) ≠ 0) /\ Ts 3 (cond (ilt (iquo .i64 (iadd .i64 (iadd .i64 64 (F_d9_0 ga)) 1) 2) 64) (Ts 1 (((0 <= (iquo .i64 (iadd .i64 (iadd .i64 64 (F_d9_0 ga)) 1) 2)) /\ Ts 1 ((l0 (ishl .u64 1 (iquo .i64 (iadd .i64 (iadd .i64 64 (F_d9_0 ga)) 1) 2)) (fun i9 ke => K0 i9)))))) ((l0 18446744073709551615 (fun i9 ke => K0 i9)))))))))) (Ts 3 ((((2 : Int) ≠ 0) /\ Ts 3 (cond (ilt (iquo .i64 (iadd .i64 (F_d9_0 cm) 1) 2) 64) (Ts 1 (((0 <= (iquo .i64 (iadd .i64 (F_d9_0 cm) 1) 2)) /\ Ts 1 ((l0 (ishl .u64 1 (iquo .i64 (iadd .i64 (F_d9_0 cm) 1) 2)) (fun i9 ke => K0 i9)))))) ((l0 18446744073709551615 (fun i9 ke => K0 i9))))))))))))))))) (Ts 1 (((0 <= (0 : Int) /\ (0 : Int) < ((2 : Nat) : Int)) /\ Ts 1 (((P_d9 cm) /\ Ts 1 (((0 <= (1 : Int) /\ (1 : Int) < ((2 : Nat) : Int)) /\ Ts 2 (cond (ine ga 0) (((0 <= (1 : Int) /\ (1 : Int) < ((2 : Nat) : Int)) /\ Ts 1 (((P_d9 ga) /\ Ts 5 ((((2 : Int) ≠ 0) /\ Ts 3 (cond (ilt (iquo .i64 (iadd .i64 (iadd .i64 64 (F_d9_0 ga)) 1) 2) 64) (Ts 1 (((0 <= (iquo .i64 (iadd .i64 (iadd .i64 64 (F_d9_0 ga)) 1) 2)) /\ Ts 1 ((l0 (ishl .u64 1 (iquo .i64 (iadd .i64 (iadd .i64 64 (F_d9_0 ga)) 1) 2)) (fun i9 ke => K0 i9)))))) ((l0 18446744073709551615 (fun i9 ke => K0 i9)))))))))) (Ts 3 ((((2 : Int) ≠ 0) /\ Ts 3 (cond (ilt (iquo .i64 (iadd .i64 (F_d9_0 cm) 1) 2) 64) (Ts 1 (((0 <= (iquo .i64 (iadd .i64 (F_d9_0 cm) 1) 2)) /\ Ts 1 ((l0 (ishl .u64 1 (iquo .i64 (iadd .i64 (F_d9_0 cm) 1) 2)) (fun i9 ke => K0 i9)))))) ((l0 18446744073709551615 (fun i9 ke => K0 i9))))))))))))))))))
theorem iorC (a b : Int) : ior .u64 a b = ior .u64 b a := by
  rw [ior_eq]
  show IntKind.u64.wrap _ = IntKind.u64.wrap _
  rw [BitVec.or_comm]
theorem half_ok {L : Nat} (hL : L <= 128) : iquo .i64 (iadd .i64 (L : Int) 1) 2 = (((L + 1) / 2 : Nat) : Int) := by
  rw [iadd64 (by omega) (by omega), iquo_eq]
  show IntKind.i64.wrap (((L : Int) + 1).tdiv 2) = _
  rw [Int.tdiv_eq_ediv_of_nonneg (by omega), IntWalk.i64_in _ ⟨by omega, by omega⟩]
  omega
def P_ax (a b : Int) : Prop := U64 a /\ U64 b
def F_ax_0 (a b : Int) : Int := rootZ (b * 18446744073709551616 + a)
theorem W_ax_ok {a b n s : Int} (ha : U64 a) (hb : U64 b) (hn : n = b * 18446744073709551616 + a) (hs : isR n s) (s1 : 1 <= s) {x0 : Int -> Int -> Prop} (hx : ∀ v, x0 s v) : ∀ (f : Nat) (r : Int), s <= r -> 1 <= r -> r < 18446744073709551616 -> r - s < 2 ^ f -> W_ax_0 a b (f + 1) r x0
  | f, r, h1, h2, h3, h4 => by
    show B_ax_0 a b r _ _
    unfold B_ax_0
    simp only [Ts_iff]
    obtain ⟨a1, a2⟩ := ha
    obtain ⟨b1, b2⟩ := hb
    have stop : r * r <= n -> ∀ v, x0 r v := fun h => by
      have := isR_of_le (by omega) hs h
      rw [show r = s by omega]
      exact hx
    refine ⟨by omega, cond_intro (fun hc => ?_) (fun hc => ?_)⟩
    · rw [ige_t] at hc
      refine stop ?_ _
      have := Int.mul_le_mul (show r <= b by omega) (show r <= 18446744073709551616 by omega) (by omega) (by omega)
      omega
    · rw [ige_f] at hc
      refine ⟨by omega, by omega, ⟨⟨b1, b2⟩, ⟨a1, a2⟩, ⟨by omega, by omega⟩, hc⟩, ?_⟩
      have eq : F_a9_0 b a r = n / r := by rw [hn]; rfl
      rw [eq]
      refine cond_intro (fun hd => ?_) (fun hd => ?_)
      · rw [ige_t] at hd
        refine stop ?_ _
        have := (ediv_bounds (x := n) (y := r) (by omega)).1
        have := mul_mono hd (show 0 <= r by omega)
        omega
      · rw [ige_f] at hd
        obtain ⟨n1, n2, n3⟩ := newton hs h1 h2 hd
        have q0 : 0 <= n / r := Int.ediv_nonneg (by have := hs.2.1; have := Int.mul_nonneg hs.1 hs.1; omega) (by omega)
        have es : ior .u64 (ishr .u64 (F_mb_Add64_0 r (n / r) 0) 1) (ishl .u64 (F_mb_Add64_1 r (n / r) 0) 63) = (r + n / r) / 2 := by
          generalize n / r = q at *
          unfold F_mb_Add64_0 F_mb_Add64_1
          have e1 : ∀ z, ishr .u64 z 1 = z / 2 := fun z => ishrU z 1 (by decide)
          have e2 : ∀ z, ishl .u64 z 63 = z * 9223372036854775808 % 18446744073709551616 := fun z => ishlU z 63 (by decide)
          rw [e1, e2, iorC, show (r + q + 0) / 18446744073709551616 * 9223372036854775808 % 18446744073709551616 = (r + q) / 18446744073709551616 * 2 ^ 63 by rw [show (2 : Int) ^ 63 = 9223372036854775808 by decide]; omega]
          rw [ior_disj 63 (by decide) ⟨by rw [show (2 : Int) ^ 63 = 9223372036854775808 by decide]; omega, by rw [show (2 : Int) ^ 63 = 9223372036854775808 by decide]; omega⟩ (by omega) ⟨by omega, by rw [show (2 : Int) ^ 63 = 9223372036854775808 by decide]; omega⟩]
          rw [show (2 : Int) ^ 63 = 9223372036854775808 by decide]
          omega
        rw [es]
        refine ⟨⟨by omega, by omega, by omega, by omega⟩, by omega, by omega, ?_⟩
        cases f with
        | zero => rw [Int.pow_zero] at h4; omega
        | succ f =>
          refine W_ax_ok ⟨a1, a2⟩ ⟨b1, b2⟩ hn hs s1 hx f _ n1 ?_ (by omega) ?_
          · omega
          · rw [Int.pow_succ] at h4; omega
theorem H_ax (cm ga : Int) {K0 : Int -> Prop} (h : P_ax cm ga) (hK : K0 (F_ax_0 cm ga)) : B_ax cm ga K0 (W_ax_0 cm ga fuel) := by
  obtain ⟨ha, hb⟩ := h
  obtain ⟨n, hn⟩ : ∃ n, n = ga * 18446744073709551616 + cm := ⟨_, rfl⟩
  have n0 : 0 <= n := by obtain ⟨_, _⟩ := ha; obtain ⟨_, _⟩ := hb; omega
  have n1 : n < 340282366920938463463374607431768211456 := by obtain ⟨_, _⟩ := ha; obtain ⟨_, _⟩ := hb; omega
  have hs := rootZ_ok n0 n1
  unfold F_ax_0 at hK
  rw [← hn] at hK
  obtain ⟨f, hf, hf64⟩ : ∃ f : Nat, fuel = f + 1 /\ 64 <= f := ⟨1999999, by rw [fuel_eq], by omega⟩
  have go : n ≠ 0 -> ∀ r, rootZ n <= r -> 1 <= r -> r < 18446744073709551616 -> W_ax_0 cm ga fuel r (fun i9 ke => K0 i9) := fun hne r h1 h2 h3 => by
    rw [hf]
    refine W_ax_ok ha hb hn hs (root_pos hs (by omega)) (fun v => hK) f r h1 h2 h3 ?_
    have := pow_mono hf64
    have e : (2 : Int) ^ 64 = 18446744073709551616 := by decide
    have := hs.1
    omega
  have start : n ≠ 0 -> ∀ L : Nat, L <= 128 -> n < 2 ^ L -> (2 : Int) ≠ 0 /\ cond (ilt (iquo .i64 (iadd .i64 (L : Int) 1) 2) 64) (0 <= iquo .i64 (iadd .i64 (L : Int) 1) 2 /\ W_ax_0 cm ga fuel (ishl .u64 1 (iquo .i64 (iadd .i64 (L : Int) 1) 2)) (fun i9 ke => K0 i9)) (W_ax_0 cm ga fuel 18446744073709551615 (fun i9 ke => K0 i9)) := fun hne L hL hlt => by
    refine ⟨by decide, ?_⟩
    rw [half_ok hL]
    have hr := root_lt hs (k := (L + 1) / 2) (Int.lt_of_lt_of_le hlt (pow_mono (by omega)))
    refine cond_intro (fun hc => ?_) (fun hc => ?_)
    · rw [ilt_t] at hc
      have hp := pow_mono (show (L + 1) / 2 <= 63 by omega)
      rw [show (2 : Int) ^ 63 = 9223372036854775808 by decide] at hp
      have h1 := pow_ge_one ((L + 1) / 2)
      rw [ishlU 1 _ (by omega), Int.one_mul, Int.emod_eq_of_lt (by omega) (by omega)]
      exact ⟨by omega, go hne _ (by omega) h1 (by omega)⟩
    · have hp := pow_mono (show (L + 1) / 2 <= 64 by omega)
      rw [show (2 : Int) ^ 64 = 18446744073709551616 by decide] at hp
      exact go hne _ (by omega) (by omega) (by omega)
  have hlo : ga = 0 -> ∀ k : Nat, isLen cm k -> n < 2 ^ k := fun h k hk => by rw [hn, h, Int.zero_mul, Int.zero_add]; exact hk.1
  have hhi : ∀ k : Nat, isLen ga k -> n < 2 ^ (64 + k) := fun k hk => by
    obtain ⟨_, _⟩ := ha
    rw [Nat.add_comm, pow_split, show (2 : Int) ^ 64 = 18446744073709551616 by decide]
    have := mul_mono (show ga + 1 <= 2 ^ k from hk.1) (show (0 : Int) <= 18446744073709551616 by decide)
    omega
  obtain ⟨pa, ka, ea, ka64, la⟩ := Len64_ok ha
  obtain ⟨pb, kb, eb, kb64, lb⟩ := Len64_ok hb
  have e64 : iadd .i64 64 (kb : Int) = ((64 + kb : Nat) : Int) := by rw [iadd64 (by omega) (by omega)]; omega
  unfold B_ax
  simp only [Ts_iff, ea, eb, e64]
  refine ⟨by omega, cond_intro (fun hc => ?_) (fun hc => ?_)⟩
  · rw [ieq_t] at hc
    refine ⟨by omega, cond_intro (fun hd => ?_) (fun hd => ?_)⟩
    · rw [ieq_t] at hd
      have : rootZ n = 0 := by
        have h0 : n = 0 := by rw [hn, hc, hd]; decide
        rw [h0] at hs ⊢
        exact hs.unique ⟨by omega, by omega, by omega⟩
      rw [this] at hK
      exact hK
    · refine ⟨by omega, pa, by omega, ?_⟩
      rw [ine_f.2 hc, cond_false]
      exact start (by rw [ieq_f] at hd; omega) ka (by omega) (hlo hc ka la)
  · rw [ieq_f] at hc
    refine ⟨by omega, pa, by omega, ?_⟩
    rw [ine_t.2 hc, cond_true]
    exact ⟨by omega, pb, start (by obtain ⟨_, _⟩ := ha; obtain ⟨_, _⟩ := hb; omega) (64 + kb) (by omega) (hhi kb lb)⟩
theorem VW_abs {neg : Bool} {hi lo z : Int} (h1 : U64 hi) (h2 : U64 lo) (h : VW neg hi lo = z) (h0 : 0 <= z) : hi * 18446744073709551616 + lo = z := by
  obtain ⟨_, _⟩ := h1
  obtain ⟨_, _⟩ := h2
  cases neg
  · rw [VW_f] at h; omega
  · rw [VW_t] at h; omega
theorem rootZ_U {n : Int} (h0 : 0 <= n) (h1 : n < 340282366920938463463374607431768211456) : U64 (rootZ n) := by
  have hs := rootZ_ok h0 h1
  exact ⟨hs.1, root_lt hs (k := 64) (by rw [show (2 : Int) ^ (64 + 64) = 340282366920938463463374607431768211456 by decide]; exact h1)⟩
def E_bz_0 (cm : Int) (ga : Bool) : Bool := (F_ao_0 (F_av_0 cm ga) (F_av_0 cm ga))
def E_bz_1 (cm : Int) (ga : Bool) : Int := (F_ao_1 (F_av_0 cm ga) (F_av_0 cm ga))
def E_bz_2 (cm : Int) (ga : Bool) : Int := (F_ao_2 (F_av_0 cm ga) (F_av_0 cm ga))
def E_bz_3 (gb : Int) (gd : Bool) : Bool := (F_ao_0 (F_av_0 gb gd) (F_av_0 gb gd))
def E_bz_4 (gb : Int) (gd : Bool) : Int := (F_ao_1 (F_av_0 gb gd) (F_av_0 gb gd))
def E_bz_5 (gb : Int) (gd : Bool) : Int := (F_ao_2 (F_av_0 gb gd) (F_av_0 gb gd))
def E_bz_7 (cm : Int) (ga : Bool) (gb : Int) (gd : Bool) : Int := (F_bm_1 (E_bz_0 cm ga) (E_bz_1 cm ga) (E_bz_2 cm ga) (E_bz_3 gb gd) (E_bz_4 gb gd) (E_bz_5 gb gd))
def E_bz_8 (cm : Int) (ga : Bool) (gb : Int) (gd : Bool) : Int := (F_bm_2 (E_bz_0 cm ga) (E_bz_1 cm ga) (E_bz_2 cm ga) (E_bz_3 gb gd) (E_bz_4 gb gd) (E_bz_5 gb gd))
def E_bz_9 (cm : Int) (ga : Bool) (gb : Int) (gd : Bool) : Int := (F_ax_0 (E_bz_7 cm ga gb gd) (E_bz_8 cm ga gb gd))
def E_bz_10 (cm : Int) (ga : Bool) (gb : Int) (gd : Bool) : Bool := (F_bu_0 2 (pushF 1 (fun _ => (F_av_0 cm ga)) (F_av_0 gb gd)) (pushF 1 (fun _ => (F_av_1 cm ga)) (F_av_1 gb gd)))
def E_bz_11 (cm : Int) (ga : Bool) (gb : Int) (gd : Bool) : Int := (F_br_0 false (E_bz_9 cm ga gb gd) 0 (E_bz_10 cm ga gb gd))
def E_bz_12 (cm : Int) (ga : Bool) (gb : Int) (gd : Bool) : Bool := (F_br_1 false (E_bz_9 cm ga gb gd) 0 (E_bz_10 cm ga gb gd))
def B_bz (cm : Int) (ga : Bool) (gb : Int) (gd : Bool) (K0 : Int -> Bool -> Prop)  : Prop := Ts 4 (((P_av cm ga) /\ Ts 1 (((P_av gb gd) /\ Ts 2 ((true = true /\ Ts 4 (((P_ao (F_av_0 cm ga) (F_av_0 cm ga)) /\ Ts 4 (((P_ao (F_av_0 gb gd) (F_av_0 gb gd)) /\ ((P_bm (E_bz_0 cm ga) (E_bz_1 cm ga) (E_bz_2 cm ga) (E_bz_3 gb gd) (E_bz_4 gb gd) (E_bz_5 gb gd)) /\ Ts 1 (((P_ax (E_bz_7 cm ga gb gd) (E_bz_8 cm ga gb gd)) /\ Ts 5 (((P_bu 2 (pushF 1 (fun _ => (F_av_0 cm ga)) (F_av_0 gb gd)) (pushF 1 (fun _ => (F_av_1 cm ga)) (F_av_1 gb gd))) /\ ((P_br false (E_bz_9 cm ga gb gd) 0 (E_bz_10 cm ga gb gd)) /\ Ts 1 ((true = true /\ Ts 1 (K0 (E_bz_11 cm ga gb gd) (E_bz_12 cm ga gb gd))))))))))))))))))))
def P_bz (cm : Int) (ga : Bool) (gb : Int) (gd : Bool) : Prop := ((P_bm (E_bz_0 cm ga) (E_bz_1 cm ga) (E_bz_2 cm ga) (E_bz_3 gb gd) (E_bz_4 gb gd) (E_bz_5 gb gd)) /\ ((P_ax (E_bz_7 cm ga gb gd) (E_bz_8 cm ga gb gd)) /\ (P_bu 2 (pushF 1 (fun _ => (F_av_0 cm ga)) (F_av_0 gb gd)) (pushF 1 (fun _ => (F_av_1 cm ga)) (F_av_1 gb gd)))))
def F_bz_0 (cm : Int) (ga : Bool) (gb : Int) (gd : Bool) : Int := (E_bz_11 cm ga gb gd)
def F_bz_1 (cm : Int) (ga : Bool) (gb : Int) (gd : Bool) : Bool := (E_bz_12 cm ga gb gd)
theorem H_bz (cm : Int) (ga : Bool) (gb : Int) (gd : Bool) {K0 : Int -> Bool -> Prop} (h : P_bz cm ga gb gd) (hK : K0 (F_bz_0 cm ga gb gd) (F_bz_1 cm ga gb gd)) : B_bz cm ga gb gd K0  := by
 unfold B_bz P_bz F_bz_0 F_bz_1 at *
 simp only [Ts_iff, true_and]; try simp only [Ts_iff, true_and] at h
 repeat' first | exact hK | refine ⟨rfl, ?_⟩ | refine ⟨trivial, ?_⟩ | refine ⟨by decide, ?_⟩ | (refine ⟨h.1, ?_⟩; replace h := h.2) | refine ⟨h, ?_⟩
theorem sq_bound {v : Int} (hv : Num' v) : 0 <= v * v /\ v * v <= 9223372036854775807 * 9223372036854775807 := by
  have h := abs_mul' v v
  obtain ⟨h1, h2⟩ := hv
  have h3 := Int.mul_le_mul (show max v (-v) <= 9223372036854775807 by omega) (show max v (-v) <= 9223372036854775807 by omega) (show 0 <= max v (-v) by omega) (by omega)
  have h4 : 0 <= v * v := by
    rcases Int.le_total 0 v with h | h
    · exact Int.mul_nonneg h h
    · exact Int.mul_nonneg_of_nonpos_of_nonpos h h
  omega
theorem Hypot_pk {v w : Int} {f g : Bool} (hv : Num' v) (hw : Num' w) : P_bz v f w g /\ P_bj v f w g /\ F_bz_0 v f w g = F_bj_0 v f w g /\ F_bz_1 v f w g = F_bj_1 v f w g /\ Num' (F_bj_0 v f w g) := by
  unfold P_bz P_bj F_bz_0 F_bz_1 F_bj_0 F_bj_1
  simp only [E_bj_0, E_bj_1, E_bj_2, E_bj_3, E_bj_4, E_bj_5, E_bj_6, E_bj_7, E_bj_8, E_bj_9, E_bj_10, E_bj_11, E_bj_12, E_bj_13, E_bj_14, E_bj_15, E_bz_0, E_bz_1, E_bz_2, E_bz_3, E_bz_4, E_bz_5, E_bz_7, E_bz_8, E_bz_9, E_bz_10, E_bz_11, E_bz_12]
  simp only [sound_0, sound_1, whole_eq, whole_id hv, whole_id hw, wholeF_id hv, wholeF_id hw, flags2]
  obtain ⟨h1, h2, h3, h4⟩ := ao_ok hv hv
  obtain ⟨j1, j2, j3, j4⟩ := ao_ok hw hw
  obtain ⟨p, q1, q2, q3⟩ := fx_plus_ok (a := F_ao_0 v v) (b := F_ao_0 w w) h1 h2 j1 j2 (by omega) (by omega)
  obtain ⟨t1, t2, t3⟩ := times_ok hv hv
  obtain ⟨s1, s2, s3⟩ := times_ok hw hw
  obtain ⟨u1, u2⟩ := plus_ok t1 s1 (by omega) (by omega)
  have pp := P_plus_ok (a := F_be_0 v v) (b := F_be_0 w w) t1.uh t1.ul s1.uh s1.ul
  have b1 := sq_bound hv
  have b2 := sq_bound hw
  rw [h3, j3] at q3
  rw [t2, s2] at u2
  have n1 := VW_abs q2 q1 q3 (by omega)
  have n2 := VW_abs u1.uh u1.ul u2 (by omega)
  have hU := rootZ_U (n := v * v + w * w) (by omega) (by omega)
  unfold F_ax_0 F_ca_0 F_ca_1 F_ca_2
  rw [n1, n2]
  have hF := fun x => fx_fit_ok (neg := false) hU (hi := 0) ⟨by omega, by omega⟩ x
  have hR := fun x => fit_ok (neg := false) (hi := 0) ⟨by omega, by omega⟩ hU x
  refine ⟨⟨p, ⟨q1, q2⟩, (by show 2 <= 1000000; decide)⟩, ⟨pp, u1.uh, u1.ul⟩, ?_, ?_, ?_⟩
  · rw [(hF _).1]
    cases f <;> simp only [cond_true, cond_false, (hR _).1]
  · rw [(hF _).2]
    cases f <;> simp only [cond_true, cond_false, (hR _).2] <;> rfl
  · cases f <;> simp only [cond_true, cond_false, (hR _).1] <;> exact satN_num _
def B_ej (cm : Int) (ga : Bool) (gb : Int) (gd : Bool) (K0 : Int -> Bool -> Prop)  : Prop := Ts 4 (((P_av cm ga) /\ Ts 1 (((P_av gb gd) /\ Ts 2 ((true = true /\ Ts 4 (((P_cn (F_av_0 cm ga) (F_av_0 gb gd)) /\ Ts 5 (cond (F_cn_1 (F_av_0 cm ga) (F_av_0 gb gd)) (Ts 6 (K0 (F_cn_0 (F_av_0 cm ga) (F_av_0 gb gd)) true)) (Ts 3 (((P_bu 2 (pushF 1 (fun _ => (F_av_0 cm ga)) (F_av_0 gb gd)) (pushF 1 (fun _ => (F_av_1 cm ga)) (F_av_1 gb gd))) /\ Ts 6 (K0 (F_cn_0 (F_av_0 cm ga) (F_av_0 gb gd)) (F_bu_0 2 (pushF 1 (fun _ => (F_av_0 cm ga)) (F_av_0 gb gd)) (pushF 1 (fun _ => (F_av_1 cm ga)) (F_av_1 gb gd))))))))))))))))
def P_ej (cm : Int) (ga : Bool) (gb : Int) (gd : Bool) : Prop := ((P_cn (F_av_0 cm ga) (F_av_0 gb gd)) /\ (cond (F_cn_1 (F_av_0 cm ga) (F_av_0 gb gd)) True (P_bu 2 (pushF 1 (fun _ => (F_av_0 cm ga)) (F_av_0 gb gd)) (pushF 1 (fun _ => (F_av_1 cm ga)) (F_av_1 gb gd)))))
def F_ej_0 (cm : Int) (ga : Bool) (gb : Int) (gd : Bool) : Int := (F_cn_0 (F_av_0 cm ga) (F_av_0 gb gd))
def F_ej_1 (cm : Int) (ga : Bool) (gb : Int) (gd : Bool) : Bool := (cond (F_cn_1 (F_av_0 cm ga) (F_av_0 gb gd)) true (F_bu_0 2 (pushF 1 (fun _ => (F_av_0 cm ga)) (F_av_0 gb gd)) (pushF 1 (fun _ => (F_av_1 cm ga)) (F_av_1 gb gd))))
theorem H_ej (cm : Int) (ga : Bool) (gb : Int) (gd : Bool) {K0 : Int -> Bool -> Prop} (h : P_ej cm ga gb gd) (hK : K0 (F_ej_0 cm ga gb gd) (F_ej_1 cm ga gb gd)) : B_ej cm ga gb gd K0  := by
 unfold B_ej P_ej F_ej_0 F_ej_1 at *
 simp only [Ts_iff, true_and]; try simp only [Ts_iff, true_and] at h
 repeat' first | exact hK | (refine cond_intro (fun c => ?_) (fun c => ?_) <;> try simp only [c, cond_true, cond_false] at h hK ⊢) | refine ⟨rfl, ?_⟩ | refine ⟨trivial, ?_⟩ | refine ⟨by decide, ?_⟩ | (refine ⟨h.1, ?_⟩; replace h := h.2) | refine ⟨h, ?_⟩
def B_au_0 (a0 a1 : Int) (iq : Nat) (a2 : Nat -> Int) (j9 io : Int) (c x0 : Int -> Int -> Prop)  : Prop := Ts 1 (cond (ilt io ((iq : Nat) : Int)) (((0 <= io /\ io < ((iq : Nat) : Int)) /\ Ts 4 (((P_cl (a2 (Int.toNat io)) j9) /\ Ts 3 (cond (ilt (imul .i64 (F_cl_0 (a2 (Int.toNat io)) j9) a0) 0) (Ts 4 (c (a2 (Int.toNat io)) (iadd .i64 io 1))) (Ts 2 (c j9 (iadd .i64 io 1)))))))) (x0 j9 io))
def W_au_0 (a0 a1 : Int) (iq : Nat) (a2 : Nat -> Int) : Nat -> Int -> Int -> (Int -> Int -> Prop) -> Prop
  | 0, _, _, _ => False
  | f + 1, w0, w1, x0 => B_au_0 a0 a1 iq a2 w0 w1 (fun u0 u1 => W_au_0 a0 a1 iq a2 f u0 u1 x0) x0 
theorem BM_au_0 (a0 a1 : Int) (iq : Nat) (a2 : Nat -> Int) (j9 io : Int) {c c' : Int -> Int -> Prop} {x0 y0 : Int -> Int -> Prop} (hc : ∀ w0 w1, c w0 w1 -> c' w0 w1) (h0 : ∀ o0 o1, x0 o0 o1 -> y0 o0 o1) : B_au_0 a0 a1 iq a2 j9 io c x0  -> B_au_0 a0 a1 iq a2 j9 io c' y0  := by
  unfold B_au_0
  repeat' first
    | exact hc _ _
    | exact h0 _ _
    | refine Ts_imp ?_
    | refine cond_imp ?_ ?_
    | refine and_imp' ?_
theorem WM_au_0 (a0 a1 : Int) (iq : Nat) (a2 : Nat -> Int) {x0 y0 : Int -> Int -> Prop} (h0 : ∀ o0 o1, x0 o0 o1 -> y0 o0 o1) : ∀ (f : Nat) (j9 io : Int), W_au_0 a0 a1 iq a2 f j9 io x0 -> W_au_0 a0 a1 iq a2 f j9 io y0
  | 0, w0, w1 => fun h => h
  | f + 1, w0, w1 => BM_au_0 a0 a1 iq a2 w0 w1 (fun u0 u1 => WM_au_0 a0 a1 iq a2 h0 f u0 u1) h0
def B_au (a0 a1 : Int) (iq : Nat) (a2 : Nat -> Int) (K0 : Int -> Prop) (l0 : Int -> Int -> (Int -> Int -> Prop) -> Prop) : Prop := Ts 4 ((l0 a1 0 (fun ls kw => Ts 2 (K0 ls))))
def extF (o first : Int) (l : Nat -> Int) : Nat -> Int
  | 0 => first
  | n + 1 => if o = 1 then min (extF o first l n) (l n) else max (extF o first l n) (l n)
def P_au (o first : Int) (n : Nat) (l : Nat -> Int) : Prop := (o = 1 ∨ o = -1) /\ n <= 1000000
def F_au_0 (o first : Int) (n : Nat) (l : Nat -> Int) : Int := extF o first l n
theorem cmp64 (a b : Int) : F_cl_0 a b = if a < b then -1 else if b < a then 1 else 0 := by
  unfold F_cl_0 F_de_0
  rw [ine_f.2 (rfl : a = a), ine_f.2 (rfl : b = b)]
  simp only [cond_false]
  by_cases h : a < b
  · rw [ilt_t.2 h, cond_true, if_pos h]
  · rw [ilt_f.2 (by omega), cond_false, if_neg h]
    by_cases g : b < a
    · rw [igt_t.2 g, cond_true, if_pos g]
    · rw [igt_f.2 (by omega), cond_false, if_neg g]
theorem W_fx_extreme_ok {o first : Int} {n : Nat} {l : Nat -> Int} (ho : o = 1 ∨ o = -1) (hp : n <= 1000000) {x0 : Int -> Int -> Prop} (h3 : ∀ v, x0 (extF o first l n) v) : ∀ (f i : Nat), i <= n -> n < f + i -> W_au_0 o first n l f (extF o first l i) i x0
  | 0, i, h1, h2 => by omega
  | f + 1, i, h1, h2 => by
    show B_au_0 o first n l _ i _ _
    unfold B_au_0
    simp only [Ts_iff, true_and, Int.toNat_natCast]
    refine cond_intro (fun hc => ?_) (fun hc => ?_)
    · rw [ilt_t] at hc
      rw [iadd64 (by omega) (by omega)]
      have hr := W_fx_extreme_ok ho hp h3 f (i + 1) (by omega) (by omega)
      have e : extF o first l (i + 1) = if o = 1 then min (extF o first l i) (l i) else max (extF o first l i) (l i) := rfl
      rw [e] at hr
      generalize extF o first l i = m at *
      rw [cmp64]
      refine ⟨⟨by omega, hc⟩, trivial, ?_⟩
      have em : imul .i64 (if l i < m then -1 else if m < l i then 1 else 0) o = (if l i < m then -1 else if m < l i then 1 else 0) * o := by
        rcases ho with rfl | rfl <;> split <;> first | (rw [imul64] <;> omega) | (split <;> (rw [imul64] <;> omega))
      rw [em]
      refine cond_intro (fun hd => ?_) (fun hd => ?_)
      · rw [ilt_t] at hd
        have : (if o = 1 then min m (l i) else max m (l i)) = l i := by
          rcases ho with rfl | rfl
          · rw [if_pos rfl]; split at hd <;> (try split at hd) <;> omega
          · rw [if_neg (by decide)]; split at hd <;> (try split at hd) <;> omega
        rw [this] at hr
        exact hr
      · rw [ilt_f] at hd
        have : (if o = 1 then min m (l i) else max m (l i)) = m := by
          rcases ho with rfl | rfl
          · rw [if_pos rfl]; split at hd <;> (try split at hd) <;> omega
          · rw [if_neg (by decide)]; split at hd <;> (try split at hd) <;> omega
        rw [this] at hr
        exact hr
    · rw [ilt_f] at hc
      have : i = n := by omega
      subst this
      exact h3 _
theorem H_au (a0 a1 : Int) (iq : Nat) (a2 : Nat -> Int) {K0 : Int -> Prop} (h : P_au a0 a1 iq a2) (hK : K0 (F_au_0 a0 a1 iq a2)) : B_au a0 a1 iq a2 K0 (W_au_0 a0 a1 iq a2 fuel) := by
  unfold B_au
  simp only [Ts_iff]
  exact W_fx_extreme_ok h.1 h.2 (fun v => hK) fuel 0 (Nat.zero_le _) (by rw [fuel_eq]; have := h.2; omega)
theorem Ratio_pk {a b : Int} (ha : Num' a) (hb : Num' b) : P_cn a b /\ P_b6 a b /\ F_cn_0 a b = F_b6_0 a b /\ F_cn_1 a b = F_b6_1 a b /\ Num' (F_b6_0 a b) := by
  by_cases h : b = 0
  · subst h
    unfold P_cn P_b6 F_cn_0 F_cn_1 F_b6_0 F_b6_1 F_fe_0 F_fe_1
    rw [ieq_t.2 rfl, cmp64]
    simp only [cond_true]
    have en : ineg .i64 9223372036854775807 = -9223372036854775807 := ineg64 (by omega) (by omega)
    by_cases h1 : a < 0
    · rw [if_pos h1, igt_f.2 (by omega), ilt_t.2 h1, imul64 (by omega) (by omega)]
      refine ⟨trivial, trivial, ?_, ?_, by decide, by decide⟩ <;> first | rfl | trivial
    · rw [if_neg h1, ilt_f.2 (by omega)]
      by_cases h2 : 0 < a
      · rw [if_pos h2, igt_t.2 h2, imul64 (by omega) (by omega)]
        refine ⟨trivial, trivial, ?_, ?_, by decide, by decide⟩ <;> first | rfl | trivial
      · rw [if_neg h2, igt_f.2 (by omega), imul64 (by omega) (by omega)]
        refine ⟨trivial, trivial, ?_, ?_, by decide, by decide⟩ <;> first | rfl | trivial
  · obtain ⟨p1, e1, e2⟩ := fxRatio_ok ha hb h
    obtain ⟨p2, g1, g2⟩ := Ratio_ok ha hb h
    exact ⟨p1, p2, by rw [e1, g1], by rw [e2, g2], by rw [g1]; exact satN_num _⟩
theorem Div_pk {v w : Int} {f g : Bool} (hv : Num' v) (hw : Num' w) : P_ej v f w g /\ P_dp v f w g /\ F_ej_0 v f w g = F_dp_0 v f w g /\ F_ej_1 v f w g = F_dp_1 v f w g /\ Num' (F_dp_0 v f w g) := by
  obtain ⟨p1, p2, e1, e2, hn⟩ := Ratio_pk hv hw
  unfold P_ej F_ej_0 F_ej_1
  simp only [sound_0, sound_1, whole_id hv, whole_id hw, wholeF_id hv, wholeF_id hw, flags2, e1, e2]
  have hF : P_bu 2 (pushF 1 (fun _ => v) w) (pushF 1 (fun _ => f) g) := (by show 2 <= 1000000; decide)
  have hP : cond (F_b6_1 v w) True (P_bu 2 (pushF 1 (fun _ => v) w) (pushF 1 (fun _ => f) g)) := by cases F_b6_1 v w <;> first | exact hF | trivial
  refine ⟨⟨p1, hP⟩, ?_⟩
  by_cases h : w = 0
  · subst h
    unfold P_dp F_dp_0 F_dp_1
    simp only [whole_eq, whole_id hv, whole_id hw, wholeF_id hv, wholeF_id hw, ieq_t.2 (rfl : (0 : Int) = 0), cond_true]
    unfold F_b6_0 at hn ⊢
    unfold F_b6_1
    rw [ieq_t.2 (rfl : (0 : Int) = 0)] at hn ⊢
    simp only [cond_true] at hn ⊢
    have : F_fe_1 v = true := by
      unfold F_fe_1
      cases igt v 0 <;> cases ilt v 0 <;> rfl
    rw [this]
    refine ⟨trivial, ?_, ?_, hn⟩ <;> first | rfl | trivial
  · obtain ⟨q1, q2, q3⟩ := Div_ok (f := f) (g := g) hv hw h
    obtain ⟨r1, r2, r3⟩ := Ratio_ok hv hw h
    refine ⟨q1, by rw [q2, r2], ?_, by rw [q2]; exact satN_num _⟩
    rw [q3, r3]
    cases satB (dq v w) <;> cases f <;> cases g <;> rfl
def B_ez (a0 : Int) (ij : Nat) (gb : Nat -> Int) (gd : Nat -> Bool) (K0 : Int -> Bool -> Prop)  : Prop := Ts 4 (cond (ieq ((ij : Nat) : Int) 0) (Ts 3 (K0 0 false)) (Ts 1 (((P_az ij gb gd) /\ Ts 7 (((0 <= (0 : Int) /\ (0 : Int) < (((F_az_0 ij gb gd) : Nat) : Int)) /\ Ts 2 (((0 <= (1 : Int) /\ (1 : Int) <= (((F_az_0 ij gb gd) : Nat) : Int)) /\ ((P_au a0 ((F_az_1 ij gb gd) 0) ((F_az_0 ij gb gd) - 1) (dropF 1 (F_az_1 ij gb gd))) /\ Ts 3 ((true = true /\ Ts 1 (K0 (F_au_0 a0 ((F_az_1 ij gb gd) 0) ((F_az_0 ij gb gd) - 1) (dropF 1 (F_az_1 ij gb gd))) (F_az_2 ij gb gd)))))))))))))
def P_ez (a0 : Int) (ij : Nat) (gb : Nat -> Int) (gd : Nat -> Bool) : Prop := (cond (ieq ((ij : Nat) : Int) 0) True ((P_az ij gb gd) /\ ((0 <= (0 : Int) /\ (0 : Int) < (((F_az_0 ij gb gd) : Nat) : Int)) /\ ((0 <= (1 : Int) /\ (1 : Int) <= (((F_az_0 ij gb gd) : Nat) : Int)) /\ (P_au a0 ((F_az_1 ij gb gd) 0) ((F_az_0 ij gb gd) - 1) (dropF 1 (F_az_1 ij gb gd)))))))
def F_ez_0 (a0 : Int) (ij : Nat) (gb : Nat -> Int) (gd : Nat -> Bool) : Int := (cond (ieq ((ij : Nat) : Int) 0) 0 (F_au_0 a0 ((F_az_1 ij gb gd) 0) ((F_az_0 ij gb gd) - 1) (dropF 1 (F_az_1 ij gb gd))))
def F_ez_1 (a0 : Int) (ij : Nat) (gb : Nat -> Int) (gd : Nat -> Bool) : Bool := (cond (ieq ((ij : Nat) : Int) 0) false (F_az_2 ij gb gd))
theorem H_ez (a0 : Int) (ij : Nat) (gb : Nat -> Int) (gd : Nat -> Bool) {K0 : Int -> Bool -> Prop} (h : P_ez a0 ij gb gd) (hK : K0 (F_ez_0 a0 ij gb gd) (F_ez_1 a0 ij gb gd)) : B_ez a0 ij gb gd K0  := by
 unfold B_ez P_ez F_ez_0 F_ez_1 at *
 simp only [Ts_iff, true_and]; try simp only [Ts_iff, true_and] at h
 repeat' first | exact hK | (refine cond_intro (fun c => ?_) (fun c => ?_) <;> try simp only [c, cond_true, cond_false] at h hK ⊢) | refine ⟨rfl, ?_⟩ | refine ⟨trivial, ?_⟩ | refine ⟨by decide, ?_⟩ | (refine ⟨h.1, ?_⟩; replace h := h.2) | refine ⟨h, ?_⟩
theorem extF_min {x : Nat -> Int} : ∀ n, extF 1 (x 0) (dropF 1 x) n = minF x (n + 1)
  | 0 => rfl
  | n + 1 => by
    show (if (1 : Int) = 1 then min (extF 1 (x 0) (dropF 1 x) n) (x (1 + n)) else _) = _
    rw [if_pos rfl, extF_min n, minF_succ x (by omega : n + 1 ≠ 0), Nat.add_comm 1 n]
theorem extF_max {x : Nat -> Int} : ∀ n, extF (-1) (x 0) (dropF 1 x) n = maxF x (n + 1)
  | 0 => rfl
  | n + 1 => by
    show (if (-1 : Int) = 1 then _ else max (extF (-1) (x 0) (dropF 1 x) n) (x (1 + n))) = _
    rw [if_neg (by decide), extF_max n, maxF_succ x (by omega : n + 1 ≠ 0), Nat.add_comm 1 n]
theorem most_ok {o : Int} (ho : o = 1 ∨ o = -1) {n : Nat} {x : Nat -> Int} {y : Nat -> Bool} (hn : n <= 1000000) : P_ez o n x y /\ F_ez_0 o n x y = (if o = 1 then minF (fun k => whole (x k)) n else maxF (fun k => whole (x k)) n) /\ F_ez_1 o n x y = F_bd_0 n x y := by
  unfold P_ez F_ez_0 F_ez_1 F_az_0
  by_cases h : n = 0
  · subst h
    rw [ieq_t.2 (by omega)]
    refine ⟨trivial, ?_, rfl⟩
    split <;> rfl
  · rw [ieq_f.2 (by omega)]
    simp only [cond_false]
    refine ⟨⟨hn, ⟨by omega, by omega⟩, ⟨by omega, by omega⟩, ho, by omega⟩, ?_, rfl⟩
    have e : ∀ k, k < n -> F_az_1 n x y k = whole (x k) := fun k hk => (valF_at hk).trans (sound_0 _ _)
    unfold F_au_0
    rcases ho with rfl | rfl
    · rw [extF_min, if_pos rfl, show n - 1 + 1 = n by omega, minF_congr n e]
    · rw [extF_max, if_neg (by decide), show n - 1 + 1 = n by omega, maxF_congr n e]
theorem minF_num {x : Nat -> Int} : ∀ {n : Nat}, (∀ k, k < n -> Num' (x k)) -> Num' (minF x n)
  | 0, _ => (show Num' 0 from ⟨by decide, by decide⟩)
  | n + 1, h => by
    unfold minF
    by_cases h0 : n = 0
    · rw [if_pos h0]; exact h 0 (by omega)
    · rw [if_neg h0]
      obtain ⟨_, _⟩ := minF_num (n := n) (fun k hk => h k (by omega))
      obtain ⟨_, _⟩ := h n (by omega)
      exact ⟨by omega, by omega⟩
theorem maxF_num {x : Nat -> Int} : ∀ {n : Nat}, (∀ k, k < n -> Num' (x k)) -> Num' (maxF x n)
  | 0, _ => (show Num' 0 from ⟨by decide, by decide⟩)
  | n + 1, h => by
    unfold maxF
    by_cases h0 : n = 0
    · rw [if_pos h0]; exact h 0 (by omega)
    · rw [if_neg h0]
      obtain ⟨_, _⟩ := maxF_num (n := n) (fun k hk => h k (by omega))
      obtain ⟨_, _⟩ := h n (by omega)
      exact ⟨by omega, by omega⟩
def B_fm (gp : Nat) (cm : Nat -> Int) (ga : Nat -> Bool) (K0 : Int -> Bool -> Prop)  : Prop := Ts 2 (((P_ez (-1) gp cm ga) /\ Ts 2 (K0 (F_ez_0 (-1) gp cm ga) (F_ez_1 (-1) gp cm ga))))
def P_fm (gp : Nat) (cm : Nat -> Int) (ga : Nat -> Bool) : Prop := (P_ez (-1) gp cm ga)
def F_fm_0 (gp : Nat) (cm : Nat -> Int) (ga : Nat -> Bool) : Int := (F_ez_0 (-1) gp cm ga)
def F_fm_1 (gp : Nat) (cm : Nat -> Int) (ga : Nat -> Bool) : Bool := (F_ez_1 (-1) gp cm ga)
theorem H_fm (gp : Nat) (cm : Nat -> Int) (ga : Nat -> Bool) {K0 : Int -> Bool -> Prop} (h : P_fm gp cm ga) (hK : K0 (F_fm_0 gp cm ga) (F_fm_1 gp cm ga)) : B_fm gp cm ga K0  := by
 unfold B_fm P_fm F_fm_0 F_fm_1 at *
 simp only [Ts_iff, true_and]; try simp only [Ts_iff, true_and] at h
 repeat' first | exact hK | refine ⟨rfl, ?_⟩ | refine ⟨trivial, ?_⟩ | refine ⟨by decide, ?_⟩ | (refine ⟨h.1, ?_⟩; replace h := h.2) | refine ⟨h, ?_⟩
theorem Max_pk {n : Nat} {x : Nat -> Int} {y : Nat -> Bool} (hn : n <= 1000000) (hx : ∀ k, k < n -> I64' (x k)) : P_fm n x y /\ P_cv n x y /\ F_fm_0 n x y = F_cv_0 n x y /\ F_fm_1 n x y = F_cv_1 n x y /\ Num' (F_cv_0 n x y) := by
  obtain ⟨p, e1, e2⟩ := most_ok (o := -1) (.inr rfl) (x := x) (y := y) hn
  rw [if_neg (by decide)] at e1
  exact ⟨p, hn, e1, e2, maxF_num fun k hk => whole_num (hx k hk)⟩
def B_fo (gp : Nat) (cm : Nat -> Int) (ga : Nat -> Bool) (K0 : Int -> Bool -> Prop)  : Prop := Ts 2 (((P_ez 1 gp cm ga) /\ Ts 2 (K0 (F_ez_0 1 gp cm ga) (F_ez_1 1 gp cm ga))))
def P_fo (gp : Nat) (cm : Nat -> Int) (ga : Nat -> Bool) : Prop := (P_ez 1 gp cm ga)
def F_fo_0 (gp : Nat) (cm : Nat -> Int) (ga : Nat -> Bool) : Int := (F_ez_0 1 gp cm ga)
def F_fo_1 (gp : Nat) (cm : Nat -> Int) (ga : Nat -> Bool) : Bool := (F_ez_1 1 gp cm ga)
theorem H_fo (gp : Nat) (cm : Nat -> Int) (ga : Nat -> Bool) {K0 : Int -> Bool -> Prop} (h : P_fo gp cm ga) (hK : K0 (F_fo_0 gp cm ga) (F_fo_1 gp cm ga)) : B_fo gp cm ga K0  := by
 unfold B_fo P_fo F_fo_0 F_fo_1 at *
 simp only [Ts_iff, true_and]; try simp only [Ts_iff, true_and] at h
 repeat' first | exact hK | refine ⟨rfl, ?_⟩ | refine ⟨trivial, ?_⟩ | refine ⟨by decide, ?_⟩ | (refine ⟨h.1, ?_⟩; replace h := h.2) | refine ⟨h, ?_⟩
theorem Min_pk {n : Nat} {x : Nat -> Int} {y : Nat -> Bool} (hn : n <= 1000000) (hx : ∀ k, k < n -> I64' (x k)) : P_fo n x y /\ P_c7 n x y /\ F_fo_0 n x y = F_c7_0 n x y /\ F_fo_1 n x y = F_c7_1 n x y /\ Num' (F_c7_0 n x y) := by
  obtain ⟨p, e1, e2⟩ := most_ok (o := 1) (.inl rfl) (x := x) (y := y) hn
  rw [if_pos rfl] at e1
  exact ⟨p, hn, e1, e2, minF_num fun k hk => whole_num (hx k hk)⟩
def B_e9 (cm : Int) (ga : Bool) (gb : Int) (gd : Bool) (gh : Int) (gj : Bool) (K0 : Int -> Bool -> Prop)  : Prop := Ts 8 (((P_fo 2 (pushF 1 (fun _ => cm) gh) (pushF 1 (fun _ => ga) gj)) /\ Ts 1 (((P_fm 2 (pushF 1 (fun _ => gb) (F_fo_0 2 (pushF 1 (fun _ => cm) gh) (pushF 1 (fun _ => ga) gj))) (pushF 1 (fun _ => gd) (F_fo_1 2 (pushF 1 (fun _ => cm) gh) (pushF 1 (fun _ => ga) gj)))) /\ Ts 1 ((true = true /\ Ts 1 (K0 (F_fm_0 2 (pushF 1 (fun _ => gb) (F_fo_0 2 (pushF 1 (fun _ => cm) gh) (pushF 1 (fun _ => ga) gj))) (pushF 1 (fun _ => gd) (F_fo_1 2 (pushF 1 (fun _ => cm) gh) (pushF 1 (fun _ => ga) gj)))) (F_fm_1 2 (pushF 1 (fun _ => gb) (F_fo_0 2 (pushF 1 (fun _ => cm) gh) (pushF 1 (fun _ => ga) gj))) (pushF 1 (fun _ => gd) (F_fo_1 2 (pushF 1 (fun _ => cm) gh) (pushF 1 (fun _ => ga) gj)))))))))))
def P_e9 (cm : Int) (ga : Bool) (gb : Int) (gd : Bool) (gh : Int) (gj : Bool) : Prop := ((P_fo 2 (pushF 1 (fun _ => cm) gh) (pushF 1 (fun _ => ga) gj)) /\ (P_fm 2 (pushF 1 (fun _ => gb) (F_fo_0 2 (pushF 1 (fun _ => cm) gh) (pushF 1 (fun _ => ga) gj))) (pushF 1 (fun _ => gd) (F_fo_1 2 (pushF 1 (fun _ => cm) gh) (pushF 1 (fun _ => ga) gj)))))
def F_e9_0 (cm : Int) (ga : Bool) (gb : Int) (gd : Bool) (gh : Int) (gj : Bool) : Int := (F_fm_0 2 (pushF 1 (fun _ => gb) (F_fo_0 2 (pushF 1 (fun _ => cm) gh) (pushF 1 (fun _ => ga) gj))) (pushF 1 (fun _ => gd) (F_fo_1 2 (pushF 1 (fun _ => cm) gh) (pushF 1 (fun _ => ga) gj))))
def F_e9_1 (cm : Int) (ga : Bool) (gb : Int) (gd : Bool) (gh : Int) (gj : Bool) : Bool := (F_fm_1 2 (pushF 1 (fun _ => gb) (F_fo_0 2 (pushF 1 (fun _ => cm) gh) (pushF 1 (fun _ => ga) gj))) (pushF 1 (fun _ => gd) (F_fo_1 2 (pushF 1 (fun _ => cm) gh) (pushF 1 (fun _ => ga) gj))))
theorem H_e9 (cm : Int) (ga : Bool) (gb : Int) (gd : Bool) (gh : Int) (gj : Bool) {K0 : Int -> Bool -> Prop} (h : P_e9 cm ga gb gd gh gj) (hK : K0 (F_e9_0 cm ga gb gd gh gj) (F_e9_1 cm ga gb gd gh gj)) : B_e9 cm ga gb gd gh gj K0  := by
 unfold B_e9 P_e9 F_e9_0 F_e9_1 at *
 simp only [Ts_iff, true_and]; try simp only [Ts_iff, true_and] at h
 repeat' first | exact hK | refine ⟨rfl, ?_⟩ | refine ⟨trivial, ?_⟩ | refine ⟨by decide, ?_⟩ | (refine ⟨h.1, ?_⟩; replace h := h.2) | refine ⟨h, ?_⟩
theorem Clamp_pk {a b c : Int} {f g h : Bool} (ha : Num' a) (hb : Num' b) (hc : Num' c) : P_e9 a f b g c h /\ P_eu a f b g c h /\ F_e9_0 a f b g c h = F_eu_0 a f b g c h /\ F_e9_1 a f b g c h = F_eu_1 a f b g c h /\ Num' (F_eu_0 a f b g c h) := by
  unfold P_e9 P_eu F_e9_0 F_e9_1 F_eu_0 F_eu_1
  obtain ⟨p1, p2, e1, e2, hn⟩ := Min_pk (n := 2) (y := pushF 1 (fun _ => f) h) (by decide) (two_i ha hc)
  rw [e1, e2]
  obtain ⟨q1, q2, g1, g2, hm⟩ := Max_pk (n := 2) (y := pushF 1 (fun _ => g) (F_c7_1 2 (pushF 1 (fun _ => a) c) (pushF 1 (fun _ => f) h))) (by decide) (two_i hb hn)
  exact ⟨⟨p1, q1⟩, ⟨p2, q2⟩, g1, g2, hm⟩
def E_cc_0 (cm : Int) (ga : Bool) (gb : Int) (gd : Bool) : Bool := (F_ao_0 (F_av_0 cm ga) (F_av_0 gb gd))
def E_cc_1 (cm : Int) (ga : Bool) (gb : Int) (gd : Bool) : Int := (F_ao_1 (F_av_0 cm ga) (F_av_0 gb gd))
def E_cc_2 (cm : Int) (ga : Bool) (gb : Int) (gd : Bool) : Int := (F_ao_2 (F_av_0 cm ga) (F_av_0 gb gd))
def E_cc_3 (gh : Int) (gj : Bool) (g6 : Int) (g7 : Bool) : Bool := (F_ao_0 (F_av_0 gh gj) (F_av_0 g6 g7))
def E_cc_4 (gh : Int) (gj : Bool) (g6 : Int) (g7 : Bool) : Int := (F_ao_1 (F_av_0 gh gj) (F_av_0 g6 g7))
def E_cc_5 (gh : Int) (gj : Bool) (g6 : Int) (g7 : Bool) : Int := (F_ao_2 (F_av_0 gh gj) (F_av_0 g6 g7))
def E_cc_6 (cm : Int) (ga : Bool) (gb : Int) (gd : Bool) (gh : Int) (gj : Bool) (g6 : Int) (g7 : Bool) : Bool := (F_bm_0 (E_cc_0 cm ga gb gd) (E_cc_1 cm ga gb gd) (E_cc_2 cm ga gb gd) (E_cc_3 gh gj g6 g7) (E_cc_4 gh gj g6 g7) (E_cc_5 gh gj g6 g7))
def E_cc_7 (cm : Int) (ga : Bool) (gb : Int) (gd : Bool) (gh : Int) (gj : Bool) (g6 : Int) (g7 : Bool) : Int := (F_bm_1 (E_cc_0 cm ga gb gd) (E_cc_1 cm ga gb gd) (E_cc_2 cm ga gb gd) (E_cc_3 gh gj g6 g7) (E_cc_4 gh gj g6 g7) (E_cc_5 gh gj g6 g7))
def E_cc_8 (cm : Int) (ga : Bool) (gb : Int) (gd : Bool) (gh : Int) (gj : Bool) (g6 : Int) (g7 : Bool) : Int := (F_bm_2 (E_cc_0 cm ga gb gd) (E_cc_1 cm ga gb gd) (E_cc_2 cm ga gb gd) (E_cc_3 gh gj g6 g7) (E_cc_4 gh gj g6 g7) (E_cc_5 gh gj g6 g7))
def E_cc_9 (cm : Int) (ga : Bool) (gb : Int) (gd : Bool) (gh : Int) (gj : Bool) (g6 : Int) (g7 : Bool) : Bool := (F_cb_0 (E_cc_6 cm ga gb gd gh gj g6 g7) (E_cc_7 cm ga gb gd gh gj g6 g7) (E_cc_8 cm ga gb gd gh gj g6 g7))
def E_cc_10 (cm : Int) (ga : Bool) (gb : Int) (gd : Bool) (gh : Int) (gj : Bool) (g6 : Int) (g7 : Bool) : Int := (F_cb_1 (E_cc_6 cm ga gb gd gh gj g6 g7) (E_cc_7 cm ga gb gd gh gj g6 g7) (E_cc_8 cm ga gb gd gh gj g6 g7))
def E_cc_11 (cm : Int) (ga : Bool) (gb : Int) (gd : Bool) (gh : Int) (gj : Bool) (g6 : Int) (g7 : Bool) : Int := (F_cb_2 (E_cc_6 cm ga gb gd gh gj g6 g7) (E_cc_7 cm ga gb gd gh gj g6 g7) (E_cc_8 cm ga gb gd gh gj g6 g7))
def E_cc_12 (cm : Int) (ga : Bool) (gb : Int) (gd : Bool) (gh : Int) (gj : Bool) (g6 : Int) (g7 : Bool) : Bool := (F_bu_0 4 (appF 1 (fun _ => (F_av_0 cm ga)) (appF 1 (fun _ => (F_av_0 gb gd)) (pushF 1 (fun _ => (F_av_0 gh gj)) (F_av_0 g6 g7)))) (appF 1 (fun _ => (F_av_1 cm ga)) (appF 1 (fun _ => (F_av_1 gb gd)) (pushF 1 (fun _ => (F_av_1 gh gj)) (F_av_1 g6 g7)))))
def E_cc_13 (cm : Int) (ga : Bool) (gb : Int) (gd : Bool) (gh : Int) (gj : Bool) (g6 : Int) (g7 : Bool) : Int := (F_br_0 (E_cc_9 cm ga gb gd gh gj g6 g7) (E_cc_10 cm ga gb gd gh gj g6 g7) (E_cc_11 cm ga gb gd gh gj g6 g7) (E_cc_12 cm ga gb gd gh gj g6 g7))
def E_cc_14 (cm : Int) (ga : Bool) (gb : Int) (gd : Bool) (gh : Int) (gj : Bool) (g6 : Int) (g7 : Bool) : Bool := (F_br_1 (E_cc_9 cm ga gb gd gh gj g6 g7) (E_cc_10 cm ga gb gd gh gj g6 g7) (E_cc_11 cm ga gb gd gh gj g6 g7) (E_cc_12 cm ga gb gd gh gj g6 g7))
def B_cc (cm : Int) (ga : Bool) (gb : Int) (gd : Bool) (gh : Int) (gj : Bool) (g6 : Int) (g7 : Bool) (K0 : Int -> Bool -> Prop)  : Prop := Ts 6 (((P_av cm ga) /\ Ts 1 (((P_av gb gd) /\ Ts 1 (((P_av gh gj) /\ Ts 1 (((P_av g6 g7) /\ Ts 4 ((true = true /\ Ts 4 (((P_ao (F_av_0 cm ga) (F_av_0 gb gd)) /\ Ts 4 (((P_ao (F_av_0 gh gj) (F_av_0 g6 g7)) /\ ((P_bm (E_cc_0 cm ga gb gd) (E_cc_1 cm ga gb gd) (E_cc_2 cm ga gb gd) (E_cc_3 gh gj g6 g7) (E_cc_4 gh gj g6 g7) (E_cc_5 gh gj g6 g7)) /\ ((P_cb (E_cc_6 cm ga gb gd gh gj g6 g7) (E_cc_7 cm ga gb gd gh gj g6 g7) (E_cc_8 cm ga gb gd gh gj g6 g7)) /\ Ts 5 (((P_bu 4 (appF 1 (fun _ => (F_av_0 cm ga)) (appF 1 (fun _ => (F_av_0 gb gd)) (pushF 1 (fun _ => (F_av_0 gh gj)) (F_av_0 g6 g7)))) (appF 1 (fun _ => (F_av_1 cm ga)) (appF 1 (fun _ => (F_av_1 gb gd)) (pushF 1 (fun _ => (F_av_1 gh gj)) (F_av_1 g6 g7))))) /\ ((P_br (E_cc_9 cm ga gb gd gh gj g6 g7) (E_cc_10 cm ga gb gd gh gj g6 g7) (E_cc_11 cm ga gb gd gh gj g6 g7) (E_cc_12 cm ga gb gd gh gj g6 g7)) /\ Ts 1 ((true = true /\ Ts 1 (K0 (E_cc_13 cm ga gb gd gh gj g6 g7) (E_cc_14 cm ga gb gd gh gj g6 g7)))))))))))))))))))))))
def P_cc (cm : Int) (ga : Bool) (gb : Int) (gd : Bool) (gh : Int) (gj : Bool) (g6 : Int) (g7 : Bool) : Prop := ((P_bm (E_cc_0 cm ga gb gd) (E_cc_1 cm ga gb gd) (E_cc_2 cm ga gb gd) (E_cc_3 gh gj g6 g7) (E_cc_4 gh gj g6 g7) (E_cc_5 gh gj g6 g7)) /\ (P_bu 4 (appF 1 (fun _ => (F_av_0 cm ga)) (appF 1 (fun _ => (F_av_0 gb gd)) (pushF 1 (fun _ => (F_av_0 gh gj)) (F_av_0 g6 g7)))) (appF 1 (fun _ => (F_av_1 cm ga)) (appF 1 (fun _ => (F_av_1 gb gd)) (pushF 1 (fun _ => (F_av_1 gh gj)) (F_av_1 g6 g7))))))
def F_cc_0 (cm : Int) (ga : Bool) (gb : Int) (gd : Bool) (gh : Int) (gj : Bool) (g6 : Int) (g7 : Bool) : Int := (E_cc_13 cm ga gb gd gh gj g6 g7)
def F_cc_1 (cm : Int) (ga : Bool) (gb : Int) (gd : Bool) (gh : Int) (gj : Bool) (g6 : Int) (g7 : Bool) : Bool := (E_cc_14 cm ga gb gd gh gj g6 g7)
theorem H_cc (cm : Int) (ga : Bool) (gb : Int) (gd : Bool) (gh : Int) (gj : Bool) (g6 : Int) (g7 : Bool) {K0 : Int -> Bool -> Prop} (h : P_cc cm ga gb gd gh gj g6 g7) (hK : K0 (F_cc_0 cm ga gb gd gh gj g6 g7) (F_cc_1 cm ga gb gd gh gj g6 g7)) : B_cc cm ga gb gd gh gj g6 g7 K0  := by
 unfold B_cc P_cc F_cc_0 F_cc_1 at *
 simp only [Ts_iff, true_and]; try simp only [Ts_iff, true_and] at h
 repeat' first | exact hK | refine ⟨rfl, ?_⟩ | refine ⟨trivial, ?_⟩ | refine ⟨by decide, ?_⟩ | (refine ⟨h.1, ?_⟩; replace h := h.2) | refine ⟨h, ?_⟩
theorem Dot_pk {a b c d : Int} {e f g h : Bool} (ha : Num' a) (hb : Num' b) (hc : Num' c) (hd : Num' d) : P_cc a e b f c g d h /\ P_bw a e b f c g d h /\ F_cc_0 a e b f c g d h = F_bw_0 a e b f c g d h /\ F_cc_1 a e b f c g d h = F_bw_1 a e b f c g d h /\ Num' (F_bw_0 a e b f c g d h) := by
  obtain ⟨p2, g1, g2⟩ := Dot_ok (e := e) (f := f) (g := g) (h := h) ha hb hc hd
  rw [g1, g2]
  unfold P_cc F_cc_0 F_cc_1
  simp only [E_cc_0, E_cc_1, E_cc_2, E_cc_3, E_cc_4, E_cc_5, E_cc_6, E_cc_7, E_cc_8, E_cc_9, E_cc_10, E_cc_11, E_cc_12, E_cc_13, E_cc_14]
  simp only [sound_0, sound_1, whole_id ha, whole_id hb, whole_id hc, whole_id hd, wholeF_id ha, wholeF_id hb, wholeF_id hc, wholeF_id hd, flags4]
  obtain ⟨h1, h2, h3, h4⟩ := ao_ok ha hb
  obtain ⟨j1, j2, j3, j4⟩ := ao_ok hc hd
  obtain ⟨p, q1, q2, q3⟩ := fx_plus_ok (a := F_ao_0 a b) (b := F_ao_0 c d) h1 h2 j1 j2 (by omega) (by omega)
  obtain ⟨d1, d2, d3⟩ := fx_down_ok (neg := F_bm_0 (F_ao_0 a b) (F_ao_1 a b) (F_ao_2 a b) (F_ao_0 c d) (F_ao_1 c d) (F_ao_2 c d)) q1 q2
  rw [q3, h3, j3] at d3
  obtain ⟨e1, e2⟩ := fx_fit_ok (neg := F_cb_0 (F_bm_0 (F_ao_0 a b) (F_ao_1 a b) (F_ao_2 a b) (F_ao_0 c d) (F_ao_1 c d) (F_ao_2 c d)) (F_bm_1 (F_ao_0 a b) (F_ao_1 a b) (F_ao_2 a b) (F_ao_0 c d) (F_ao_1 c d) (F_ao_2 c d)) (F_bm_2 (F_ao_0 a b) (F_ao_1 a b) (F_ao_2 a b) (F_ao_0 c d) (F_ao_1 c d) (F_ao_2 c d))) d1 d2 (e || f || g || h)
  rw [d3] at e1 e2
  exact ⟨⟨p, (by show 4 <= 1000000; decide)⟩, p2, e1, e2, satN_num _⟩
def B_fd (a0 a1 a2 a3 : Int) (K0 : Int -> Prop)  : Prop := Ts 3 (((P_ao a0 a1) /\ Ts 4 (((P_ao a2 a3) /\ Ts 9 (((P_bm (F_ao_0 a0 a1) (F_ao_1 a0 a1) (F_ao_2 a0 a1) (!(F_ao_0 a2 a3)) (F_ao_1 a2 a3) (F_ao_2 a2 a3)) /\ Ts 7 (cond ((ieq (F_bm_1 (F_ao_0 a0 a1) (F_ao_1 a0 a1) (F_ao_2 a0 a1) (!(F_ao_0 a2 a3)) (F_ao_1 a2 a3) (F_ao_2 a2 a3)) 0) && (ieq (F_bm_2 (F_ao_0 a0 a1) (F_ao_1 a0 a1) (F_ao_2 a0 a1) (!(F_ao_0 a2 a3)) (F_ao_1 a2 a3) (F_ao_2 a2 a3)) 0)) (Ts 1 (K0 0)) (Ts 3 (cond (F_bm_0 (F_ao_0 a0 a1) (F_ao_1 a0 a1) (F_ao_2 a0 a1) (!(F_ao_0 a2 a3)) (F_ao_1 a2 a3) (F_ao_2 a2 a3)) (Ts 1 (K0 (-1))) (Ts 1 (K0 1)))))))))))
def P_fd (a0 a1 a2 a3 : Int) : Prop := (P_bm (F_ao_0 a0 a1) (F_ao_1 a0 a1) (F_ao_2 a0 a1) (!(F_ao_0 a2 a3)) (F_ao_1 a2 a3) (F_ao_2 a2 a3))
def F_fd_0 (a0 a1 a2 a3 : Int) : Int := (cond ((ieq (F_bm_1 (F_ao_0 a0 a1) (F_ao_1 a0 a1) (F_ao_2 a0 a1) (!(F_ao_0 a2 a3)) (F_ao_1 a2 a3) (F_ao_2 a2 a3)) 0) && (ieq (F_bm_2 (F_ao_0 a0 a1) (F_ao_1 a0 a1) (F_ao_2 a0 a1) (!(F_ao_0 a2 a3)) (F_ao_1 a2 a3) (F_ao_2 a2 a3)) 0)) 0 (cond (F_bm_0 (F_ao_0 a0 a1) (F_ao_1 a0 a1) (F_ao_2 a0 a1) (!(F_ao_0 a2 a3)) (F_ao_1 a2 a3) (F_ao_2 a2 a3)) (-1) 1))
theorem H_fd (a0 a1 a2 a3 : Int) {K0 : Int -> Prop} (h : P_fd a0 a1 a2 a3) (hK : K0 (F_fd_0 a0 a1 a2 a3)) : B_fd a0 a1 a2 a3 K0  := by
 unfold B_fd P_fd F_fd_0 at *
 simp only [Ts_iff, true_and]; try simp only [Ts_iff, true_and] at h
 repeat' first | exact hK | (refine cond_intro (fun c => ?_) (fun c => ?_) <;> try simp only [c, cond_true, cond_false] at h hK ⊢) | refine ⟨rfl, ?_⟩ | refine ⟨trivial, ?_⟩ | refine ⟨by decide, ?_⟩ | (refine ⟨h.1, ?_⟩; replace h := h.2) | refine ⟨h, ?_⟩
def ordZ (x y : Int) : Int := if x = y then 0 else if x < y then -1 else 1
theorem ordZ_e {x y : Int} (h : x = y) : ordZ x y = 0 := if_pos h
theorem ordZ_l {x y : Int} (h : x < y) : ordZ x y = -1 := by unfold ordZ; rw [if_neg (by omega), if_pos h]
theorem ordZ_g {x y : Int} (h : y < x) : ordZ x y = 1 := by unfold ordZ; rw [if_neg (by omega), if_neg (by omega)]
theorem fxOrder_ok {a b c d : Int} (ha : Num' a) (hb : Num' b) (hc : Num' c) (hd : Num' d) : P_fd a b c d /\ F_fd_0 a b c d = ordZ (a * b) (c * d) := by
  unfold P_fd F_fd_0
  obtain ⟨h1, h2, h3, h4⟩ := ao_ok ha hb
  obtain ⟨j1, j2, j3, j4⟩ := ao_ok hc hd
  obtain ⟨p, q1, q2, q3⟩ := fx_plus_ok (a := F_ao_0 a b) (b := !(F_ao_0 c d)) h1 h2 j1 j2 (by omega) (by omega)
  have e : VW (!(F_ao_0 c d)) (F_ao_2 c d) (F_ao_1 c d) = -(c * d) := by
    rw [← j3]
    cases F_ao_0 c d
    · rw [Bool.not_false, VW_t, VW_f]
    · rw [Bool.not_true, VW_t, VW_f]; omega
  rw [h3, e] at q3
  refine ⟨p, ?_⟩
  generalize F_bm_0 (F_ao_0 a b) (F_ao_1 a b) (F_ao_2 a b) (!(F_ao_0 c d)) (F_ao_1 c d) (F_ao_2 c d) = neg at *
  generalize F_bm_1 (F_ao_0 a b) (F_ao_1 a b) (F_ao_2 a b) (!(F_ao_0 c d)) (F_ao_1 c d) (F_ao_2 c d) = lo at *
  generalize F_bm_2 (F_ao_0 a b) (F_ao_1 a b) (F_ao_2 a b) (!(F_ao_0 c d)) (F_ao_1 c d) (F_ao_2 c d) = hi at *
  obtain ⟨_, _⟩ := q1
  obtain ⟨_, _⟩ := q2
  unfold ordZ
  cases hz : (ieq lo 0 && ieq hi 0) with
  | true =>
    rw [Bool.and_eq_true, ieq_t, ieq_t] at hz
    obtain ⟨rfl, rfl⟩ := hz
    have : VW neg 0 0 = 0 := by cases neg <;> rfl
    rw [if_pos (by omega)]
    rfl
  | false =>
    have hne : lo ≠ 0 ∨ hi ≠ 0 := by
      by_cases h : lo = 0
      · right
        intro h'
        rw [ieq_t.2 h, ieq_t.2 h'] at hz
        cases hz
      · exact .inl h
    simp only [cond_false]
    cases neg
    · rw [VW_f] at q3
      rw [if_neg (by omega), if_neg (by omega)]; rfl
    · rw [VW_t] at q3
      rw [if_neg (by omega), if_pos (by omega)]; rfl
theorem Order_ok {a b c d : Int} (ha : Num' a) (hb : Num' b) (hc : Num' c) (hd : Num' d) : F_eh_0 a b c d = ordZ (a * b) (c * d) := by
  unfold F_eh_0
  obtain ⟨t1, t2, t3⟩ := times_ok ha hb
  obtain ⟨s1, s2, s3⟩ := times_ok hc hd
  rw [← t2, ← s2]
  have hl := less_ok (F_be_0 a b) (F_be_1 a b) (F_be_2 a b) (F_be_0 c d) (F_be_1 c d) (F_be_2 c d) t1.ul s1.ul
  generalize F_fc_0 (F_be_0 a b) (F_be_1 a b) (F_be_2 a b) (F_be_0 c d) (F_be_1 c d) (F_be_2 c d) = L at *
  obtain ⟨⟨_, _⟩, ⟨_, _⟩, c1⟩ := t1
  obtain ⟨⟨_, _⟩, ⟨_, _⟩, c2⟩ := s1
  clear t2 s2
  generalize F_be_0 a b = n1 at *
  generalize F_be_1 a b = h1 at *
  generalize F_be_2 a b = l1 at *
  generalize F_be_0 c d = n2 at *
  generalize F_be_1 c d = h2 at *
  generalize F_be_2 c d = l2 at *
  cases n1 <;> cases n2 <;> simp only [beqB_eq, VW_t, VW_f] <;> simp only [BEq.rfl, Bool.true_and, Bool.false_and, Bool.not_true, cond_false, cond_true, show (false == true) = false from rfl, show (true == false) = false from rfl, Bool.not_false]
  · cases hz : (ieq h1 h2 && ieq l1 l2) with
    | true =>
      rw [Bool.and_eq_true, ieq_t, ieq_t] at hz
      rw [cond_true, ordZ_e (by omega)]
    | false =>
      have hne : h1 ≠ h2 ∨ l1 ≠ l2 := by
        by_cases h : h1 = h2
        · right; intro h'; rw [ieq_t.2 h, ieq_t.2 h'] at hz; cases hz
        · exact .inl h
      rw [cond_false]
      cases L with
      | true => have := hl.1 rfl; rw [ordZ_l (by omega)]; rfl
      | false =>
        have : ¬ (h1 * 18446744073709551616 + l1 < h2 * 18446744073709551616 + l2) := fun h => by cases hl.2 h
        rw [ordZ_g (by omega)]; rfl
  · have := c2 rfl
    rw [ordZ_g (by omega)]
  · have := c1 rfl
    rw [ordZ_l (by omega)]
  · cases hz : (ieq h1 h2 && ieq l1 l2) with
    | true =>
      rw [Bool.and_eq_true, ieq_t, ieq_t] at hz
      rw [cond_true, ordZ_e (by omega)]
    | false =>
      have hne : h1 ≠ h2 ∨ l1 ≠ l2 := by
        by_cases h : h1 = h2
        · right; intro h'; rw [ieq_t.2 h, ieq_t.2 h'] at hz; cases hz
        · exact .inl h
      rw [cond_false]
      cases L with
      | true => have := hl.1 rfl; rw [ordZ_g (by omega)]; rfl
      | false =>
        have : ¬ (h1 * 18446744073709551616 + l1 < h2 * 18446744073709551616 + l2) := fun h => by cases hl.2 h
        rw [ordZ_l (by omega)]; rfl
def E_d8_1 (cm : Int) (ga : Bool) : Int := (F_bk_1 (F_bf_0 (F_av_0 cm ga)) (F_bf_1 (F_av_0 cm ga)) (F_bf_2 (F_av_0 cm ga)))
def E_d8_2 (cm : Int) (ga : Bool) : Int := (F_bk_2 (F_bf_0 (F_av_0 cm ga)) (F_bf_1 (F_av_0 cm ga)) (F_bf_2 (F_av_0 cm ga)))
def E_d8_3 (cm : Int) (ga : Bool) : Int := (F_ax_0 (E_d8_1 cm ga) (E_d8_2 cm ga))
def E_d8_4 (cm : Int) (ga : Bool) : Int := (F_br_0 false (E_d8_3 cm ga) 0 (F_av_1 cm ga))
def E_d8_5 (cm : Int) (ga : Bool) : Bool := (F_br_1 false (E_d8_3 cm ga) 0 (F_av_1 cm ga))
def B_d8 (cm : Int) (ga : Bool) (K0 : Int -> Bool -> Prop)  : Prop := Ts 3 (((P_av cm ga) /\ Ts 4 (cond (ilt (F_av_0 cm ga) 0) (Ts 3 (K0 0 true)) (Ts 2 (((P_bf (F_av_0 cm ga)) /\ ((P_bk (F_bf_0 (F_av_0 cm ga)) (F_bf_1 (F_av_0 cm ga)) (F_bf_2 (F_av_0 cm ga))) /\ Ts 1 (((P_ax (E_d8_1 cm ga) (E_d8_2 cm ga)) /\ Ts 4 (((P_br false (E_d8_3 cm ga) 0 (F_av_1 cm ga)) /\ Ts 1 ((true = true /\ Ts 1 (K0 (E_d8_4 cm ga) (E_d8_5 cm ga)))))))))))))))
def P_d8 (cm : Int) (ga : Bool) : Prop := (cond (ilt (F_av_0 cm ga) 0) True (P_ax (E_d8_1 cm ga) (E_d8_2 cm ga)))
def F_d8_0 (cm : Int) (ga : Bool) : Int := (cond (ilt (F_av_0 cm ga) 0) 0 (E_d8_4 cm ga))
def F_d8_1 (cm : Int) (ga : Bool) : Bool := (cond (ilt (F_av_0 cm ga) 0) true (E_d8_5 cm ga))
theorem H_d8 (cm : Int) (ga : Bool) {K0 : Int -> Bool -> Prop} (h : P_d8 cm ga) (hK : K0 (F_d8_0 cm ga) (F_d8_1 cm ga)) : B_d8 cm ga K0  := by
 unfold B_d8 P_d8 F_d8_0 F_d8_1 at *
 simp only [Ts_iff, true_and]; try simp only [Ts_iff, true_and] at h
 repeat' first | exact hK | (refine cond_intro (fun c => ?_) (fun c => ?_) <;> try simp only [c, cond_true, cond_false] at h hK ⊢) | refine ⟨rfl, ?_⟩ | refine ⟨trivial, ?_⟩ | refine ⟨by decide, ?_⟩ | (refine ⟨h.1, ?_⟩; replace h := h.2) | refine ⟨h, ?_⟩
theorem Sqrt_pk {v : Int} {f : Bool} (hv : Num' v) : P_d8 v f /\ P_dc v f /\ F_d8_0 v f = F_dc_0 v f /\ F_d8_1 v f = F_dc_1 v f /\ Num' (F_dc_0 v f) := by
  unfold P_d8 P_dc F_d8_0 F_d8_1 F_dc_0 F_dc_1
  simp only [E_dc_0, E_dc_1, E_dc_2, E_dc_3, E_dc_4, E_dc_5, E_dc_6, E_dc_7, E_d8_1, E_d8_2, E_d8_3, E_d8_4, E_d8_5]
  simp only [sound_0, sound_1, whole_eq, whole_id hv, wholeF_id hv]
  by_cases h : v < 0
  · rw [ilt_t.2 h]
    exact ⟨trivial, trivial, rfl, rfl, (show Num' 0 from ⟨by decide, by decide⟩)⟩
  · rw [ilt_f.2 (by omega)]
    simp only [cond_false]
    obtain ⟨e0, e1, e2, e3⟩ := bf_ok hv
    have u1 : U64 (F_bf_1 v) := by rw [e1]; obtain ⟨_, _⟩ := hv; exact ⟨by omega, by omega⟩
    obtain ⟨g1, g2, g3⟩ := fx_up_ok (neg := F_bf_0 v) u1 (hi := F_bf_2 v) (by rw [e2]; omega)
    obtain ⟨x1, x2⟩ := exact_ok hv
    have xs : F_ai_1 v = 0 := rfl
    have xl : F_ai_2 v = max v (-v) := size_eq hv
    obtain ⟨y1, y2, y3⟩ := up_ok (neg := F_ai_0 v) (hi := F_ai_1 v) (lo := F_ai_2 v) (by rw [xs]; omega) x1.ul
    rw [e1, e2] at g3
    rw [xl, xs] at y3
    have n1 : F_bk_2 (F_bf_0 v) (F_bf_1 v) (F_bf_2 v) * 18446744073709551616 + F_bk_1 (F_bf_0 v) (F_bf_1 v) (F_bf_2 v) = v * 4294967296 := by rw [e1, e2, g3]; omega
    have n2 : F_dr_1 (F_ai_0 v) (F_ai_1 v) (F_ai_2 v) * 18446744073709551616 + F_dr_2 (F_ai_0 v) (F_ai_1 v) (F_ai_2 v) = v * 4294967296 := by rw [xl, xs, y3]; omega
    have hU := rootZ_U (n := v * 4294967296) (by omega) (by obtain ⟨_, _⟩ := hv; omega)
    unfold F_ax_0 F_ca_0 F_ca_1 F_ca_2
    rw [n1, n2]
    obtain ⟨q1, q2⟩ := fx_fit_ok (neg := false) hU (hi := 0) ⟨by omega, by omega⟩ f
    obtain ⟨r1, r2⟩ := fit_ok (neg := false) (hi := 0) ⟨by omega, by omega⟩ hU f
    exact ⟨⟨g1, g2⟩, ⟨y1, y2⟩, by rw [q1, r1], by rw [q2, r2], by rw [r1]; exact satN_num _⟩
def B_bo (gk : Int) (gn : Bool) (ge : Int) (gg : Bool) (K0 : Int -> Bool -> Prop)  : Prop := Ts 6 (((P_bj gk gn ge gg) /\ Ts 2 (K0 (F_bj_0 gk gn ge gg) (F_bj_1 gk gn ge gg))))
def P_bo (gk : Int) (gn : Bool) (ge : Int) (gg : Bool) : Prop := (P_bj gk gn ge gg)
def F_bo_0 (gk : Int) (gn : Bool) (ge : Int) (gg : Bool) : Int := (F_bj_0 gk gn ge gg)
def F_bo_1 (gk : Int) (gn : Bool) (ge : Int) (gg : Bool) : Bool := (F_bj_1 gk gn ge gg)
theorem H_bo (gk : Int) (gn : Bool) (ge : Int) (gg : Bool) {K0 : Int -> Bool -> Prop} (h : P_bo gk gn ge gg) (hK : K0 (F_bo_0 gk gn ge gg) (F_bo_1 gk gn ge gg)) : B_bo gk gn ge gg K0  := by
 unfold B_bo P_bo F_bo_0 F_bo_1 at *
 simp only [Ts_iff, true_and]; try simp only [Ts_iff, true_and] at h
 repeat' first | exact hK | refine ⟨rfl, ?_⟩ | refine ⟨trivial, ?_⟩ | refine ⟨by decide, ?_⟩ | (refine ⟨h.1, ?_⟩; replace h := h.2) | refine ⟨h, ?_⟩
def B_dt (cm ga : Int) (K0 : Int -> Bool -> Int -> Bool -> Prop)  : Prop := Ts 4 (((P_b6 cm 256) /\ Ts 2 (((P_b6 ga 256) /\ Ts 2 ((true = true /\ Ts 1 (K0 (F_b6_0 cm 256) (F_b6_1 cm 256) (F_b6_0 ga 256) (F_b6_1 ga 256))))))))
def P_dt (cm ga : Int) : Prop := ((P_b6 cm 256) /\ (P_b6 ga 256))
def F_dt_0 (cm ga : Int) : Int := (F_b6_0 cm 256)
def F_dt_1 (cm ga : Int) : Bool := (F_b6_1 cm 256)
def F_dt_2 (cm ga : Int) : Int := (F_b6_0 ga 256)
def F_dt_3 (cm ga : Int) : Bool := (F_b6_1 ga 256)
theorem H_dt (cm ga : Int) {K0 : Int -> Bool -> Int -> Bool -> Prop} (h : P_dt cm ga) (hK : K0 (F_dt_0 cm ga) (F_dt_1 cm ga) (F_dt_2 cm ga) (F_dt_3 cm ga)) : B_dt cm ga K0  := by
 unfold B_dt P_dt F_dt_0 F_dt_1 F_dt_2 F_dt_3 at *
 simp only [Ts_iff, true_and]; try simp only [Ts_iff, true_and] at h
 repeat' first | exact hK | refine ⟨rfl, ?_⟩ | refine ⟨trivial, ?_⟩ | refine ⟨by decide, ?_⟩ | (refine ⟨h.1, ?_⟩; replace h := h.2) | refine ⟨h, ?_⟩
def B_cz_0 (gp : Nat) (gk : Nat -> Int) (gn : Nat -> Bool) (ge : Nat -> Int) (gg : Nat -> Bool) (je kf : Bool) (ib : Int) (jy : Nat) (ja : (Nat -> Int)) (jb : (Nat -> Bool)) (jz : Nat) (jc : (Nat -> Int)) (jd : (Nat -> Bool)) (c x0 : Bool -> Bool -> Int -> Nat -> (Nat -> Int) -> (Nat -> Bool) -> Nat -> (Nat -> Int) -> (Nat -> Bool) -> Prop)  : Prop := Ts 4 (cond (ilt ib ((gp : Nat) : Int)) (Ts 3 (((0 <= ib /\ ib < ((gp : Nat) : Int)) /\ Ts 3 ((((jy + 1) * 16 <= 1000000000000 /\ (jy + 1) <= 1000000000000) /\ Ts 3 (((0 <= ib /\ ib < ((gp : Nat) : Int)) /\ Ts 3 ((((jz + 1) * 16 <= 1000000000000 /\ (jz + 1) <= 1000000000000) /\ Ts 2 ((true = true /\ Ts 3 (c false false (iadd .i64 ib 1) (jy + 1) (pushF jy ja (gk (Int.toNat ib))) (pushF jy jb (gn (Int.toNat ib))) (jz + 1) (pushF jz jc (ge (Int.toNat ib))) (pushF jz jd (gg (Int.toNat ib))))))))))))))) (x0 je kf ib jy ja jb jz jc jd))
def W_cz_0 (gp : Nat) (gk : Nat -> Int) (gn : Nat -> Bool) (ge : Nat -> Int) (gg : Nat -> Bool) : Nat -> Bool -> Bool -> Int -> Nat -> (Nat -> Int) -> (Nat -> Bool) -> Nat -> (Nat -> Int) -> (Nat -> Bool) -> (Bool -> Bool -> Int -> Nat -> (Nat -> Int) -> (Nat -> Bool) -> Nat -> (Nat -> Int) -> (Nat -> Bool) -> Prop) -> Prop
  | 0, _, _, _, _, _, _, _, _, _, _ => False
  | f + 1, w0, w1, w2, w3, w4, w5, w6, w7, w8, x0 => B_cz_0 gp gk gn ge gg w0 w1 w2 w3 w4 w5 w6 w7 w8 (fun u0 u1 u2 u3 u4 u5 u6 u7 u8 => W_cz_0 gp gk gn ge gg f u0 u1 u2 u3 u4 u5 u6 u7 u8 x0) x0 
theorem BM_cz_0 (gp : Nat) (gk : Nat -> Int) (gn : Nat -> Bool) (ge : Nat -> Int) (gg : Nat -> Bool) (je kf : Bool) (ib : Int) (jy : Nat) (ja : (Nat -> Int)) (jb : (Nat -> Bool)) (jz : Nat) (jc : (Nat -> Int)) (jd : (Nat -> Bool)) {c c' : Bool -> Bool -> Int -> Nat -> (Nat -> Int) -> (Nat -> Bool) -> Nat -> (Nat -> Int) -> (Nat -> Bool) -> Prop} {x0 y0 : Bool -> Bool -> Int -> Nat -> (Nat -> Int) -> (Nat -> Bool) -> Nat -> (Nat -> Int) -> (Nat -> Bool) -> Prop} (hc : ∀ w0 w1 w2 w3 w4 w5 w6 w7 w8, c w0 w1 w2 w3 w4 w5 w6 w7 w8 -> c' w0 w1 w2 w3 w4 w5 w6 w7 w8) (h0 : ∀ o0 o1 o2 o3 o4 o5 o6 o7 o8, x0 o0 o1 o2 o3 o4 o5 o6 o7 o8 -> y0 o0 o1 o2 o3 o4 o5 o6 o7 o8) : B_cz_0 gp gk gn ge gg je kf ib jy ja jb jz jc jd c x0  -> B_cz_0 gp gk gn ge gg je kf ib jy ja jb jz jc jd c' y0  := by
  unfold B_cz_0
  repeat' first
    | exact hc _ _ _ _ _ _ _ _ _
    | exact h0 _ _ _ _ _ _ _ _ _
    | refine Ts_imp ?_
    | refine cond_imp ?_ ?_
    | refine and_imp' ?_
theorem WM_cz_0 (gp : Nat) (gk : Nat -> Int) (gn : Nat -> Bool) (ge : Nat -> Int) (gg : Nat -> Bool) {x0 y0 : Bool -> Bool -> Int -> Nat -> (Nat -> Int) -> (Nat -> Bool) -> Nat -> (Nat -> Int) -> (Nat -> Bool) -> Prop} (h0 : ∀ o0 o1 o2 o3 o4 o5 o6 o7 o8, x0 o0 o1 o2 o3 o4 o5 o6 o7 o8 -> y0 o0 o1 o2 o3 o4 o5 o6 o7 o8) : ∀ (f : Nat) (je kf : Bool) (ib : Int) (jy : Nat) (ja : (Nat -> Int)) (jb : (Nat -> Bool)) (jz : Nat) (jc : (Nat -> Int)) (jd : (Nat -> Bool)), W_cz_0 gp gk gn ge gg f je kf ib jy ja jb jz jc jd x0 -> W_cz_0 gp gk gn ge gg f je kf ib jy ja jb jz jc jd y0
  | 0, w0, w1, w2, w3, w4, w5, w6, w7, w8 => fun h => h
  | f + 1, w0, w1, w2, w3, w4, w5, w6, w7, w8 => BM_cz_0 gp gk gn ge gg w0 w1 w2 w3 w4 w5 w6 w7 w8 (fun u0 u1 u2 u3 u4 u5 u6 u7 u8 => WM_cz_0 gp gk gn ge gg h0 f u0 u1 u2 u3 u4 u5 u6 u7 u8) h0
def B_cz (gp : Nat) (gk : Nat -> Int) (gn : Nat -> Bool) (ge : Nat -> Int) (gg : Nat -> Bool) (K0 : Int -> Bool -> Int -> Bool -> Prop) (l0 : Bool -> Bool -> Int -> Nat -> (Nat -> Int) -> (Nat -> Bool) -> Nat -> (Nat -> Int) -> (Nat -> Bool) -> (Bool -> Bool -> Int -> Nat -> (Nat -> Int) -> (Nat -> Bool) -> Nat -> (Nat -> Int) -> (Nat -> Bool) -> Prop) -> Prop) : Prop := Ts 4 ((l0 true true 0 0 (fun _ => 0) (fun _ => false) 0 (fun _ => 0) (fun _ => false) (fun lu mb ku ky kp kq kz kr kt => Ts 1 (((P_cj ky kp kq) /\ Ts 1 (((P_cj kz kr kt) /\ Ts 3 (K0 (F_cj_0 ky kp kq) (F_cj_1 ky kp kq) (F_cj_0 kz kr kt) (F_cj_1 kz kr kt)))))))))
theorem sumN_congr {f g : Nat -> Int} : ∀ (n : Nat), (∀ k, k < n -> f k = g k) -> sumN f n = sumN g n
  | 0, _ => rfl
  | n + 1, h => by unfold sumN; rw [sumN_congr n (fun k hk => h k (by omega)), h n (by omega)]
theorem anyN_congr {f g : Nat -> Bool} : ∀ (n : Nat), (∀ k, k < n -> f k = g k) -> anyN f n = anyN g n
  | 0, _ => rfl
  | n + 1, h => by unfold anyN; rw [anyN_congr n (fun k hk => h k (by omega)), h n (by omega)]
theorem Sum_congr {n : Nat} {x x' : Nat -> Int} {y y' : Nat -> Bool} (h1 : ∀ k, k < n -> x k = x' k) (h2 : ∀ k, k < n -> y k = y' k) : F_cj_0 n x y = F_cj_0 n x' y' /\ F_cj_1 n x y = F_cj_1 n x' y' := by
  unfold F_cj_0 F_cj_1 F_bd_0
  rw [sumN_congr n h1, anyN_congr n (fun k hk => by show F_aq_1 (x k) (y k) = F_aq_1 (x' k) (y' k); rw [h1 k hk, h2 k hk])]
  exact ⟨rfl, rfl⟩
def P_cz (n : Nat) (xa : Nat -> Int) (xb : Nat -> Bool) (ya : Nat -> Int) (yb : Nat -> Bool) : Prop := n <= 1000000 /\ ∀ k, k < n -> I64' (xa k) /\ I64' (ya k)
def F_cz_0 (n : Nat) (xa : Nat -> Int) (xb : Nat -> Bool) (ya : Nat -> Int) (yb : Nat -> Bool) : Int := F_cj_0 n xa xb
def F_cz_1 (n : Nat) (xa : Nat -> Int) (xb : Nat -> Bool) (ya : Nat -> Int) (yb : Nat -> Bool) : Bool := F_cj_1 n xa xb
def F_cz_2 (n : Nat) (xa : Nat -> Int) (xb : Nat -> Bool) (ya : Nat -> Int) (yb : Nat -> Bool) : Int := F_cj_0 n ya yb
def F_cz_3 (n : Nat) (xa : Nat -> Int) (xb : Nat -> Bool) (ya : Nat -> Int) (yb : Nat -> Bool) : Bool := F_cj_1 n ya yb
theorem push_upto {α : Type} {i : Nat} {c a : Nat -> α} (h : ∀ k, k < i -> c k = a k) : ∀ k, k < i + 1 -> pushF i c (a i) k = a k := fun k hk => by
  unfold pushF
  cases hb : Nat.blt k i with
  | true => rw [Nat.blt_eq] at hb; exact h k hb
  | false =>
    have : ¬ k < i := fun e => by rw [← Nat.blt_eq, hb] at e; cases e
    rw [show k = i by omega]
    rfl
theorem W_cz_ok {n : Nat} {xa : Nat -> Int} {xb : Nat -> Bool} {ya : Nat -> Int} {yb : Nat -> Bool} (hn : n <= 1000000) {x0 : Bool -> Bool -> Int -> Nat -> (Nat -> Int) -> (Nat -> Bool) -> Nat -> (Nat -> Int) -> (Nat -> Bool) -> Prop}
    (h3 : ∀ q1 q2 v c0 c1 d0 d1, (∀ k, k < n -> c0 k = xa k) -> (∀ k, k < n -> c1 k = xb k) -> (∀ k, k < n -> d0 k = ya k) -> (∀ k, k < n -> d1 k = yb k) -> x0 q1 q2 v n c0 c1 n d0 d1) : ∀ (f i : Nat) (q1 q2 : Bool) (c0 : Nat -> Int) (c1 : Nat -> Bool) (d0 : Nat -> Int) (d1 : Nat -> Bool), i <= n -> n < f + i -> (∀ k, k < i -> c0 k = xa k) -> (∀ k, k < i -> c1 k = xb k) -> (∀ k, k < i -> d0 k = ya k) -> (∀ k, k < i -> d1 k = yb k) -> W_cz_0 n xa xb ya yb f q1 q2 i i c0 c1 i d0 d1 x0
  | 0, i, _, _, _, _, _, _, h1, h2, _, _, _, _ => by omega
  | f + 1, i, q1, q2, c0, c1, d0, d1, h1, h2, g1, g2, g3, g4 => by
    show B_cz_0 n xa xb ya yb _ _ i _ _ _ _ _ _ _ _
    unfold B_cz_0
    simp only [Ts_iff, true_and, Int.toNat_natCast, Nat.zero_add]
    refine cond_intro (fun hc => ?_) (fun hc => ?_)
    · rw [ilt_t] at hc
      refine ⟨⟨by omega, hc⟩, ⟨by omega, by omega⟩, ⟨by omega, hc⟩, ⟨by omega, by omega⟩, ?_⟩
      rw [iadd64 (by omega) (by omega)]
      exact W_cz_ok hn h3 f (i + 1) _ _ _ _ _ _ (by omega) (by omega) (push_upto g1) (push_upto g2) (push_upto g3) (push_upto g4)
    · rw [ilt_f] at hc
      have : i = n := by omega
      subst this
      exact h3 _ _ _ _ _ _ _ g1 g2 g3 g4
theorem H_cz (gp : Nat) (gk : Nat -> Int) (gn : Nat -> Bool) (ge : Nat -> Int) (gg : Nat -> Bool) {K0 : Int -> Bool -> Int -> Bool -> Prop} (h : P_cz gp gk gn ge gg) (hK : K0 (F_cz_0 gp gk gn ge gg) (F_cz_1 gp gk gn ge gg) (F_cz_2 gp gk gn ge gg) (F_cz_3 gp gk gn ge gg)) : B_cz gp gk gn ge gg K0 (W_cz_0 gp gk gn ge gg fuel) := by
  unfold B_cz
  simp only [Ts_iff, true_and]
  obtain ⟨hn, hx⟩ := h
  refine W_cz_ok hn (fun q1 q2 v c0 c1 d0 d1 g1 g2 g3 g4 => ?_) fuel 0 _ _ _ _ _ _ (Nat.zero_le _) (by rw [fuel_eq]; omega) (fun k hk => by omega) (fun k hk => by omega) (fun k hk => by omega) (fun k hk => by omega)
  obtain ⟨s1, s2⟩ := Sum_congr g1 g2
  obtain ⟨s3, s4⟩ := Sum_congr g3 g4
  refine ⟨⟨hn, fun k hk => by rw [g1 k hk]; exact (hx k hk).1⟩, ⟨hn, fun k hk => by rw [g3 k hk]; exact (hx k hk).2⟩, ?_⟩
  rw [s1, s2, s3, s4]
  exact hK
def B_dx (cm : Int) (ga : Bool) (K0 : Bool -> Prop)  : Prop := Ts 4 (((P_cj 1 (fun _ => cm) (fun _ => ga)) /\ Ts 2 (K0 (F_cj_1 1 (fun _ => cm) (fun _ => ga)))))
def P_dx (cm : Int) (ga : Bool) : Prop := (P_cj 1 (fun _ => cm) (fun _ => ga))
def F_dx_0 (cm : Int) (ga : Bool) : Bool := (F_cj_1 1 (fun _ => cm) (fun _ => ga))
theorem H_dx (cm : Int) (ga : Bool) {K0 : Bool -> Prop} (h : P_dx cm ga) (hK : K0 (F_dx_0 cm ga)) : B_dx cm ga K0  := by
 unfold B_dx P_dx F_dx_0 at *
 simp only [Ts_iff, true_and]; try simp only [Ts_iff, true_and] at h
 repeat' first | exact hK | refine ⟨rfl, ?_⟩ | refine ⟨trivial, ?_⟩ | refine ⟨by decide, ?_⟩ | (refine ⟨h.1, ?_⟩; replace h := h.2) | refine ⟨h, ?_⟩
def B_b7_0 (gp : Nat) (gk : Nat -> Int) (gn : Nat -> Bool) (ge : Nat -> Int) (gg : Nat -> Bool) (gz : Int) (c x0 : Int -> Prop) (x1 : Bool -> Int -> Prop)  : Prop := Ts 4 (cond (ilt gz ((gp : Nat) : Int)) (Ts 2 (((0 <= gz /\ gz < ((gp : Nat) : Int)) /\ Ts 2 (((P_dx (gk (Int.toNat gz)) (gn (Int.toNat gz))) /\ Ts 1 (cond (F_dx_0 (gk (Int.toNat gz)) (gn (Int.toNat gz))) (Ts 2 (x1 true gz)) (Ts 2 (((0 <= gz /\ gz < ((gp : Nat) : Int)) /\ Ts 2 (((P_dx (ge (Int.toNat gz)) (gg (Int.toNat gz))) /\ Ts 1 (cond (F_dx_0 (ge (Int.toNat gz)) (gg (Int.toNat gz))) (Ts 1 (x1 true gz)) (Ts 3 (c (iadd .i64 gz 1))))))))))))))) (x0 gz))
def W_b7_0 (gp : Nat) (gk : Nat -> Int) (gn : Nat -> Bool) (ge : Nat -> Int) (gg : Nat -> Bool) : Nat -> Int -> (Int -> Prop) -> (Bool -> Int -> Prop) -> Prop
  | 0, _, _, _ => False
  | f + 1, w0, x0, x1 => B_b7_0 gp gk gn ge gg w0 (fun u0 => W_b7_0 gp gk gn ge gg f u0 x0 x1) x0 x1 
theorem BM_b7_0 (gp : Nat) (gk : Nat -> Int) (gn : Nat -> Bool) (ge : Nat -> Int) (gg : Nat -> Bool) (gz : Int) {c c' : Int -> Prop} {x0 y0 : Int -> Prop} {x1 y1 : Bool -> Int -> Prop} (hc : ∀ w0, c w0 -> c' w0) (h0 : ∀ o0, x0 o0 -> y0 o0) (h1 : ∀ o0 o1, x1 o0 o1 -> y1 o0 o1) : B_b7_0 gp gk gn ge gg gz c x0 x1  -> B_b7_0 gp gk gn ge gg gz c' y0 y1  := by
  unfold B_b7_0
  repeat' first
    | exact hc _
    | exact h0 _
    | exact h1 _ _
    | refine Ts_imp ?_
    | refine cond_imp ?_ ?_
    | refine and_imp' ?_
theorem WM_b7_0 (gp : Nat) (gk : Nat -> Int) (gn : Nat -> Bool) (ge : Nat -> Int) (gg : Nat -> Bool) {x0 y0 : Int -> Prop} {x1 y1 : Bool -> Int -> Prop} (h0 : ∀ o0, x0 o0 -> y0 o0) (h1 : ∀ o0 o1, x1 o0 o1 -> y1 o0 o1) : ∀ (f : Nat) (gz : Int), W_b7_0 gp gk gn ge gg f gz x0 x1 -> W_b7_0 gp gk gn ge gg f gz y0 y1
  | 0, w0 => fun h => h
  | f + 1, w0 => BM_b7_0 gp gk gn ge gg w0 (fun u0 => WM_b7_0 gp gk gn ge gg h0 h1 f u0) h0 h1
def B_b7 (gp : Nat) (gk : Nat -> Int) (gn : Nat -> Bool) (ge : Nat -> Int) (gg : Nat -> Bool) (K0 : Bool -> Prop) (l0 : Int -> (Int -> Prop) -> (Bool -> Int -> Prop) -> Prop) : Prop := Ts 2 ((l0 0 (fun kc => Ts 1 (K0 false)) (fun i9 kc => K0 i9)))
def P_b7 (n : Nat) (a : Nat -> Int) (b : Nat -> Bool) (c : Nat -> Int) (d : Nat -> Bool) : Prop := n <= 1000000 /\ ∀ k, k < n -> P_dx (a k) (b k) /\ P_dx (c k) (d k)
def F_b7_0 (n : Nat) (a : Nat -> Int) (b : Nat -> Bool) (c : Nat -> Int) (d : Nat -> Bool) : Bool := anyN (fun k => F_dx_0 (a k) (b k) || F_dx_0 (c k) (d k)) n
theorem W_b7_ok {n : Nat} {a : Nat -> Int} {b : Nat -> Bool} {c : Nat -> Int} {d : Nat -> Bool} (hp : P_b7 n a b c d) {x0 : Int -> Prop} {x1 : Bool -> Int -> Prop} (h3 : (∀ k, k < n -> (F_dx_0 (a k) (b k) || F_dx_0 (c k) (d k)) = false) -> ∀ v, x0 v) (h4 : ∀ k, k < n -> (F_dx_0 (a k) (b k) || F_dx_0 (c k) (d k)) = true -> ∀ v, x1 true v) : ∀ (f i : Nat), i <= n -> n < f + i -> (∀ k, k < i -> (F_dx_0 (a k) (b k) || F_dx_0 (c k) (d k)) = false) -> W_b7_0 n a b c d f i x0 x1
  | 0, i, h1, h2, _ => by omega
  | f + 1, i, h1, h2, g => by
    show B_b7_0 n a b c d i _ _ _
    unfold B_b7_0
    simp only [Ts_iff, Int.toNat_natCast]
    refine cond_intro (fun hc => ?_) (fun hc => ?_)
    · rw [ilt_t] at hc
      have hn := hp.1
      obtain ⟨p1, p2⟩ := hp.2 i (by omega)
      refine ⟨⟨by omega, hc⟩, p1, cond_intro (fun hd => h4 i (by omega) (by rw [hd, Bool.true_or]) _) (fun hd => ⟨⟨by omega, hc⟩, p2, cond_intro (fun he => h4 i (by omega) (by rw [he, Bool.or_true]) _) (fun he => ?_)⟩)⟩
      rw [iadd64 (by omega) (by omega)]
      exact W_b7_ok hp h3 h4 f (i + 1) (by omega) (by omega) (fun k hk => if e : k = i then by subst e; rw [hd, he]; rfl else g k (by omega))
    · rw [ilt_f] at hc
      exact h3 (fun k hk => g k (by omega)) _
theorem H_b7 (gp : Nat) (gk : Nat -> Int) (gn : Nat -> Bool) (ge : Nat -> Int) (gg : Nat -> Bool) {K0 : Bool -> Prop} (h : P_b7 gp gk gn ge gg) (hK : K0 (F_b7_0 gp gk gn ge gg)) : B_b7 gp gk gn ge gg K0 (W_b7_0 gp gk gn ge gg fuel) := by
  unfold B_b7
  simp only [Ts_iff]
  obtain ⟨h3, h4⟩ := any_loop K0 hK
  exact W_b7_ok h (fun h v => h3 h) (fun k hk hs v => h4 k hk hs) fuel 0 (Nat.zero_le _) (by rw [fuel_eq]; have := h.1; omega) (fun k hk => by omega)
def B_di (gk : Int) (gn : Bool) (ge : Int) (gg : Bool) (K0 : Int -> Bool -> Int -> Bool -> Bool -> Prop)  : Prop := Ts 5 (((P_b7 1 (fun _ => gk) (fun _ => gn) (fun _ => ge) (fun _ => gg)) /\ cond (F_b7_0 1 (fun _ => gk) (fun _ => gn) (fun _ => ge) (fun _ => gg)) (Ts 4 (K0 0 false 0 false false)) (Ts 5 (((P_fg gk gn) /\ Ts 3 (cond (ilt (F_fg_0 gk gn) 16777216) (Ts 2 (((P_fg ge gg) /\ Ts 3 (cond (ilt (F_fg_0 ge gg) 16777216) (Ts 4 (((P_bx (imul .i64 gk 16777216)) /\ Ts 4 (((P_bx (imul .i64 ge 16777216)) /\ Ts 2 ((true = true /\ Ts 1 (((P_bo (F_bx_0 (imul .i64 gk 16777216)) (F_bx_1 (imul .i64 gk 16777216)) (F_bx_0 (imul .i64 ge 16777216)) (F_bx_1 (imul .i64 ge 16777216))) /\ Ts 5 (cond (F_bo_1 (F_bx_0 (imul .i64 gk 16777216)) (F_bx_1 (imul .i64 gk 16777216)) (F_bx_0 (imul .i64 ge 16777216)) (F_bx_1 (imul .i64 ge 16777216))) (Ts 5 (K0 0 false 0 false false)) (Ts 4 (cond (ieq (F_bo_0 (F_bx_0 (imul .i64 gk 16777216)) (F_bx_1 (imul .i64 gk 16777216)) (F_bx_0 (imul .i64 ge 16777216)) (F_bx_1 (imul .i64 ge 16777216))) 0) (Ts 4 (K0 0 false 0 false false)) (Ts 3 (((P_dp (F_bx_0 (imul .i64 gk 16777216)) (F_bx_1 (imul .i64 gk 16777216)) (F_bo_0 (F_bx_0 (imul .i64 gk 16777216)) (F_bx_1 (imul .i64 gk 16777216)) (F_bx_0 (imul .i64 ge 16777216)) (F_bx_1 (imul .i64 ge 16777216))) (F_bo_1 (F_bx_0 (imul .i64 gk 16777216)) (F_bx_1 (imul .i64 gk 16777216)) (F_bx_0 (imul .i64 ge 16777216)) (F_bx_1 (imul .i64 ge 16777216)))) /\ Ts 3 (((P_dp (F_bx_0 (imul .i64 ge 16777216)) (F_bx_1 (imul .i64 ge 16777216)) (F_bo_0 (F_bx_0 (imul .i64 gk 16777216)) (F_bx_1 (imul .i64 gk 16777216)) (F_bx_0 (imul .i64 ge 16777216)) (F_bx_1 (imul .i64 ge 16777216))) (F_bo_1 (F_bx_0 (imul .i64 gk 16777216)) (F_bx_1 (imul .i64 gk 16777216)) (F_bx_0 (imul .i64 ge 16777216)) (F_bx_1 (imul .i64 ge 16777216)))) /\ Ts 3 ((true = true /\ Ts 1 (K0 (F_dp_0 (F_bx_0 (imul .i64 gk 16777216)) (F_bx_1 (imul .i64 gk 16777216)) (F_bo_0 (F_bx_0 (imul .i64 gk 16777216)) (F_bx_1 (imul .i64 gk 16777216)) (F_bx_0 (imul .i64 ge 16777216)) (F_bx_1 (imul .i64 ge 16777216))) (F_bo_1 (F_bx_0 (imul .i64 gk 16777216)) (F_bx_1 (imul .i64 gk 16777216)) (F_bx_0 (imul .i64 ge 16777216)) (F_bx_1 (imul .i64 ge 16777216)))) (F_dp_1 (F_bx_0 (imul .i64 gk 16777216)) (F_bx_1 (imul .i64 gk 16777216)) (F_bo_0 (F_bx_0 (imul .i64 gk 16777216)) (F_bx_1 (imul .i64 gk 16777216)) (F_bx_0 (imul .i64 ge 16777216)) (F_bx_1 (imul .i64 ge 16777216))) (F_bo_1 (F_bx_0 (imul .i64 gk 16777216)) (F_bx_1 (imul .i64 gk 16777216)) (F_bx_0 (imul .i64 ge 16777216)) (F_bx_1 (imul .i64 ge 16777216)))) (F_dp_0 (F_bx_0 (imul .i64 ge 16777216)) (F_bx_1 (imul .i64 ge 16777216)) (F_bo_0 (F_bx_0 (imul .i64 gk 16777216)) (F_bx_1 (imul .i64 gk 16777216)) (F_bx_0 (imul .i64 ge 16777216)) (F_bx_1 (imul .i64 ge 16777216))) (F_bo_1 (F_bx_0 (imul .i64 gk 16777216)) (F_bx_1 (imul .i64 gk 16777216)) (F_bx_0 (imul .i64 ge 16777216)) (F_bx_1 (imul .i64 ge 16777216)))) (F_dp_1 (F_bx_0 (imul .i64 ge 16777216)) (F_bx_1 (imul .i64 ge 16777216)) (F_bo_0 (F_bx_0 (imul .i64 gk 16777216)) (F_bx_1 (imul .i64 gk 16777216)) (F_bx_0 (imul .i64 ge 16777216)) (F_bx_1 (imul .i64 ge 16777216))) (F_bo_1 (F_bx_0 (imul .i64 gk 16777216)) (F_bx_1 (imul .i64 gk 16777216)) (F_bx_0 (imul .i64 ge 16777216)) (F_bx_1 (imul .i64 ge 16777216)))) true)))))))))))))))))))) (Ts 1 (((P_bo gk gn ge gg) /\ Ts 5 (cond (F_bo_1 gk gn ge gg) (Ts 5 (K0 0 false 0 false false)) (Ts 4 (cond (ieq (F_bo_0 gk gn ge gg) 0) (Ts 4 (K0 0 false 0 false false)) (Ts 3 (((P_dp gk gn (F_bo_0 gk gn ge gg) (F_bo_1 gk gn ge gg)) /\ Ts 3 (((P_dp ge gg (F_bo_0 gk gn ge gg) (F_bo_1 gk gn ge gg)) /\ Ts 3 ((true = true /\ Ts 1 (K0 (F_dp_0 gk gn (F_bo_0 gk gn ge gg) (F_bo_1 gk gn ge gg)) (F_dp_1 gk gn (F_bo_0 gk gn ge gg) (F_bo_1 gk gn ge gg)) (F_dp_0 ge gg (F_bo_0 gk gn ge gg) (F_bo_1 gk gn ge gg)) (F_dp_1 ge gg (F_bo_0 gk gn ge gg) (F_bo_1 gk gn ge gg)) true)))))))))))))))))) (Ts 2 (((P_bo gk gn ge gg) /\ Ts 5 (cond (F_bo_1 gk gn ge gg) (Ts 5 (K0 0 false 0 false false)) (Ts 4 (cond (ieq (F_bo_0 gk gn ge gg) 0) (Ts 4 (K0 0 false 0 false false)) (Ts 3 (((P_dp gk gn (F_bo_0 gk gn ge gg) (F_bo_1 gk gn ge gg)) /\ Ts 3 (((P_dp ge gg (F_bo_0 gk gn ge gg) (F_bo_1 gk gn ge gg)) /\ Ts 3 ((true = true /\ Ts 1 (K0 (F_dp_0 gk gn (F_bo_0 gk gn ge gg) (F_bo_1 gk gn ge gg)) (F_dp_1 gk gn (F_bo_0 gk gn ge gg) (F_bo_1 gk gn ge gg)) (F_dp_0 ge gg (F_bo_0 gk gn ge gg) (F_bo_1 gk gn ge gg)) (F_dp_1 ge gg (F_bo_0 gk gn ge gg) (F_bo_1 gk gn ge gg)) true))))))))))))))))))))
def P_di (gk : Int) (gn : Bool) (ge : Int) (gg : Bool) : Prop := ((P_b7 1 (fun _ => gk) (fun _ => gn) (fun _ => ge) (fun _ => gg)) /\ (cond (F_b7_0 1 (fun _ => gk) (fun _ => gn) (fun _ => ge) (fun _ => gg)) True (cond (ilt (F_fg_0 gk gn) 16777216) (cond (ilt (F_fg_0 ge gg) 16777216) ((P_bo (F_bx_0 (imul .i64 gk 16777216)) (F_bx_1 (imul .i64 gk 16777216)) (F_bx_0 (imul .i64 ge 16777216)) (F_bx_1 (imul .i64 ge 16777216))) /\ (cond (F_bo_1 (F_bx_0 (imul .i64 gk 16777216)) (F_bx_1 (imul .i64 gk 16777216)) (F_bx_0 (imul .i64 ge 16777216)) (F_bx_1 (imul .i64 ge 16777216))) True (cond (ieq (F_bo_0 (F_bx_0 (imul .i64 gk 16777216)) (F_bx_1 (imul .i64 gk 16777216)) (F_bx_0 (imul .i64 ge 16777216)) (F_bx_1 (imul .i64 ge 16777216))) 0) True ((P_dp (F_bx_0 (imul .i64 gk 16777216)) (F_bx_1 (imul .i64 gk 16777216)) (F_bo_0 (F_bx_0 (imul .i64 gk 16777216)) (F_bx_1 (imul .i64 gk 16777216)) (F_bx_0 (imul .i64 ge 16777216)) (F_bx_1 (imul .i64 ge 16777216))) (F_bo_1 (F_bx_0 (imul .i64 gk 16777216)) (F_bx_1 (imul .i64 gk 16777216)) (F_bx_0 (imul .i64 ge 16777216)) (F_bx_1 (imul .i64 ge 16777216)))) /\ (P_dp (F_bx_0 (imul .i64 ge 16777216)) (F_bx_1 (imul .i64 ge 16777216)) (F_bo_0 (F_bx_0 (imul .i64 gk 16777216)) (F_bx_1 (imul .i64 gk 16777216)) (F_bx_0 (imul .i64 ge 16777216)) (F_bx_1 (imul .i64 ge 16777216))) (F_bo_1 (F_bx_0 (imul .i64 gk 16777216)) (F_bx_1 (imul .i64 gk 16777216)) (F_bx_0 (imul .i64 ge 16777216)) (F_bx_1 (imul .i64 ge 16777216)))))))) ((P_bo gk gn ge gg) /\ (cond (F_bo_1 gk gn ge gg) True (cond (ieq (F_bo_0 gk gn ge gg) 0) True ((P_dp gk gn (F_bo_0 gk gn ge gg) (F_bo_1 gk gn ge gg)) /\ (P_dp ge gg (F_bo_0 gk gn ge gg) (F_bo_1 gk gn ge gg))))))) ((P_bo gk gn ge gg) /\ (cond (F_bo_1 gk gn ge gg) True (cond (ieq (F_bo_0 gk gn ge gg) 0) True ((P_dp gk gn (F_bo_0 gk gn ge gg) (F_bo_1 gk gn ge gg)) /\ (P_dp ge gg (F_bo_0 gk gn ge gg) (F_bo_1 gk gn ge gg)))))))))
def F_di_0 (gk : Int) (gn : Bool) (ge : Int) (gg : Bool) : Int := (cond (F_b7_0 1 (fun _ => gk) (fun _ => gn) (fun _ => ge) (fun _ => gg)) 0 (cond (ilt (F_fg_0 gk gn) 16777216) (cond (ilt (F_fg_0 ge gg) 16777216) (cond (F_bo_1 (F_bx_0 (imul .i64 gk 16777216)) (F_bx_1 (imul .i64 gk 16777216)) (F_bx_0 (imul .i64 ge 16777216)) (F_bx_1 (imul .i64 ge 16777216))) 0 (cond (ieq (F_bo_0 (F_bx_0 (imul .i64 gk 16777216)) (F_bx_1 (imul .i64 gk 16777216)) (F_bx_0 (imul .i64 ge 16777216)) (F_bx_1 (imul .i64 ge 16777216))) 0) 0 (F_dp_0 (F_bx_0 (imul .i64 gk 16777216)) (F_bx_1 (imul .i64 gk 16777216)) (F_bo_0 (F_bx_0 (imul .i64 gk 16777216)) (F_bx_1 (imul .i64 gk 16777216)) (F_bx_0 (imul .i64 ge 16777216)) (F_bx_1 (imul .i64 ge 16777216))) (F_bo_1 (F_bx_0 (imul .i64 gk 16777216)) (F_bx_1 (imul .i64 gk 16777216)) (F_bx_0 (imul .i64 ge 16777216)) (F_bx_1 (imul .i64 ge 16777216)))))) (cond (F_bo_1 gk gn ge gg) 0 (cond (ieq (F_bo_0 gk gn ge gg) 0) 0 (F_dp_0 gk gn (F_bo_0 gk gn ge gg) (F_bo_1 gk gn ge gg))))) (cond (F_bo_1 gk gn ge gg) 0 (cond (ieq (F_bo_0 gk gn ge gg) 0) 0 (F_dp_0 gk gn (F_bo_0 gk gn ge gg) (F_bo_1 gk gn ge gg))))))
def F_di_1 (gk : Int) (gn : Bool) (ge : Int) (gg : Bool) : Bool := (cond (F_b7_0 1 (fun _ => gk) (fun _ => gn) (fun _ => ge) (fun _ => gg)) false (cond (ilt (F_fg_0 gk gn) 16777216) (cond (ilt (F_fg_0 ge gg) 16777216) (cond (F_bo_1 (F_bx_0 (imul .i64 gk 16777216)) (F_bx_1 (imul .i64 gk 16777216)) (F_bx_0 (imul .i64 ge 16777216)) (F_bx_1 (imul .i64 ge 16777216))) false (cond (ieq (F_bo_0 (F_bx_0 (imul .i64 gk 16777216)) (F_bx_1 (imul .i64 gk 16777216)) (F_bx_0 (imul .i64 ge 16777216)) (F_bx_1 (imul .i64 ge 16777216))) 0) false (F_dp_1 (F_bx_0 (imul .i64 gk 16777216)) (F_bx_1 (imul .i64 gk 16777216)) (F_bo_0 (F_bx_0 (imul .i64 gk 16777216)) (F_bx_1 (imul .i64 gk 16777216)) (F_bx_0 (imul .i64 ge 16777216)) (F_bx_1 (imul .i64 ge 16777216))) (F_bo_1 (F_bx_0 (imul .i64 gk 16777216)) (F_bx_1 (imul .i64 gk 16777216)) (F_bx_0 (imul .i64 ge 16777216)) (F_bx_1 (imul .i64 ge 16777216)))))) (cond (F_bo_1 gk gn ge gg) false (cond (ieq (F_bo_0 gk gn ge gg) 0) false (F_dp_1 gk gn (F_bo_0 gk gn ge gg) (F_bo_1 gk gn ge gg))))) (cond (F_bo_1 gk gn ge gg) false (cond (ieq (F_bo_0 gk gn ge gg) 0) false (F_dp_1 gk gn (F_bo_0 gk gn ge gg) (F_bo_1 gk gn ge gg))))))
def F_di_2 (gk : Int) (gn : Bool) (ge : Int) (gg : Bool) : Int := (cond (F_b7_0 1 (fun _ => gk) (fun _ => gn) (fun _ => ge) (fun _ => gg)) 0 (cond (ilt (F_fg_0 gk gn) 16777216) (cond (ilt (F_fg_0 ge gg) 16777216) (cond (F_bo_1 (F_bx_0 (imul .i64 gk 16777216)) (F_bx_1 (imul .i64 gk 16777216)) (F_bx_0 (imul .i64 ge 16777216)) (F_bx_1 (imul .i64 ge 16777216))) 0 (cond (ieq (F_bo_0 (F_bx_0 (imul .i64 gk 16777216)) (F_bx_1 (imul .i64 gk 16777216)) (F_bx_0 (imul .i64 ge 16777216)) (F_bx_1 (imul .i64 ge 16777216))) 0) 0 (F_dp_0 (F_bx_0 (imul .i64 ge 16777216)) (F_bx_1 (imul .i64 ge 16777216)) (F_bo_0 (F_bx_0 (imul .i64 gk 16777216)) (F_bx_1 (imul .i64 gk 16777216)) (F_bx_0 (imul .i64 ge 16777216)) (F_bx_1 (imul .i64 ge 16777216))) (F_bo_1 (F_bx_0 (imul .i64 gk 16777216)) (F_bx_1 (imul .i64 gk 16777216)) (F_bx_0 (imul .i64 ge 16777216)) (F_bx_1 (imul .i64 ge 16777216)))))) (cond (F_bo_1 gk gn ge gg) 0 (cond (ieq (F_bo_0 gk gn ge gg) 0) 0 (F_dp_0 ge gg (F_bo_0 gk gn ge gg) (F_bo_1 gk gn ge gg))))) (cond (F_bo_1 gk gn ge gg) 0 (cond (ieq (F_bo_0 gk gn ge gg) 0) 0 (F_dp_0 ge gg (F_bo_0 gk gn ge gg) (F_bo_1 gk gn ge gg))))))
def F_di_3 (gk : Int) (gn : Bool) (ge : Int) (gg : Bool) : Bool := (cond (F_b7_0 1 (fun _ => gk) (fun _ => gn) (fun _ => ge) (fun _ => gg)) false (cond (ilt (F_fg_0 gk gn) 16777216) (cond (ilt (F_fg_0 ge gg) 16777216) (cond (F_bo_1 (F_bx_0 (imul .i64 gk 16777216)) (F_bx_1 (imul .i64 gk 16777216)) (F_bx_0 (imul .i64 ge 16777216)) (F_bx_1 (imul .i64 ge 16777216))) false (cond (ieq (F_bo_0 (F_bx_0 (imul .i64 gk 16777216)) (F_bx_1 (imul .i64 gk 16777216)) (F_bx_0 (imul .i64 ge 16777216)) (F_bx_1 (imul .i64 ge 16777216))) 0) false (F_dp_1 (F_bx_0 (imul .i64 ge 16777216)) (F_bx_1 (imul .i64 ge 16777216)) (F_bo_0 (F_bx_0 (imul .i64 gk 16777216)) (F_bx_1 (imul .i64 gk 16777216)) (F_bx_0 (imul .i64 ge 16777216)) (F_bx_1 (imul .i64 ge 16777216))) (F_bo_1 (F_bx_0 (imul .i64 gk 16777216)) (F_bx_1 (imul .i64 gk 16777216)) (F_bx_0 (imul .i64 ge 16777216)) (F_bx_1 (imul .i64 ge 16777216)))))) (cond (F_bo_1 gk gn ge gg) false (cond (ieq (F_bo_0 gk gn ge gg) 0) false (F_dp_1 ge gg (F_bo_0 gk gn ge gg) (F_bo_1 gk gn ge gg))))) (cond (F_bo_1 gk gn ge gg) false (cond (ieq (F_bo_0 gk gn ge gg) 0) false (F_dp_1 ge gg (F_bo_0 gk gn ge gg) (F_bo_1 gk gn ge gg))))))
def F_di_4 (gk : Int) (gn : Bool) (ge : Int) (gg : Bool) : Bool := (cond (F_b7_0 1 (fun _ => gk) (fun _ => gn) (fun _ => ge) (fun _ => gg)) false (cond (ilt (F_fg_0 gk gn) 16777216) (cond (ilt (F_fg_0 ge gg) 16777216) (cond (F_bo_1 (F_bx_0 (imul .i64 gk 16777216)) (F_bx_1 (imul .i64 gk 16777216)) (F_bx_0 (imul .i64 ge 16777216)) (F_bx_1 (imul .i64 ge 16777216))) false (cond (ieq (F_bo_0 (F_bx_0 (imul .i64 gk 16777216)) (F_bx_1 (imul .i64 gk 16777216)) (F_bx_0 (imul .i64 ge 16777216)) (F_bx_1 (imul .i64 ge 16777216))) 0) false true)) (cond (F_bo_1 gk gn ge gg) false (cond (ieq (F_bo_0 gk gn ge gg) 0) false true))) (cond (F_bo_1 gk gn ge gg) false (cond (ieq (F_bo_0 gk gn ge gg) 0) false true))))
theorem H_di (gk : Int) (gn : Bool) (ge : Int) (gg : Bool) {K0 : Int -> Bool -> Int -> Bool -> Bool -> Prop} (h : P_di gk gn ge gg) (hK : K0 (F_di_0 gk gn ge gg) (F_di_1 gk gn ge gg) (F_di_2 gk gn ge gg) (F_di_3 gk gn ge gg) (F_di_4 gk gn ge gg)) : B_di gk gn ge gg K0  := by
 unfold B_di P_di F_di_0 F_di_1 F_di_2 F_di_3 F_di_4 at *
 simp only [Ts_iff, true_and]; try simp only [Ts_iff, true_and] at h
 repeat' first | exact hK | (refine cond_intro (fun c => ?_) (fun c => ?_) <;> try simp only [c, cond_true, cond_false] at h hK ⊢) | refine ⟨rfl, ?_⟩ | refine ⟨trivial, ?_⟩ | refine ⟨by decide, ?_⟩ | (refine ⟨h.1, ?_⟩; replace h := h.2) | refine ⟨h, ?_⟩
def B_ew (gk : Int) (gn : Bool) (ge : Int) (gg : Bool) (ig : Int) (ii : Bool) (g8 : Int) (g9 : Bool) (K0 : Int -> Bool -> Prop)  : Prop := Ts 9 (((P_ep ge gg) /\ Ts 2 (((P_bw gk gn g8 g9 (F_ep_0 ge gg) (F_ep_1 ge gg) ig ii) /\ Ts 1 ((true = true /\ Ts 1 (K0 (F_bw_0 gk gn g8 g9 (F_ep_0 ge gg) (F_ep_1 ge gg) ig ii) (F_bw_1 gk gn g8 g9 (F_ep_0 ge gg) (F_ep_1 ge gg) ig ii))))))))
def P_ew (gk : Int) (gn : Bool) (ge : Int) (gg : Bool) (ig : Int) (ii : Bool) (g8 : Int) (g9 : Bool) : Prop := (P_bw gk gn g8 g9 (F_ep_0 ge gg) (F_ep_1 ge gg) ig ii)
def F_ew_0 (gk : Int) (gn : Bool) (ge : Int) (gg : Bool) (ig : Int) (ii : Bool) (g8 : Int) (g9 : Bool) : Int := (F_bw_0 gk gn g8 g9 (F_ep_0 ge gg) (F_ep_1 ge gg) ig ii)
def F_ew_1 (gk : Int) (gn : Bool) (ge : Int) (gg : Bool) (ig : Int) (ii : Bool) (g8 : Int) (g9 : Bool) : Bool := (F_bw_1 gk gn g8 g9 (F_ep_0 ge gg) (F_ep_1 ge gg) ig ii)
theorem H_ew (gk : Int) (gn : Bool) (ge : Int) (gg : Bool) (ig : Int) (ii : Bool) (g8 : Int) (g9 : Bool) {K0 : Int -> Bool -> Prop} (h : P_ew gk gn ge gg ig ii g8 g9) (hK : K0 (F_ew_0 gk gn ge gg ig ii g8 g9) (F_ew_1 gk gn ge gg ig ii g8 g9)) : B_ew gk gn ge gg ig ii g8 g9 K0  := by
 unfold B_ew P_ew F_ew_0 F_ew_1 at *
 simp only [Ts_iff, true_and]; try simp only [Ts_iff, true_and] at h
 repeat' first | exact hK | refine ⟨rfl, ?_⟩ | refine ⟨trivial, ?_⟩ | refine ⟨by decide, ?_⟩ | (refine ⟨h.1, ?_⟩; replace h := h.2) | refine ⟨h, ?_⟩
def B_ft (gk : Int) (gn : Bool) (ge : Int) (gg : Bool) (ig : Int) (ii : Bool) (g8 : Int) (g9 : Bool) (K0 : Int -> Bool -> Prop)  : Prop := Ts 11 (((P_bw gk gn ig ii ge gg g8 g9) /\ Ts 2 (K0 (F_bw_0 gk gn ig ii ge gg g8 g9) (F_bw_1 gk gn ig ii ge gg g8 g9))))
def P_ft (gk : Int) (gn : Bool) (ge : Int) (gg : Bool) (ig : Int) (ii : Bool) (g8 : Int) (g9 : Bool) : Prop := (P_bw gk gn ig ii ge gg g8 g9)
def F_ft_0 (gk : Int) (gn : Bool) (ge : Int) (gg : Bool) (ig : Int) (ii : Bool) (g8 : Int) (g9 : Bool) : Int := (F_bw_0 gk gn ig ii ge gg g8 g9)
def F_ft_1 (gk : Int) (gn : Bool) (ge : Int) (gg : Bool) (ig : Int) (ii : Bool) (g8 : Int) (g9 : Bool) : Bool := (F_bw_1 gk gn ig ii ge gg g8 g9)
theorem H_ft (gk : Int) (gn : Bool) (ge : Int) (gg : Bool) (ig : Int) (ii : Bool) (g8 : Int) (g9 : Bool) {K0 : Int -> Bool -> Prop} (h : P_ft gk gn ge gg ig ii g8 g9) (hK : K0 (F_ft_0 gk gn ge gg ig ii g8 g9) (F_ft_1 gk gn ge gg ig ii g8 g9)) : B_ft gk gn ge gg ig ii g8 g9 K0  := by
 unfold B_ft P_ft F_ft_0 F_ft_1 at *
 simp only [Ts_iff, true_and]; try simp only [Ts_iff, true_and] at h
 repeat' first | exact hK | refine ⟨rfl, ?_⟩ | refine ⟨trivial, ?_⟩ | refine ⟨by decide, ?_⟩ | (refine ⟨h.1, ?_⟩; replace h := h.2) | refine ⟨h, ?_⟩
def B_ef (gk : Int) (gn : Bool) (ge : Int) (gg : Bool) (gb : Int) (gd : Bool) (K0 : Int -> Bool -> Int -> Bool -> Prop)  : Prop := Ts 6 (((P_ct gk gn gb gd) /\ Ts 3 (((P_ct ge gg gb gd) /\ Ts 2 ((true = true /\ Ts 1 (K0 (F_ct_0 gk gn gb gd) (F_ct_1 gk gn gb gd) (F_ct_0 ge gg gb gd) (F_ct_1 ge gg gb gd))))))))
def P_ef (gk : Int) (gn : Bool) (ge : Int) (gg : Bool) (gb : Int) (gd : Bool) : Prop := True
def F_ef_0 (gk : Int) (gn : Bool) (ge : Int) (gg : Bool) (gb : Int) (gd : Bool) : Int := (F_ct_0 gk gn gb gd)
def F_ef_1 (gk : Int) (gn : Bool) (ge : Int) (gg : Bool) (gb : Int) (gd : Bool) : Bool := (F_ct_1 gk gn gb gd)
def F_ef_2 (gk : Int) (gn : Bool) (ge : Int) (gg : Bool) (gb : Int) (gd : Bool) : Int := (F_ct_0 ge gg gb gd)
def F_ef_3 (gk : Int) (gn : Bool) (ge : Int) (gg : Bool) (gb : Int) (gd : Bool) : Bool := (F_ct_1 ge gg gb gd)
theorem H_ef (gk : Int) (gn : Bool) (ge : Int) (gg : Bool) (gb : Int) (gd : Bool) {K0 : Int -> Bool -> Int -> Bool -> Prop} (h : P_ef gk gn ge gg gb gd) (hK : K0 (F_ef_0 gk gn ge gg gb gd) (F_ef_1 gk gn ge gg gb gd) (F_ef_2 gk gn ge gg gb gd) (F_ef_3 gk gn ge gg gb gd)) : B_ef gk gn ge gg gb gd K0  := by
 unfold B_ef P_ef F_ef_0 F_ef_1 F_ef_2 F_ef_3 at *
 simp only [Ts_iff, true_and]
 repeat' first | exact hK | refine ⟨rfl, ?_⟩ | refine ⟨trivial, ?_⟩ | refine ⟨by decide, ?_⟩ | (refine ⟨h.1, ?_⟩; replace h := h.2) | refine ⟨h, ?_⟩
def B_dz (cm ga : Int) (K0 : Int -> Bool -> Int -> Bool -> Prop)  : Prop := Ts 4 (((P_cn cm 256) /\ Ts 2 (((P_cn ga 256) /\ Ts 2 ((true = true /\ Ts 1 (K0 (F_cn_0 cm 256) (F_cn_1 cm 256) (F_cn_0 ga 256) (F_cn_1 ga 256))))))))
def P_dz (cm ga : Int) : Prop := ((P_cn cm 256) /\ (P_cn ga 256))
def F_dz_0 (cm ga : Int) : Int := (F_cn_0 cm 256)
def F_dz_1 (cm ga : Int) : Bool := (F_cn_1 cm 256)
def F_dz_2 (cm ga : Int) : Int := (F_cn_0 ga 256)
def F_dz_3 (cm ga : Int) : Bool := (F_cn_1 ga 256)
theorem H_dz (cm ga : Int) {K0 : Int -> Bool -> Int -> Bool -> Prop} (h : P_dz cm ga) (hK : K0 (F_dz_0 cm ga) (F_dz_1 cm ga) (F_dz_2 cm ga) (F_dz_3 cm ga)) : B_dz cm ga K0  := by
 unfold B_dz P_dz F_dz_0 F_dz_1 F_dz_2 F_dz_3 at *
 simp only [Ts_iff, true_and]; try simp only [Ts_iff, true_and] at h
 repeat' first | exact hK | refine ⟨rfl, ?_⟩ | refine ⟨trivial, ?_⟩ | refine ⟨by decide, ?_⟩ | (refine ⟨h.1, ?_⟩; replace h := h.2) | refine ⟨h, ?_⟩
theorem n256 : Num' 256 := ⟨by decide, by decide⟩
theorem Local_pk {x y : Int} (hx : Num' x) (hy : Num' y) : P_dz x y /\ P_dt x y /\ F_dz_0 x y = F_dt_0 x y /\ F_dz_1 x y = F_dt_1 x y /\ F_dz_2 x y = F_dt_2 x y /\ F_dz_3 x y = F_dt_3 x y /\ Num' (F_dt_0 x y) /\ Num' (F_dt_2 x y) := by
  obtain ⟨a1, a2, a3, a4, a5⟩ := Ratio_pk hx n256
  obtain ⟨b1, b2, b3, b4, b5⟩ := Ratio_pk hy n256
  exact ⟨⟨a1, b1⟩, ⟨a2, b2⟩, a3, a4, b3, b4, a5, b5⟩
def B_c9_0 (gp : Nat) (gk : Nat -> Int) (gn : Nat -> Bool) (ge : Nat -> Int) (gg : Nat -> Bool) (il : Int) (ja : (Nat -> Int)) (jb : (Nat -> Bool)) (jc : (Nat -> Int)) (jd : (Nat -> Bool)) (c x0 : Int -> (Nat -> Int) -> (Nat -> Bool) -> (Nat -> Int) -> (Nat -> Bool) -> Prop)  : Prop := Ts 1 (cond (ilt il ((gp : Nat) : Int)) (Ts 1 (((0 <= il /\ il < ((gp : Nat) : Int)) /\ Ts 12 (((0 <= il /\ il < (((Int.toNat ((gp : Nat) : Int)) : Nat) : Int)) /\ (((Int.toNat il) < (Int.toNat ((gp : Nat) : Int))) /\ ((0 <= il /\ il < (((Int.toNat ((gp : Nat) : Int)) : Nat) : Int)) /\ (((Int.toNat il) < (Int.toNat ((gp : Nat) : Int))) /\ (true = true /\ Ts 2 (c (iadd .i64 il 1) (updF (Int.toNat il) ja (gk (Int.toNat il))) (updF (Int.toNat il) jb (gn (Int.toNat il))) (updF (Int.toNat il) jc (ge (Int.toNat il))) (updF (Int.toNat il) jd (gg (Int.toNat il))))))))))))) (x0 il ja jb jc jd))
def W_c9_0 (gp : Nat) (gk : Nat -> Int) (gn : Nat -> Bool) (ge : Nat -> Int) (gg : Nat -> Bool) : Nat -> Int -> (Nat -> Int) -> (Nat -> Bool) -> (Nat -> Int) -> (Nat -> Bool) -> (Int -> (Nat -> Int) -> (Nat -> Bool) -> (Nat -> Int) -> (Nat -> Bool) -> Prop) -> Prop
  | 0, _, _, _, _, _, _ => False
  | f + 1, w0, w1, w2, w3, w4, x0 => B_c9_0 gp gk gn ge gg w0 w1 w2 w3 w4 (fun u0 u1 u2 u3 u4 => W_c9_0 gp gk gn ge gg f u0 u1 u2 u3 u4 x0) x0 
theorem BM_c9_0 (gp : Nat) (gk : Nat -> Int) (gn : Nat -> Bool) (ge : Nat -> Int) (gg : Nat -> Bool) (il : Int) (ja : (Nat -> Int)) (jb : (Nat -> Bool)) (jc : (Nat -> Int)) (jd : (Nat -> Bool)) {c c' : Int -> (Nat -> Int) -> (Nat -> Bool) -> (Nat -> Int) -> (Nat -> Bool) -> Prop} {x0 y0 : Int -> (Nat -> Int) -> (Nat -> Bool) -> (Nat -> Int) -> (Nat -> Bool) -> Prop} (hc : ∀ w0 w1 w2 w3 w4, c w0 w1 w2 w3 w4 -> c' w0 w1 w2 w3 w4) (h0 : ∀ o0 o1 o2 o3 o4, x0 o0 o1 o2 o3 o4 -> y0 o0 o1 o2 o3 o4) : B_c9_0 gp gk gn ge gg il ja jb jc jd c x0  -> B_c9_0 gp gk gn ge gg il ja jb jc jd c' y0  := by
  unfold B_c9_0
  repeat' first
    | exact hc _ _ _ _ _
    | exact h0 _ _ _ _ _
    | refine Ts_imp ?_
    | refine cond_imp ?_ ?_
    | refine and_imp' ?_
theorem WM_c9_0 (gp : Nat) (gk : Nat -> Int) (gn : Nat -> Bool) (ge : Nat -> Int) (gg : Nat -> Bool) {x0 y0 : Int -> (Nat -> Int) -> (Nat -> Bool) -> (Nat -> Int) -> (Nat -> Bool) -> Prop} (h0 : ∀ o0 o1 o2 o3 o4, x0 o0 o1 o2 o3 o4 -> y0 o0 o1 o2 o3 o4) : ∀ (f : Nat) (il : Int) (ja : (Nat -> Int)) (jb : (Nat -> Bool)) (jc : (Nat -> Int)) (jd : (Nat -> Bool)), W_c9_0 gp gk gn ge gg f il ja jb jc jd x0 -> W_c9_0 gp gk gn ge gg f il ja jb jc jd y0
  | 0, w0, w1, w2, w3, w4 => fun h => h
  | f + 1, w0, w1, w2, w3, w4 => BM_c9_0 gp gk gn ge gg w0 w1 w2 w3 w4 (fun u0 u1 u2 u3 u4 => WM_c9_0 gp gk gn ge gg h0 f u0 u1 u2 u3 u4) h0
def B_c9 (gp : Nat) (gk : Nat -> Int) (gn : Nat -> Bool) (ge : Nat -> Int) (gg : Nat -> Bool) (K0 : Int -> Bool -> Int -> Bool -> Prop) (l0 : Int -> (Nat -> Int) -> (Nat -> Bool) -> (Nat -> Int) -> (Nat -> Bool) -> (Int -> (Nat -> Int) -> (Nat -> Bool) -> (Nat -> Int) -> (Nat -> Bool) -> Prop) -> Prop) : Prop := Ts 3 (((0 <= ((gp : Nat) : Int) /\ ((gp : Nat) : Int) = ((gp : Nat) : Int) /\ ((gp : Nat) : Int) <= 1000000 /\ 16 <= 1000000) /\ Ts 2 (((0 <= ((gp : Nat) : Int) /\ ((gp : Nat) : Int) = ((gp : Nat) : Int) /\ ((gp : Nat) : Int) <= 1000000 /\ 16 <= 1000000) /\ Ts 2 ((true = true /\ Ts 3 ((l0 0 (fun _ => 0) (fun _ => false) (fun _ => 0) (fun _ => false) (fun kl kp kq kr kt => Ts 1 (((P_cp (Int.toNat ((gp : Nat) : Int)) kp kq) /\ Ts 1 (((P_cp (Int.toNat ((gp : Nat) : Int)) kr kt) /\ Ts 3 (K0 (F_cp_0 (Int.toNat ((gp : Nat) : Int)) kp kq) (F_cp_1 (Int.toNat ((gp : Nat) : Int)) kp kq) (F_cp_0 (Int.toNat ((gp : Nat) : Int)) kr kt) (F_cp_1 (Int.toNat ((gp : Nat) : Int)) kr kt)))))))))))))))
def colF {α : Type} (z : α) (x : Nat -> α) : Nat -> (Nat -> α)
  | 0 => fun _ => z
  | i + 1 => updF i (colF z x i) (x i)
theorem colF_at {α : Type} {z : α} {x : Nat -> α} : ∀ {n k : Nat}, k < n -> colF z x n k = x k
  | 0, k, h => by omega
  | n + 1, k, h => by
    show updF n (colF z x n) (x n) k = _
    by_cases e : k = n
    · subst e; rw [updG_at]
    · rw [updG_ne _ _ e]; exact colF_at (by omega)
theorem sumN_same {f g : Nat -> Int} : ∀ (n : Nat), (∀ k, k < n -> f k = g k) -> sumN f n = sumN g n
  | 0, _ => rfl
  | n + 1, h => by unfold sumN; rw [sumN_same n (fun k hk => h k (by omega)), h n (by omega)]
theorem anyN_same {f g : Nat -> Bool} : ∀ (n : Nat), (∀ k, k < n -> f k = g k) -> anyN f n = anyN g n
  | 0, _ => rfl
  | n + 1, h => by unfold anyN; rw [anyN_same n (fun k hk => h k (by omega)), h n (by omega)]
theorem Sum_same {n : Nat} {x x' : Nat -> Int} {y y' : Nat -> Bool} (h : ∀ k, k < n -> x k = x' k /\ y k = y' k) : F_cp_0 n x y = F_cp_0 n x' y' /\ F_cp_1 n x y = F_cp_1 n x' y' := by
  unfold F_cp_0 F_cp_1 F_bd_0
  rw [sumN_same n (fun k hk => (h k hk).1), anyN_same n (f := fun k => F_aq_1 (x k) (y k)) (g := fun k => F_aq_1 (x' k) (y' k)) (fun k hk => by rw [(h k hk).1, (h k hk).2])]
  exact ⟨rfl, rfl⟩
def P_c9 (n : Nat) (a : Nat -> Int) (b : Nat -> Bool) (c : Nat -> Int) (d : Nat -> Bool) : Prop := P_cp n a b /\ P_cp n c d
def F_c9_0 (n : Nat) (a : Nat -> Int) (b : Nat -> Bool) (c : Nat -> Int) (d : Nat -> Bool) : Int := F_cp_0 n a b
def F_c9_1 (n : Nat) (a : Nat -> Int) (b : Nat -> Bool) (c : Nat -> Int) (d : Nat -> Bool) : Bool := F_cp_1 n a b
def F_c9_2 (n : Nat) (a : Nat -> Int) (b : Nat -> Bool) (c : Nat -> Int) (d : Nat -> Bool) : Int := F_cp_0 n c d
def F_c9_3 (n : Nat) (a : Nat -> Int) (b : Nat -> Bool) (c : Nat -> Int) (d : Nat -> Bool) : Bool := F_cp_1 n c d
theorem W_c9_ok {n : Nat} {a : Nat -> Int} {b : Nat -> Bool} {c : Nat -> Int} {d : Nat -> Bool} (hn : n <= 1000000) {x0 : Int -> (Nat -> Int) -> (Nat -> Bool) -> (Nat -> Int) -> (Nat -> Bool) -> Prop} (h3 : ∀ v, x0 v (colF 0 a n) (colF false b n) (colF 0 c n) (colF false d n)) : ∀ (f i : Nat), i <= n -> n < f + i -> W_c9_0 n a b c d f i (colF 0 a i) (colF false b i) (colF 0 c i) (colF false d i) x0
  | 0, i, h1, h2 => by omega
  | f + 1, i, h1, h2 => by
    show B_c9_0 n a b c d i _ _ _ _ _ _
    unfold B_c9_0
    simp only [Ts_iff, true_and, Int.toNat_natCast]
    refine cond_intro (fun hc => ?_) (fun hc => ?_)
    · rw [ilt_t] at hc
      rw [iadd64 (by omega) (by omega)]
      exact ⟨⟨by omega, hc⟩, ⟨by omega, hc⟩, by omega, ⟨by omega, hc⟩, by omega, W_c9_ok hn h3 f (i + 1) (by omega) (by omega)⟩
    · rw [ilt_f] at hc
      have : i = n := by omega
      subst this
      exact h3 _
theorem H_c9 (gp : Nat) (gk : Nat -> Int) (gn : Nat -> Bool) (ge : Nat -> Int) (gg : Nat -> Bool) {K0 : Int -> Bool -> Int -> Bool -> Prop} (h : P_c9 gp gk gn ge gg) (hK : K0 (F_c9_0 gp gk gn ge gg) (F_c9_1 gp gk gn ge gg) (F_c9_2 gp gk gn ge gg) (F_c9_3 gp gk gn ge gg)) : B_c9 gp gk gn ge gg K0 (W_c9_0 gp gk gn ge gg fuel) := by
  unfold B_c9
  simp only [Ts_iff, true_and, Int.toNat_natCast]
  obtain ⟨⟨hn, h1⟩, _, h2⟩ := h
  refine ⟨⟨by omega, by omega, by omega⟩, ⟨by omega, by omega, by omega⟩, W_c9_ok hn (fun v => ?_) fuel 0 (Nat.zero_le _) (by rw [fuel_eq]; omega)⟩
  obtain ⟨e1, e2⟩ := Sum_same (n := gp) (x := colF 0 gk gp) (x' := gk) (y := colF false gn gp) (y' := gn) (fun k hk => ⟨colF_at hk, colF_at hk⟩)
  obtain ⟨e3, e4⟩ := Sum_same (n := gp) (x := colF 0 ge gp) (x' := ge) (y := colF false gg gp) (y' := gg) (fun k hk => ⟨colF_at hk, colF_at hk⟩)
  rw [e1, e2, e3, e4]
  exact ⟨⟨hn, fun k hk => by rw [colF_at hk]; exact h1 k hk⟩, ⟨hn, fun k hk => by rw [colF_at hk]; exact h2 k hk⟩, hK⟩
theorem vAdd_pk {a b c d : Int} {e f g h : Bool} (ha : Num' a) (hb : Num' b) (hc : Num' c) (hd : Num' d) : P_c9 2 (pushF 1 (fun _ => a) c) (pushF 1 (fun _ => e) g) (pushF 1 (fun _ => b) d) (pushF 1 (fun _ => f) h) /\ P_cz 2 (pushF 1 (fun _ => a) c) (pushF 1 (fun _ => e) g) (pushF 1 (fun _ => b) d) (pushF 1 (fun _ => f) h) /\
    F_c9_0 2 (pushF 1 (fun _ => a) c) (pushF 1 (fun _ => e) g) (pushF 1 (fun _ => b) d) (pushF 1 (fun _ => f) h) = F_cz_0 2 (pushF 1 (fun _ => a) c) (pushF 1 (fun _ => e) g) (pushF 1 (fun _ => b) d) (pushF 1 (fun _ => f) h) /\
    F_c9_1 2 (pushF 1 (fun _ => a) c) (pushF 1 (fun _ => e) g) (pushF 1 (fun _ => b) d) (pushF 1 (fun _ => f) h) = F_cz_1 2 (pushF 1 (fun _ => a) c) (pushF 1 (fun _ => e) g) (pushF 1 (fun _ => b) d) (pushF 1 (fun _ => f) h) /\
    F_c9_2 2 (pushF 1 (fun _ => a) c) (pushF 1 (fun _ => e) g) (pushF 1 (fun _ => b) d) (pushF 1 (fun _ => f) h) = F_cz_2 2 (pushF 1 (fun _ => a) c) (pushF 1 (fun _ => e) g) (pushF 1 (fun _ => b) d) (pushF 1 (fun _ => f) h) /\
    F_c9_3 2 (pushF 1 (fun _ => a) c) (pushF 1 (fun _ => e) g) (pushF 1 (fun _ => b) d) (pushF 1 (fun _ => f) h) = F_cz_3 2 (pushF 1 (fun _ => a) c) (pushF 1 (fun _ => e) g) (pushF 1 (fun _ => b) d) (pushF 1 (fun _ => f) h) /\
    Num' (F_cz_0 2 (pushF 1 (fun _ => a) c) (pushF 1 (fun _ => e) g) (pushF 1 (fun _ => b) d) (pushF 1 (fun _ => f) h)) /\ Num' (F_cz_2 2 (pushF 1 (fun _ => a) c) (pushF 1 (fun _ => e) g) (pushF 1 (fun _ => b) d) (pushF 1 (fun _ => f) h)) :=
  ⟨⟨⟨by decide, two_i ha hc⟩, ⟨by decide, two_i hb hd⟩⟩, ⟨by decide, fun k hk => ⟨two_i ha hc k hk, two_i hb hd k hk⟩⟩, rfl, rfl, rfl, rfl, satN_num _, satN_num _⟩
def B_cq (gk : Int) (gn : Bool) (ge : Int) (gg : Bool) (K0 : Int -> Bool -> Prop)  : Prop := Ts 6 (((P_bz gk gn ge gg) /\ Ts 2 (K0 (F_bz_0 gk gn ge gg) (F_bz_1 gk gn ge gg))))
def P_cq (gk : Int) (gn : Bool) (ge : Int) (gg : Bool) : Prop := (P_bz gk gn ge gg)
def F_cq_0 (gk : Int) (gn : Bool) (ge : Int) (gg : Bool) : Int := (F_bz_0 gk gn ge gg)
def F_cq_1 (gk : Int) (gn : Bool) (ge : Int) (gg : Bool) : Bool := (F_bz_1 gk gn ge gg)
theorem H_cq (gk : Int) (gn : Bool) (ge : Int) (gg : Bool) {K0 : Int -> Bool -> Prop} (h : P_cq gk gn ge gg) (hK : K0 (F_cq_0 gk gn ge gg) (F_cq_1 gk gn ge gg)) : B_cq gk gn ge gg K0  := by
 unfold B_cq P_cq F_cq_0 F_cq_1 at *
 simp only [Ts_iff, true_and]; try simp only [Ts_iff, true_and] at h
 repeat' first | exact hK | refine ⟨rfl, ?_⟩ | refine ⟨trivial, ?_⟩ | refine ⟨by decide, ?_⟩ | (refine ⟨h.1, ?_⟩; replace h := h.2) | refine ⟨h, ?_⟩
theorem vLen_pk {a b : Int} {e f : Bool} (ha : Num' a) (hb : Num' b) : P_cq a e b f /\ P_bo a e b f /\ F_cq_0 a e b f = F_bo_0 a e b f /\ F_cq_1 a e b f = F_bo_1 a e b f /\ Num' (F_bo_0 a e b f) := Hypot_pk ha hb

end
end Go.Ag
