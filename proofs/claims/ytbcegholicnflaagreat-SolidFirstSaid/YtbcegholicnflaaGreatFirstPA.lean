import Derived.Test.YtbcegholicnflaaGreatBgZ
set_option linter.unusedVariables false
set_option linter.unusedSimpArgs false
set_option maxRecDepth 100000
namespace Go.Ag
open Go.RowKit
noncomputable section
def wL : ByteArray := ⟨#[0, 1, 2, 2, 3, 3, 3, 3, 4, 4, 4, 4, 4, 4, 4, 4, 5, 5, 5, 5, 5, 5, 5, 5, 5, 5, 5, 5, 5, 5, 5, 5, 6, 6, 6, 6, 6, 6, 6, 6, 6, 6, 6, 6, 6, 6, 6, 6, 6, 6, 6, 6, 6, 6, 6, 6, 6, 6, 6, 6, 6, 6, 6, 6, 7, 7, 7, 7, 7, 7, 7, 7, 7, 7, 7, 7, 7, 7, 7, 7, 7, 7, 7, 7, 7, 7, 7, 7, 7, 7, 7, 7, 7, 7, 7, 7, 7, 7, 7, 7, 7, 7, 7, 7, 7, 7, 7, 7, 7, 7, 7, 7, 7, 7, 7, 7, 7, 7, 7, 7, 7, 7, 7, 7, 7, 7, 7, 7, 8, 8, 8, 8, 8, 8, 8, 8, 8, 8, 8, 8, 8, 8, 8, 8, 8, 8, 8, 8, 8, 8, 8, 8, 8, 8, 8, 8, 8, 8, 8, 8, 8, 8, 8, 8, 8, 8, 8, 8, 8, 8, 8, 8, 8, 8, 8, 8, 8, 8, 8, 8, 8, 8, 8, 8, 8, 8, 8, 8, 8, 8, 8, 8, 8, 8, 8, 8, 8, 8, 8, 8, 8, 8, 8, 8, 8, 8, 8, 8, 8, 8, 8, 8, 8, 8, 8, 8, 8, 8, 8, 8, 8, 8, 8, 8, 8, 8, 8, 8, 8, 8, 8, 8, 8, 8, 8, 8, 8, 8, 8, 8, 8, 8, 8, 8, 8, 8, 8, 8, 8, 8, 8, 8, 8, 8, 8, 8]⟩
def amH (a0:Int) (K0 : Int -> Prop)  : Prop := Ts 3 (cond (ige a0 4294967296) (Ts 1 (((0 <= (32:Int)) /\ Ts 4 (cond (ige (bF .u64 a0 32) 65536) (Ts 1 (((0 <= (16:Int)) /\ Ts 6 (cond (ige (bF .u64 (bF .u64 a0 32) 16) 256) (Ts 1 (((0 <= (8:Int)) /\ Ts 7 (((0 <= (aT .u8 (bF .u64 (bF .u64 (bF .u64 a0 32) 16) 8)) /\ (aT .u8 (bF .u64 (bF .u64 (bF .u64 a0 32) 16) 8)) < ((256:Nat):Int)) /\ Ts 3 (K0 (au .i64 (au .i64 (au .i64 32 16) 8) (aT .i64 (qH wL (Int.toNat (aT .u8 (bF .u64 (bF .u64 (bF .u64 a0 32) 16) 8)))))))))))) (Ts 3 (((0 <= (aT .u8 (bF .u64 (bF .u64 a0 32) 16)) /\ (aT .u8 (bF .u64 (bF .u64 a0 32) 16)) < ((256:Nat):Int)) /\ Ts 3 (K0 (au .i64 (au .i64 32 16) (aT .i64 (qH wL (Int.toNat (aT .u8 (bF .u64 (bF .u64 a0 32) 16)))))))))))))) (Ts 2 (cond (ige (bF .u64 a0 32) 256) (Ts 1 (((0 <= (8:Int)) /\ Ts 7 (((0 <= (aT .u8 (bF .u64 (bF .u64 a0 32) 8)) /\ (aT .u8 (bF .u64 (bF .u64 a0 32) 8)) < ((256:Nat):Int)) /\ Ts 3 (K0 (au .i64 (au .i64 32 8) (aT .i64 (qH wL (Int.toNat (aT .u8 (bF .u64 (bF .u64 a0 32) 8)))))))))))) (Ts 3 (((0 <= (aT .u8 (bF .u64 a0 32)) /\ (aT .u8 (bF .u64 a0 32)) < ((256:Nat):Int)) /\ Ts 3 (K0 (au .i64 32 (aT .i64 (qH wL (Int.toNat (aT .u8 (bF .u64 a0 32)))))))))))))))) (Ts 2 (cond (ige a0 65536) (Ts 1 (((0 <= (16:Int)) /\ Ts 6 (cond (ige (bF .u64 a0 16) 256) (Ts 1 (((0 <= (8:Int)) /\ Ts 7 (((0 <= (aT .u8 (bF .u64 (bF .u64 a0 16) 8)) /\ (aT .u8 (bF .u64 (bF .u64 a0 16) 8)) < ((256:Nat):Int)) /\ Ts 3 (K0 (au .i64 (au .i64 (au .i64 0 16) 8) (aT .i64 (qH wL (Int.toNat (aT .u8 (bF .u64 (bF .u64 a0 16) 8)))))))))))) (Ts 3 (((0 <= (aT .u8 (bF .u64 a0 16)) /\ (aT .u8 (bF .u64 a0 16)) < ((256:Nat):Int)) /\ Ts 3 (K0 (au .i64 (au .i64 0 16) (aT .i64 (qH wL (Int.toNat (aT .u8 (bF .u64 a0 16)))))))))))))) (Ts 2 (cond (ige a0 256) (Ts 1 (((0 <= (8:Int)) /\ Ts 7 (((0 <= (aT .u8 (bF .u64 a0 8)) /\ (aT .u8 (bF .u64 a0 8)) < ((256:Nat):Int)) /\ Ts 3 (K0 (au .i64 (au .i64 0 8) (aT .i64 (qH wL (Int.toNat (aT .u8 (bF .u64 a0 8)))))))))))) (Ts 3 (((0 <= (aT .u8 a0) /\ (aT .u8 a0) < ((256:Nat):Int)) /\ Ts 3 (K0 (au .i64 0 (aT .i64 (qH wL (Int.toNat (aT .u8 a0))))))))))))))
def X4 (a0:Int) : Prop := (cond (ige a0 4294967296) (cond (ige (bF .u64 a0 32) 65536) (cond (ige (bF .u64 (bF .u64 a0 32) 16) 256) (0 <= (aT .u8 (bF .u64 (bF .u64 (bF .u64 a0 32) 16) 8)) /\ (aT .u8 (bF .u64 (bF .u64 (bF .u64 a0 32) 16) 8)) < ((256:Nat):Int)) (0 <= (aT .u8 (bF .u64 (bF .u64 a0 32) 16)) /\ (aT .u8 (bF .u64 (bF .u64 a0 32) 16)) < ((256:Nat):Int))) (cond (ige (bF .u64 a0 32) 256) (0 <= (aT .u8 (bF .u64 (bF .u64 a0 32) 8)) /\ (aT .u8 (bF .u64 (bF .u64 a0 32) 8)) < ((256:Nat):Int)) (0 <= (aT .u8 (bF .u64 a0 32)) /\ (aT .u8 (bF .u64 a0 32)) < ((256:Nat):Int)))) (cond (ige a0 65536) (cond (ige (bF .u64 a0 16) 256) (0 <= (aT .u8 (bF .u64 (bF .u64 a0 16) 8)) /\ (aT .u8 (bF .u64 (bF .u64 a0 16) 8)) < ((256:Nat):Int)) (0 <= (aT .u8 (bF .u64 a0 16)) /\ (aT .u8 (bF .u64 a0 16)) < ((256:Nat):Int))) (cond (ige a0 256) (0 <= (aT .u8 (bF .u64 a0 8)) /\ (aT .u8 (bF .u64 a0 8)) < ((256:Nat):Int)) (0 <= (aT .u8 a0) /\ (aT .u8 a0) < ((256:Nat):Int)))))
def Sr (a0:Int) : Int := (cond (ige a0 4294967296) (cond (ige (bF .u64 a0 32) 65536) (cond (ige (bF .u64 (bF .u64 a0 32) 16) 256) (au .i64 (au .i64 (au .i64 32 16) 8) (aT .i64 (qH wL (Int.toNat (aT .u8 (bF .u64 (bF .u64 (bF .u64 a0 32) 16) 8)))))) (au .i64 (au .i64 32 16) (aT .i64 (qH wL (Int.toNat (aT .u8 (bF .u64 (bF .u64 a0 32) 16))))))) (cond (ige (bF .u64 a0 32) 256) (au .i64 (au .i64 32 8) (aT .i64 (qH wL (Int.toNat (aT .u8 (bF .u64 (bF .u64 a0 32) 8)))))) (au .i64 32 (aT .i64 (qH wL (Int.toNat (aT .u8 (bF .u64 a0 32)))))))) (cond (ige a0 65536) (cond (ige (bF .u64 a0 16) 256) (au .i64 (au .i64 (au .i64 0 16) 8) (aT .i64 (qH wL (Int.toNat (aT .u8 (bF .u64 (bF .u64 a0 16) 8)))))) (au .i64 (au .i64 0 16) (aT .i64 (qH wL (Int.toNat (aT .u8 (bF .u64 a0 16))))))) (cond (ige a0 256) (au .i64 (au .i64 0 8) (aT .i64 (qH wL (Int.toNat (aT .u8 (bF .u64 a0 8)))))) (au .i64 0 (aT .i64 (qH wL (Int.toNat (aT .u8 a0))))))))
theorem avl (a0:Int) {K0 : Int -> Prop} (h : X4 a0) (hK : K0 (Sr a0)) : amH a0 K0  := by
 unfold amH X4 Sr at *
 simp only [aH, true_and]; try simp only [aH, true_and] at h
 repeat' first | exact hK | (refine aC (fun c => ?_) (fun c => ?_) <;> try simp only [c, cond_true, cond_false] at h hK ⊢) | refine ⟨rfl, ?_⟩ | refine ⟨trivial, ?_⟩ | refine ⟨by decide, ?_⟩ | (refine ⟨h.1, ?_⟩; replace h := h.2) | refine ⟨h, ?_⟩
theorem atH : ∀ v : Nat, v < 256 -> ((wL[v]?.getD 0).toNat) <= 8 /\ v < 2 ^ ((wL[v]?.getD 0).toNat) /\ (v ≠ 0 -> 1 <= ((wL[v]?.getD 0).toNat) /\ 2 ^ (((wL[v]?.getD 0).toNat) - 1) <= v) := by decide +kernel
def isLen (x:Int) (k:Nat) : Prop := x < 2 ^ k /\ (x ≠ 0 -> 1 <= k /\ 2 ^ (k - 1) <= x)
theorem apK {x : Int} (h : 0 <= x /\ x < 256) : ∃ k : Nat, qH wL x.toNat = (k:Int) /\ k <= 8 /\ isLen x k := by
  obtain ⟨v, rfl⟩ := Int.eq_ofNat_of_zero_le h.1
  obtain ⟨h1, h2, h3⟩ := atH v (by omega)
  refine ⟨(wL[v]?.getD 0).toNat, by rw [Xf]; rfl, h1, ?_, fun hne => ?_⟩
  . exact_mod_cast h2
  . obtain ⟨a, b⟩ := h3 (by omega)
    exact ⟨a, by exact_mod_cast b⟩
theorem apL {a : Int} (h : 0 <= a /\ a < 256) : aT .u8 a = a := by
  rw [JI]
  show IntKind.u8.wrap a = a
  unfold IntKind.wrap
  simp [IntKind.bits, IntKind.signed]
  omega
theorem acX {x : Int} {j k : Nat} (hx : 2 ^ j <= x) (h : isLen (x / 2 ^ j) k) : isLen x (j + k) := by
  have hp : (0:Int) < 2 ^ j := Int.pow_pos (by decide)
  obtain ⟨b1, b2⟩ := kF (x := x) hp
  obtain ⟨h1, h2⟩ := h
  have hq : 1 <= x / 2 ^ j := (Int.le_ediv_iff_mul_le hp).2 (by omega)
  obtain ⟨h3, h4⟩ := h2 (by omega)
  generalize x / 2 ^ j = q at *
  refine ⟨?_, fun _ => ⟨by omega, ?_⟩⟩
  . rw [Nat.add_comm, rP]
    exact Int.lt_of_lt_of_le b2 (qZ (show q + 1 <= 2 ^ k by omega) (by omega))
  . rw [show j + k - 1 = (k - 1) + j by omega, rP]
    exact Int.le_trans (qZ h4 (by omega)) b1
theorem aht {x : Int} {j : Nat} {c : Int} (hx : 0 <= x) (hc : c = (j:Int)) (hj : j <= 56) (hx : 0 <= x /\ x / 2 ^ j < 256) (hb : 2 ^ j <= x \/ j = 0) :
    (0 <= aT .u8 (x / 2 ^ j) /\ aT .u8 (x / 2 ^ j) < ((256:Nat):Int)) /\ ∃ k : Nat, au .i64 c (aT .i64 (qH wL (Int.toNat (aT .u8 (x / 2 ^ j))))) = (k:Int) /\ k <= 64 /\ isLen x k := by
  have hp : (0:Int) < 2 ^ j := Int.pow_pos (by decide)
  have h0 := Int.ediv_nonneg hx.1 (show (0:Int) <= 2 ^ j by omega)
  rw [apL ⟨h0, hx.2⟩]
  refine ⟨⟨h0, hx.2⟩, ?_⟩
  obtain ⟨k, e, hk, hl⟩ := apK ⟨h0, hx.2⟩
  rw [e, aeM ⟨by omega, by omega⟩, hc, fF (by omega) (by omega)]
  refine ⟨j + k, by omega, by omega, ?_⟩
  rcases hb with hb | hb
  . exact acX hb hl
  . subst hb
    rw [show x / 2 ^ 0 = x by rw [Int.pow_zero]; exact Int.ediv_one x] at hl
    rwa [Nat.zero_add]
theorem QB {x : Int} (hx : U64 x) : X4 x /\ ∃ k : Nat, Sr x = (k:Int) /\ k <= 64 /\ isLen x k := by
  obtain ⟨h1, h2⟩ := hx
  unfold X4 Sr
  have s32 : ∀ a, bF .u64 a 32 = a / 4294967296 := FQ
  have s16 : ∀ a, bF .u64 a 16 = a / 65536 := fun a => Kt a 16 (by decide)
  have s8 : ∀ a, bF .u64 a 8 = a / 256 := fun a => Kt a 8 (by decide)
  have c1 : au .i64 32 16 = 48 := by rw [fF] <;> omega
  have c2 : au .i64 48 8 = 56 := by rw [fF] <;> omega
  have c3 : au .i64 32 8 = 40 := by rw [fF] <;> omega
  have c4 : au .i64 0 16 = 16 := by rw [fF] <;> omega
  have c5 : au .i64 16 8 = 24 := by rw [fF] <;> omega
  have c6 : au .i64 0 8 = 8 := by rw [fF] <;> omega
  simp only [s32, s16, s8, c1, c2, c3, c4, c5, c6]
  have fin : ∀ (j:Nat) (y:Int), j <= 56 -> x / 2 ^ j = y -> y < 256 -> (2 ^ j <= x \/ j = 0) -> (0 <= aT .u8 y /\ aT .u8 y < ((256:Nat):Int)) /\ ∃ k : Nat, au .i64 (j:Int) (aT .i64 (qH wL (Int.toNat (aT .u8 y)))) = (k:Int) /\ k <= 64 /\ isLen x k := by
    intro j y hj hy hlt hb
    subst hy
    exact aht h1 rfl hj ⟨h1, hlt⟩ hb
  cases g1 : ige x 4294967296 with
  | true =>
    rw [mD] at g1
    simp only [cond_true]
    cases g2 : ige (x / 4294967296) 65536 with
    | true =>
      rw [mD] at g2
      simp only [cond_true]
      cases g3 : ige (x / 4294967296 / 65536) 256 with
      | true => rw [mD] at g3; simp only [cond_true]; exact fin 56 _ (by omega) (by rw [show (2:Int) ^ 56 = 72057594037927936 by decide]; omega) (by omega) (.inl (by rw [show (2:Int) ^ 56 = 72057594037927936 by decide]; omega))
      | false => rw [pU] at g3; simp only [cond_false]; exact fin 48 _ (by omega) (by rw [show (2:Int) ^ 48 = 281474976710656 by decide]; omega) (by omega) (.inl (by rw [show (2:Int) ^ 48 = 281474976710656 by decide]; omega))
    | false =>
      rw [pU] at g2
      simp only [cond_false]
      cases g3 : ige (x / 4294967296) 256 with
      | true => rw [mD] at g3; simp only [cond_true]; exact fin 40 _ (by omega) (by rw [show (2:Int) ^ 40 = 1099511627776 by decide]; omega) (by omega) (.inl (by rw [show (2:Int) ^ 40 = 1099511627776 by decide]; omega))
      | false => rw [pU] at g3; simp only [cond_false]; exact fin 32 _ (by omega) (by rw [show (2:Int) ^ 32 = 4294967296 by decide]) (by omega) (.inl (by rw [show (2:Int) ^ 32 = 4294967296 by decide]; omega))
  | false =>
    rw [pU] at g1
    simp only [cond_false]
    cases g2 : ige x 65536 with
    | true =>
      rw [mD] at g2
      simp only [cond_true]
      cases g3 : ige (x / 65536) 256 with
      | true => rw [mD] at g3; simp only [cond_true]; exact fin 24 _ (by omega) (by rw [show (2:Int) ^ 24 = 16777216 by decide]; omega) (by omega) (.inl (by rw [show (2:Int) ^ 24 = 16777216 by decide]; omega))
      | false => rw [pU] at g3; simp only [cond_false]; exact fin 16 _ (by omega) (by rw [show (2:Int) ^ 16 = 65536 by decide]) (by omega) (.inl (by rw [show (2:Int) ^ 16 = 65536 by decide]; omega))
    | false =>
      rw [pU] at g2
      simp only [cond_false]
      cases g3 : ige x 256 with
      | true => rw [mD] at g3; simp only [cond_true]; exact fin 8 _ (by omega) (by rw [show (2:Int) ^ 8 = 256 by decide]) (by omega) (.inl (by rw [show (2:Int) ^ 8 = 256 by decide]; omega))
      | false => rw [pU] at g3; simp only [cond_false]; exact fin 0 _ (by omega) (by rw [Int.pow_zero, Int.ediv_one]) (by omega) (.inr rfl)
def aln (a0:Int) (K0 : Int -> Prop)  : Prop := Ts 2 (((X4 a0) /\ Ts 2 (K0 (bQ .i64 64 (Sr a0)))))
def aeX (a0:Int) : Prop := (X4 a0)
def bT (a0:Int) : Int := (bQ .i64 64 (Sr a0))
theorem atI (a0:Int) {K0 : Int -> Prop} (h : aeX a0) (hK : K0 (bT a0)) : aln a0 K0  := by
 unfold aln aeX bT at *
 simp only [aH, true_and]; try simp only [aH, true_and] at h
 repeat' first | exact hK | refine ⟨rfl, ?_⟩ | refine ⟨trivial, ?_⟩ | refine ⟨by decide, ?_⟩ | (refine ⟨h.1, ?_⟩; replace h := h.2) | refine ⟨h, ?_⟩
theorem aeY {a b : Int} (ha : U64 a) (hb : 0 < b) : gG .u64 a b = a / b := by
  rw [Pg]
  show IntKind.u64.wrap (a.tdiv b) = a / b
  rw [Int.tdiv_eq_ediv_of_nonneg ha.1, Kr]
  have h1 := Int.ediv_nonneg ha.1 (show 0 <= b by omega)
  have h2 := Int.ediv_le_self b ha.1
  have := ha.2
  exact Int.emod_eq_of_lt h1 (by omega)
theorem aje {a b : Int} (ha : 0 <= a) : aB .u64 a b = a - a / b * b := by
  rw [rC]
  show a.tmod b = _
  rw [Int.tmod_eq_emod_of_nonneg ha, Int.emod_def, Int.mul_comm]
theorem KnG.done {u un1 yn1 yn0 q r Y : Int} (h : KnG u un1 yn1 yn0 q r) (hY : Y = yn1 * 4294967296 + yn0) (h0 : 0 < Y) (hle : q * (yn1 * 4294967296 + yn0) <= u * 4294967296 + un1) : (u * 4294967296 + un1) / Y = q := by
  rw [hY] at h0 ⊢
  exact FU h0 hle h.up
theorem apM {x : Int} (hx : U64 x) (h0 : x ≠ 0) : aeX x /\ ∃ s : Nat, aT .u64 (bT x) = (s:Int) /\ s <= 63 /\ x * 2 ^ s < 18446744073709551616 /\ 9223372036854775808 <= x * 2 ^ s /\ bQ .u64 64 (s:Int) = ((64 - s:Nat):Int) := by
  obtain ⟨p, k, e, hk, h1, h2⟩ := QB hx
  obtain ⟨h2, h3⟩ := h2 h0
  refine ⟨p, 64 - k, ?_, by omega, ?_, ?_, ?_⟩
  . unfold bT
    rw [e, gI (by omega) (by omega), Lr, Int.emod_eq_of_lt (by omega) (by omega)]
    omega
  . have := Int.mul_lt_mul_of_pos_right h1 (show (0:Int) < 2 ^ (64 - k) from Int.pow_pos (by decide))
    rw [<- rP, show k + (64 - k) = 64 by omega] at this
    exact this
  . have := qZ h3 (show (0:Int) <= 2 ^ (64 - k) from Int.le_of_lt (Int.pow_pos (by decide)))
    rw [<- rP, show k - 1 + (64 - k) = 63 by omega] at this
    exact this
  . rw [Ux, Int.emod_eq_of_lt (by omega) (by omega)]
    omega
theorem atJ {hi lo : Int} {s : Nat} (hs : s <= 63) (h1 : 0 <= hi) (h2 : U64 lo) (h3 : hi * 2 ^ s < 18446744073709551616) :
    ior .u64 (dL .u64 hi (s:Int)) (bF .u64 lo ((64 - s:Nat):Int)) = hi * 2 ^ s + lo / 2 ^ (64 - s) /\ U64 (dL .u64 lo (s:Int)) /\
    (hi * 2 ^ s + lo / 2 ^ (64 - s)) * 18446744073709551616 + dL .u64 lo (s:Int) = (hi * 18446744073709551616 + lo) * 2 ^ s := by
  have hp : (0:Int) < 2 ^ s := Int.pow_pos (by decide)
  have hq : (0:Int) < 2 ^ (64 - s) := Int.pow_pos (by decide)
  have e64 : (18446744073709551616:Int) = 2 ^ (64 - s) * 2 ^ s := by rw [<- rP, show 64 - s + s = 64 by omega]; decide
  have hd : lo * 2 ^ s / 18446744073709551616 = lo / 2 ^ (64 - s) := by
    rw [e64]
    exact Int.mul_ediv_mul_of_pos_left _ _ hp
  have h0 := Int.mul_nonneg h1 (Int.le_of_lt hp)
  rw [Qr hi s (by omega), Kt lo (64 - s) (by omega), Qr lo s (by omega)]
  have hl0 := Int.ediv_nonneg h2.1 (Int.le_of_lt hq)
  have hl1 : lo / 2 ^ (64 - s) < 2 ^ s := Int.ediv_lt_of_lt_mul hq (by rw [Int.mul_comm, <- e64]; exact h2.2)
  rw [Int.emod_eq_of_lt h0 h3, BJ s (by omega) ⟨h0, h3⟩ h1 ⟨hl0, hl1⟩]
  refine ⟨rfl, ⟨Int.emod_nonneg _ (by decide), Int.emod_lt_of_pos _ (by decide)⟩, ?_⟩
  rw [<- hd, Int.add_mul, Int.add_mul, Int.mul_right_comm]
  generalize hi * 18446744073709551616 * 2 ^ s = a
  generalize lo * 2 ^ s = b at *
  omega
def amA (a0 a1:Int) (K0 : Int -> Int -> Prop)  : Prop := Ts 6 (((0 <= (32:Int)) /\ Ts 5 (((0 <= (32:Int)) /\ Ts 9 (((0 <= (32:Int)) /\ Ts 6 (((0 <= (32:Int)) /\ Ts 13 (((0 <= (32:Int)) /\ Ts 6 (K0 (au .u64 (au .u64 (aI .u64 (bF .u64 a0 32) (bF .u64 a1 32)) (bF .u64 (au .u64 (aI .u64 (bF .u64 a0 32) (jK .u64 a1 4294967295)) (bF .u64 (aI .u64 (jK .u64 a0 4294967295) (jK .u64 a1 4294967295)) 32)) 32)) (bF .u64 (au .u64 (jK .u64 (au .u64 (aI .u64 (bF .u64 a0 32) (jK .u64 a1 4294967295)) (bF .u64 (aI .u64 (jK .u64 a0 4294967295) (jK .u64 a1 4294967295)) 32)) 4294967295) (aI .u64 (jK .u64 a0 4294967295) (bF .u64 a1 32))) 32)) (aI .u64 a0 a1))))))))))))
def afM (a0 a1:Int) : Prop := True
def RU (a0 a1:Int) : Int := (au .u64 (au .u64 (aI .u64 (bF .u64 a0 32) (bF .u64 a1 32)) (bF .u64 (au .u64 (aI .u64 (bF .u64 a0 32) (jK .u64 a1 4294967295)) (bF .u64 (aI .u64 (jK .u64 a0 4294967295) (jK .u64 a1 4294967295)) 32)) 32)) (bF .u64 (au .u64 (jK .u64 (au .u64 (aI .u64 (bF .u64 a0 32) (jK .u64 a1 4294967295)) (bF .u64 (aI .u64 (jK .u64 a0 4294967295) (jK .u64 a1 4294967295)) 32)) 4294967295) (aI .u64 (jK .u64 a0 4294967295) (bF .u64 a1 32))) 32))
def RV (a0 a1:Int) : Int := (aI .u64 a0 a1)
theorem avc (a0 a1:Int) {K0 : Int -> Int -> Prop} (h : afM a0 a1) (hK : K0 (RU a0 a1) (RV a0 a1)) : amA a0 a1 K0  := by
 unfold amA afM RU RV at *
 simp only [aH, true_and]
 repeat' first | exact hK | refine ⟨rfl, ?_⟩ | refine ⟨trivial, ?_⟩ | refine ⟨by decide, ?_⟩ | (refine ⟨h.1, ?_⟩; replace h := h.2) | refine ⟨h, ?_⟩
def am6 (a0:Int) (K0 : Bool -> Prop)  : Prop := Ts 5 (K0 (ine a0 a0))
def TV (a0:Int) : Prop := True
def Gt (a0:Int) : Bool := (ine a0 a0)
theorem avL (a0:Int) {K0 : Bool -> Prop} (h : TV a0) (hK : K0 (Gt a0)) : am6 a0 K0  := by
 unfold am6 TV Gt at *
 exact aH.2 hK
def alq (a0 a1:Int) (K0 : Int -> Prop)  : Prop := Ts 2 (((TV a0) /\ Ts 2 (((TV a1) /\ Ts 2 (cond (Gt a0) (Ts 1 (cond (Gt a1) (Ts 1 (K0 0)) (Ts 1 (K0 (-1))))) (Ts 1 (cond (Gt a1) (Ts 1 (K0 1)) (Ts 3 (cond (ilt a0 a1) (Ts 1 (K0 (-1))) (Ts 3 (cond (igt a0 a1) (Ts 1 (K0 1)) (Ts 1 (K0 0)))))))))))))
def acY (a0 a1:Int) : Prop := True
def Ap (a0 a1:Int) : Int := (cond (Gt a0) (cond (Gt a1) 0 (-1)) (cond (Gt a1) 1 (cond (ilt a0 a1) (-1) (cond (igt a0 a1) 1 0))))
theorem atM (a0 a1:Int) {K0 : Int -> Prop} (h : acY a0 a1) (hK : K0 (Ap a0 a1)) : alq a0 a1 K0  := by
 unfold alq acY Ap at *
 simp only [aH, true_and]
 repeat' first | exact hK | (refine aC (fun c => ?_) (fun c => ?_) <;> try simp only [c, cond_true, cond_false] at h hK ⊢) | refine ⟨rfl, ?_⟩ | refine ⟨trivial, ?_⟩ | refine ⟨by decide, ?_⟩ | (refine ⟨h.1, ?_⟩; replace h := h.2) | refine ⟨h, ?_⟩
def Il (a0 a1 a2 kd jm:Int) (c x0 : Int -> Int -> Prop)  : Prop := Ts 3 (cond (ige kd 4294967296) (Ts 10 (cond (ige (au .u64 jm (bF .u64 (dL .u64 a2 (aT .u64 (bT a2))) 32)) 4294967296) (x0 (bQ .u64 kd 1) (au .u64 jm (bF .u64 (dL .u64 a2 (aT .u64 (bT a2))) 32))) (c (bQ .u64 kd 1) (au .u64 jm (bF .u64 (dL .u64 a2 (aT .u64 (bT a2))) 32))))) (Ts 9 (cond (igt (aI .u64 kd (jK .u64 (dL .u64 a2 (aT .u64 (bT a2))) 4294967295)) (au .u64 (aI .u64 4294967296 jm) (bF .u64 (dL .u64 a1 (aT .u64 (bT a2))) 32))) (Ts 9 (cond (ige (au .u64 jm (bF .u64 (dL .u64 a2 (aT .u64 (bT a2))) 32)) 4294967296) (x0 (bQ .u64 kd 1) (au .u64 jm (bF .u64 (dL .u64 a2 (aT .u64 (bT a2))) 32))) (c (bQ .u64 kd 1) (au .u64 jm (bF .u64 (dL .u64 a2 (aT .u64 (bT a2))) 32))))) (x0 kd jm))))
def vS (a0 a1 a2:Int) : Nat -> Int -> Int -> (Int -> Int -> Prop) -> Prop
  | 0, _, _, _ => False
  | f + 1, w0, w1, x0 => Il a0 a1 a2 w0 w1 (fun u0 u1 => vS a0 a1 a2 f u0 u1 x0) x0 
theorem aaW (a0 a1 a2 kd jm:Int) {c c' : Int -> Int -> Prop} {x0 y0 : Int -> Int -> Prop} (hc : ∀ w0 w1, c w0 w1 -> c' w0 w1) (h0 : ∀ o0 o1, x0 o0 o1 -> y0 o0 o1) : Il a0 a1 a2 kd jm c x0  -> Il a0 a1 a2 kd jm c' y0  := by
  unfold Il
  repeat' first
    | exact hc _ _
    | exact h0 _ _
    | refine dU ?_
    | refine cO ?_ ?_
    | refine cZ ?_
theorem aaX (a0 a1 a2:Int) {x0 y0 : Int -> Int -> Prop} (h0 : ∀ o0 o1, x0 o0 o1 -> y0 o0 o1) : ∀ (f:Nat) (kd:Int) (jm:Int), vS a0 a1 a2 f kd jm x0 -> vS a0 a1 a2 f kd jm y0
  | 0, w0, w1 => fun h => h
  | f + 1, w0, w1 => aaW a0 a1 a2 w0 w1 (fun u0 u1 => aaX a0 a1 a2 h0 f u0 u1) h0
def Io (a0 a1 a2 k7 mw kn m8:Int) (c x0 : Int -> Int -> Int -> Int -> Prop)  : Prop := Ts 3 (cond (ige m8 4294967296) (Ts 10 (cond (ige (au .u64 mw (bF .u64 (dL .u64 a2 (aT .u64 (bT a2))) 32)) 4294967296) (x0 k7 (au .u64 mw (bF .u64 (dL .u64 a2 (aT .u64 (bT a2))) 32)) kn (bQ .u64 m8 1)) (c k7 (au .u64 mw (bF .u64 (dL .u64 a2 (aT .u64 (bT a2))) 32)) kn (bQ .u64 m8 1)))) (Ts 9 (cond (igt (aI .u64 m8 (jK .u64 (dL .u64 a2 (aT .u64 (bT a2))) 4294967295)) (au .u64 (aI .u64 4294967296 mw) (jK .u64 (dL .u64 a1 (aT .u64 (bT a2))) 4294967295))) (Ts 9 (cond (ige (au .u64 mw (bF .u64 (dL .u64 a2 (aT .u64 (bT a2))) 32)) 4294967296) (x0 k7 (au .u64 mw (bF .u64 (dL .u64 a2 (aT .u64 (bT a2))) 32)) kn (bQ .u64 m8 1)) (c k7 (au .u64 mw (bF .u64 (dL .u64 a2 (aT .u64 (bT a2))) 32)) kn (bQ .u64 m8 1)))) (x0 k7 mw kn m8))))
def vT (a0 a1 a2:Int) : Nat -> Int -> Int -> Int -> Int -> (Int -> Int -> Int -> Int -> Prop) -> Prop
  | 0, _, _, _, _, _ => False
  | f + 1, w0, w1, w2, w3, x0 => Io a0 a1 a2 w0 w1 w2 w3 (fun u0 u1 u2 u3 => vT a0 a1 a2 f u0 u1 u2 u3 x0) x0 
theorem aaY (a0 a1 a2 k7 mw kn m8:Int) {c c' : Int -> Int -> Int -> Int -> Prop} {x0 y0 : Int -> Int -> Int -> Int -> Prop} (hc : ∀ w0 w1 w2 w3, c w0 w1 w2 w3 -> c' w0 w1 w2 w3) (h0 : ∀ o0 o1 o2 o3, x0 o0 o1 o2 o3 -> y0 o0 o1 o2 o3) : Io a0 a1 a2 k7 mw kn m8 c x0  -> Io a0 a1 a2 k7 mw kn m8 c' y0  := by
  unfold Io
  repeat' first
    | exact hc _ _ _ _
    | exact h0 _ _ _ _
    | refine dU ?_
    | refine cO ?_ ?_
    | refine cZ ?_
theorem aaZ (a0 a1 a2:Int) {x0 y0 : Int -> Int -> Int -> Int -> Prop} (h0 : ∀ o0 o1 o2 o3, x0 o0 o1 o2 o3 -> y0 o0 o1 o2 o3) : ∀ (f:Nat) (k7:Int) (mw:Int) (kn:Int) (m8:Int), vT a0 a1 a2 f k7 mw kn m8 x0 -> vT a0 a1 a2 f k7 mw kn m8 y0
  | 0, w0, w1, w2, w3 => fun h => h
  | f + 1, w0, w1, w2, w3 => aaY a0 a1 a2 w0 w1 w2 w3 (fun u0 u1 u2 u3 => aaZ a0 a1 a2 h0 f u0 u1 u2 u3) h0
def acZ (a0 a1 a2:Int) (K0 : Int -> Int -> Prop) (l0 : Int -> Int -> (Int -> Int -> Prop) -> Prop) (l1 : Int -> Int -> Int -> Int -> (Int -> Int -> Int -> Int -> Prop) -> Prop) : Prop := Ts 4 (cond (ieq a2 0) (False) (Ts 3 (cond (ile a2 a0) (False) (Ts 2 (cond (ieq a0 0) (Ts 2 (((a2 ≠ 0) /\ Ts 2 (((a2 ≠ 0) /\ Ts 2 ((true = true /\ K0 (gG .u64 a1 a2) (aB .u64 a1 a2)))))))) (Ts 1 (((aeX a2) /\ Ts 4 (((0 <= (aT .u64 (bT a2))) /\ Ts 2 (((0 <= (32:Int)) /\ Ts 6 (((0 <= (aT .u64 (bT a2))) /\ Ts 3 (((0 <= (bQ .u64 64 (aT .u64 (bT a2)))) /\ Ts 4 (((0 <= (aT .u64 (bT a2))) /\ Ts 2 (((0 <= (32:Int)) /\ Ts 6 ((((bF .u64 (dL .u64 a2 (aT .u64 (bT a2))) 32) ≠ 0) /\ Ts 7 ((l0 (gG .u64 (ior .u64 (dL .u64 a0 (aT .u64 (bT a2))) (bF .u64 a1 (bQ .u64 64 (aT .u64 (bT a2))))) (bF .u64 (dL .u64 a2 (aT .u64 (bT a2))) 32)) (bQ .u64 (ior .u64 (dL .u64 a0 (aT .u64 (bT a2))) (bF .u64 a1 (bQ .u64 64 (aT .u64 (bT a2))))) (aI .u64 (gG .u64 (ior .u64 (dL .u64 a0 (aT .u64 (bT a2))) (bF .u64 a1 (bQ .u64 64 (aT .u64 (bT a2))))) (bF .u64 (dL .u64 a2 (aT .u64 (bT a2))) 32)) (bF .u64 (dL .u64 a2 (aT .u64 (bT a2))) 32))) (fun ol q5 => Ts 11 ((((bF .u64 (dL .u64 a2 (aT .u64 (bT a2))) 32) ≠ 0) /\ Ts 7 ((l1 ol (bQ .u64 (bQ .u64 (au .u64 (aI .u64 (ior .u64 (dL .u64 a0 (aT .u64 (bT a2))) (bF .u64 a1 (bQ .u64 64 (aT .u64 (bT a2))))) 4294967296) (bF .u64 (dL .u64 a1 (aT .u64 (bT a2))) 32)) (aI .u64 ol (dL .u64 a2 (aT .u64 (bT a2))))) (aI .u64 (gG .u64 (bQ .u64 (au .u64 (aI .u64 (ior .u64 (dL .u64 a0 (aT .u64 (bT a2))) (bF .u64 a1 (bQ .u64 64 (aT .u64 (bT a2))))) 4294967296) (bF .u64 (dL .u64 a1 (aT .u64 (bT a2))) 32)) (aI .u64 ol (dL .u64 a2 (aT .u64 (bT a2))))) (bF .u64 (dL .u64 a2 (aT .u64 (bT a2))) 32)) (bF .u64 (dL .u64 a2 (aT .u64 (bT a2))) 32))) (bQ .u64 (au .u64 (aI .u64 (ior .u64 (dL .u64 a0 (aT .u64 (bT a2))) (bF .u64 a1 (bQ .u64 64 (aT .u64 (bT a2))))) 4294967296) (bF .u64 (dL .u64 a1 (aT .u64 (bT a2))) 32)) (aI .u64 ol (dL .u64 a2 (aT .u64 (bT a2))))) (gG .u64 (bQ .u64 (au .u64 (aI .u64 (ior .u64 (dL .u64 a0 (aT .u64 (bT a2))) (bF .u64 a1 (bQ .u64 64 (aT .u64 (bT a2))))) 4294967296) (bF .u64 (dL .u64 a1 (aT .u64 (bT a2))) 32)) (aI .u64 ol (dL .u64 a2 (aT .u64 (bT a2))))) (bF .u64 (dL .u64 a2 (aT .u64 (bT a2))) 32)) (fun og rk oh qs => Ts 13 (((0 <= (aT .u64 (bT a2))) /\ Ts 2 (K0 (au .u64 (aI .u64 og 4294967296) qs) (bF .u64 (bQ .u64 (au .u64 (aI .u64 oh 4294967296) (jK .u64 (dL .u64 a1 (aT .u64 (bT a2))) 4294967295)) (aI .u64 qs (dL .u64 a2 (aT .u64 (bT a2))))) (aT .u64 (bT a2))))))))))))))))))))))))))))))))))))
def ae1 (hi lo y:Int) : Prop := U64 hi /\ U64 lo /\ U64 y /\ hi < y
def rZ (hi lo y:Int) : Int := (hi * 18446744073709551616 + lo) / y
def YL (hi lo y:Int) : Int := hi * 18446744073709551616 + lo - (hi * 18446744073709551616 + lo) / y * y
theorem XJ {q r yn1 yn0 un : Int} {u : Int} (h : KnG u un yn1 yn0 q r) (hr : r < 4294967296) (hn : 0 <= un /\ un < 4294967296) (hy : 2147483648 <= yn1 /\ yn1 < 4294967296) (h0 : 0 <= yn0 /\ yn0 < 4294967296) :
    au .u64 r yn1 = r + yn1 /\ (1 <= q -> bQ .u64 q 1 = q - 1) /\ (q < 4294967296 -> aI .u64 q yn0 = q * yn0) /\ au .u64 (aI .u64 4294967296 r) un = r * 4294967296 + un := by
  obtain ⟨q0, r0, eq, up, qm⟩ := h
  refine ⟨?_, fun h1 => ?_, fun h1 => ?_, ?_⟩
  . rw [Uw, Int.emod_eq_of_lt (by omega) (by omega)]
  . rw [Ux, Int.emod_eq_of_lt (by omega) (by omega)]
  . have a := aeP q0 h0.1
    have b := Int.mul_le_mul (show q <= 4294967295 by omega) (show yn0 <= 4294967295 by omega) h0.1 (by omega)
    rw [H9, Int.emod_eq_of_lt (by omega) (by omega)]
  . rw [H9, Uw, Int.mul_comm, Int.emod_eq_of_lt (show (0:Int) <= r * 4294967296 by omega) (by omega), Int.emod_eq_of_lt (by omega) (by omega)]
theorem UE {a0 a1 a2 Y L u : Int} (hY : dL .u64 a2 (aT .u64 (bT a2)) = Y) (hL : dL .u64 a1 (aT .u64 (bT a2)) = L) (hy : 9223372036854775808 <= Y /\ Y < 18446744073709551616) (hn : U64 L) (hu : 0 <= u /\ u < Y)
    {x0 : Int -> Int -> Prop} (hx : ∀ r, x0 ((u * 4294967296 + L / 4294967296) / Y) r) : ∀ (f:Nat) (q r:Int), KnG u (L / 4294967296) (Y / 4294967296) (Y % 4294967296) q r -> r < 4294967296 -> 4294967296 <= r + 2147483648 * (f:Int) -> vS a0 a1 a2 f q r x0
  | 0, q, r, h, hr, hf => by omega
  | f + 1, q, r, h, hr, hf => by
    show Il a0 a1 a2 q r _ _
    unfold Il
    have hUY : U64 Y := ⟨by omega, by omega⟩
    simp only [aH, hY, hL, FQ, Ig hUY]
    obtain ⟨n1, n2⟩ := hn
    have hYe : Y = Y / 4294967296 * 4294967296 + Y % 4294967296 := by omega
    have hY0 : 0 < Y := by omega
    have hlt : u < Y / 4294967296 * 4294967296 + Y % 4294967296 := by omega
    have y1 : 2147483648 <= Y / 4294967296 /\ Y / 4294967296 < 4294967296 := by omega
    have y0 : 0 <= Y % 4294967296 /\ Y % 4294967296 < 4294967296 := by omega
    have un : 0 <= L / 4294967296 /\ L / 4294967296 < 4294967296 := by omega
    obtain ⟨w1, w2, w3, w4⟩ := XJ h hr un y1 y0
    rw [w1, w4]
    have more : (4294967296 <= q \/ r * 4294967296 + L / 4294967296 < q * (Y % 4294967296)) -> cond (ige (r + Y / 4294967296) 4294967296) (x0 (bQ .u64 q 1) (r + Y / 4294967296)) (vS a0 a1 a2 f (bQ .u64 q 1) (r + Y / 4294967296) x0) := fun ht => by
      have g := h.gt un y1 y0 hlt ht
      rw [w2 (by have := g.q0; omega)]
      refine aC (fun hc => ?_) (fun hc => ?_)
      . rw [mD] at hc
        have := g.done hYe hY0 (g.big un y1 y0 hc (by have := h.qm; omega))
        rw [this] at hx
        exact hx _
      . rw [pU] at hc
        exact UE hY hL hy ⟨n1, n2⟩ hu hx f _ _ g hc (by omega)
    refine aC (fun hc => ?_) (fun hc => ?_)
    . rw [mD] at hc
      exact more (.inl hc)
    . rw [pU] at hc
      rw [w3 hc]
      refine aC (fun hd => ?_) (fun hd => ?_)
      . rw [qY] at hd
        exact more (.inr hd)
      . rw [nV] at hd
        have := h.done hYe hY0 (h.le un y1 y0 hd)
        rw [this] at hx
        exact hx _
theorem UF {a0 a1 a2 Y L u q1 : Int} (hY : dL .u64 a2 (aT .u64 (bT a2)) = Y) (hL : dL .u64 a1 (aT .u64 (bT a2)) = L) (hy : 9223372036854775808 <= Y /\ Y < 18446744073709551616) (hn : U64 L) (hu : 0 <= u /\ u < Y)
    {x0 : Int -> Int -> Int -> Int -> Prop} (hx : ∀ r, x0 q1 r u ((u * 4294967296 + L % 4294967296) / Y)) : ∀ (f:Nat) (q r:Int), KnG u (L % 4294967296) (Y / 4294967296) (Y % 4294967296) q r -> r < 4294967296 -> 4294967296 <= r + 2147483648 * (f:Int) -> vT a0 a1 a2 f q1 r u q x0
  | 0, q, r, h, hr, hf => by omega
  | f + 1, q, r, h, hr, hf => by
    show Io a0 a1 a2 q1 r u q _ _
    unfold Io
    have hUY : U64 Y := ⟨by omega, by omega⟩
    simp only [aH, hY, hL, FQ, Ig hUY, Ig hn]
    obtain ⟨n1, n2⟩ := hn
    have hYe : Y = Y / 4294967296 * 4294967296 + Y % 4294967296 := by omega
    have hY0 : 0 < Y := by omega
    have hlt : u < Y / 4294967296 * 4294967296 + Y % 4294967296 := by omega
    have y1 : 2147483648 <= Y / 4294967296 /\ Y / 4294967296 < 4294967296 := by omega
    have y0 : 0 <= Y % 4294967296 /\ Y % 4294967296 < 4294967296 := by omega
    have un : 0 <= L % 4294967296 /\ L % 4294967296 < 4294967296 := by omega
    obtain ⟨w1, w2, w3, w4⟩ := XJ h hr un y1 y0
    rw [w1, w4]
    have more : (4294967296 <= q \/ r * 4294967296 + L % 4294967296 < q * (Y % 4294967296)) -> cond (ige (r + Y / 4294967296) 4294967296) (x0 q1 (r + Y / 4294967296) u (bQ .u64 q 1)) (vT a0 a1 a2 f q1 (r + Y / 4294967296) u (bQ .u64 q 1) x0) := fun ht => by
      have g := h.gt un y1 y0 hlt ht
      rw [w2 (by have := g.q0; omega)]
      refine aC (fun hc => ?_) (fun hc => ?_)
      . rw [mD] at hc
        have := g.done hYe hY0 (g.big un y1 y0 hc (by have := h.qm; omega))
        rw [this] at hx
        exact hx _
      . rw [pU] at hc
        exact UF hY hL hy ⟨n1, n2⟩ hu hx f _ _ g hc (by omega)
    refine aC (fun hc => ?_) (fun hc => ?_)
    . rw [mD] at hc
      exact more (.inl hc)
    . rw [pU] at hc
      rw [w3 hc]
      refine aC (fun hd => ?_) (fun hd => ?_)
      . rw [qY] at hd
        exact more (.inr hd)
      . rw [nV] at hd
        have := h.done hYe hY0 (h.le un y1 y0 hd)
        rw [this] at hx
        exact hx _
theorem atN (a0 a1 a2:Int) {K0 : Int -> Int -> Prop} (h : ae1 a0 a1 a2) (hK : K0 (rZ a0 a1 a2) (YL a0 a1 a2)) : acZ a0 a1 a2 K0 (vS a0 a1 a2 fuel) (vT a0 a1 a2 fuel) := by
  obtain ⟨⟨h1, h2⟩, ⟨l1, l2⟩, ⟨y1, y2⟩, hlt⟩ := h
  unfold rZ YL at hK
  unfold acZ
  rw [vI.2 (show a2 ≠ 0 by omega), show ile a2 a0 = false by rw [Qh]; exact hlt]
  simp only [aH, true_and, cond_false]
  refine aC (fun hc => ?_) (fun hc => ?_)
  . rw [kE] at hc
    subst hc
    rw [Int.zero_mul, Int.zero_add] at hK
    rw [aeY ⟨l1, l2⟩ (by omega), aje l1]
    exact ⟨by omega, by omega, hK⟩
  . obtain ⟨p, s, es, s63, u1, u2, e64⟩ := apM ⟨y1, y2⟩ (show a2 ≠ 0 by omega)
    have hs0 : (0:Int) < 2 ^ s := Int.pow_pos (by decide)
    have hYe : dL .u64 a2 (s:Int) = a2 * 2 ^ s := by rw [Qr a2 s (by omega), Int.emod_eq_of_lt (by omega) u1]
    have hm := Int.mul_lt_mul_of_pos_right hlt hs0
    obtain ⟨g1, g2, g3⟩ := atJ (hi := a0) (lo := a1) s63 h1 ⟨l1, l2⟩ (by omega)
    have hNY : (a0 * 18446744073709551616 + a1) * 2 ^ s / (a2 * 2 ^ s) = (a0 * 18446744073709551616 + a1) / a2 := Int.mul_ediv_mul_of_pos_left _ _ hs0
    have hNR : (a0 * 18446744073709551616 + a1) * 2 ^ s - (a0 * 18446744073709551616 + a1) / a2 * (a2 * 2 ^ s) = (a0 * 18446744073709551616 + a1 - (a0 * 18446744073709551616 + a1) / a2 * a2) * 2 ^ s := by rw [Int.sub_mul, Int.mul_assoc ((a0 * 18446744073709551616 + a1) / a2)]
    have hult : (a0 * 18446744073709551616 + a1) * 2 ^ s < a2 * 2 ^ s * 18446744073709551616 := by
      rw [Int.mul_right_comm]
      exact Int.mul_lt_mul_of_pos_right (by omega) hs0
    have hu0 : 0 <= a0 * 2 ^ s + a1 / 2 ^ (64 - s) := by
      have := Int.mul_nonneg h1 (Int.le_of_lt hs0)
      have := Int.ediv_nonneg l1 (show (0:Int) <= 2 ^ (64 - s) from Int.le_of_lt (Int.pow_pos (by decide)))
      omega
    have hYe' := hYe
    have eL : ∀ L, dL .u64 a1 (s:Int) = L -> dL .u64 a1 (aT .u64 (bT a2)) = L := fun L h => by rw [es]; exact h
    have eY : ∀ L, dL .u64 a2 (s:Int) = L -> dL .u64 a2 (aT .u64 (bT a2)) = L := fun L h => by rw [es]; exact h
    simp only [es]
    rw [e64, g1]
    obtain ⟨L, hL⟩ : ∃ L, dL .u64 a1 (s:Int) = L := ⟨_, rfl⟩
    obtain ⟨Y, hY⟩ : ∃ Y, a2 * 2 ^ s = Y := ⟨_, rfl⟩
    obtain ⟨u, hu⟩ : ∃ u, a0 * 2 ^ s + a1 / 2 ^ (64 - s) = u := ⟨_, rfl⟩
    obtain ⟨N, hN⟩ : ∃ N, (a0 * 18446744073709551616 + a1) = N := ⟨_, rfl⟩
    rw [hN] at hNY hNR hult g3 hK
    rw [hY] at hYe hNY hNR hult u1 u2
    rw [hu] at g3 hu0 ⊢
    rw [hL] at g2 g3 ⊢
    rw [hYe]
    have huY : u < Y := by obtain ⟨_, _⟩ := g2; omega
    obtain ⟨gl, gr⟩ := g2
    simp only [FQ]
    have hUY : U64 Y := ⟨by omega, by omega⟩
    have hyn : 2147483648 <= Y / 4294967296 /\ Y / 4294967296 < 4294967296 := by omega
    have hyn0 : 0 <= Y % 4294967296 /\ Y % 4294967296 < 4294967296 := by omega
    have hun : 0 <= L / 4294967296 /\ L / 4294967296 < 4294967296 := by omega
    have hun0 : 0 <= L % 4294967296 /\ L % 4294967296 < 4294967296 := by omega
    have hYs : Y = Y / 4294967296 * 4294967296 + Y % 4294967296 := by omega
    have first : ∀ v, 0 <= v -> v < Y -> gG .u64 v (Y / 4294967296) = v / (Y / 4294967296) /\ bQ .u64 v (aI .u64 (v / (Y / 4294967296)) (Y / 4294967296)) = v - v / (Y / 4294967296) * (Y / 4294967296) /\ v - v / (Y / 4294967296) * (Y / 4294967296) < 4294967296 := fun v hv0 hv => by
      have q := aeY (a := v) (b := Y / 4294967296) ⟨hv0, by omega⟩ (by omega)
      obtain ⟨b1, b2⟩ := kF (x := v) (y := Y / 4294967296) (by omega)
      have hq0 := Int.ediv_nonneg hv0 (show 0 <= Y / 4294967296 by omega)
      have hm0 := Int.mul_nonneg hq0 (show 0 <= Y / 4294967296 by omega)
      rw [q, H9, Ux]
      rw [Int.add_mul, Int.one_mul] at b2
      generalize v / (Y / 4294967296) * (Y / 4294967296) = m at *
      refine ⟨rfl, ?_, by omega⟩
      rw [Int.emod_eq_of_lt hm0 (by omega), Int.emod_eq_of_lt (by omega) (by omega)]
    obtain ⟨k1, k2, k3⟩ := first u hu0 huY
    rw [k1, k2]
    have fl : ∀ r : Int, 0 <= r -> 4294967296 <= r + 2147483648 * (fuel:Int) := fun r hr => by rw [gW]; omega
    have G0 := KnG.first hu0 hun hyn hyn0 (by omega)
    refine ⟨p, by omega, by omega, by omega, by omega, by omega, by omega, by omega, ?_⟩
    refine UE (eY _ hYe) (eL _ hL) ⟨u2, u1⟩ ⟨gl, gr⟩ ⟨hu0, huY⟩ (fun r => ?_) fuel _ _ G0 k3 (fl _ G0.r0)
    obtain ⟨d1, d2, d3, d4⟩ := XD hu0 hun huY
    obtain ⟨t1, t2⟩ := YJ (u := u) (a := L / 4294967296) (b := L % 4294967296) (Y := Y) (by omega) hun0
    have eN : u * 18446744073709551616 + (L / 4294967296 * 4294967296 + L % 4294967296) = N * 2 ^ s := by omega
    rw [eN] at t1 t2
    rw [hNY] at t1 t2
    rw [hNR] at t2
    generalize (u * 4294967296 + L / 4294967296) / Y = q1 at *
    have r1 : bQ .u64 (au .u64 (aI .u64 u 4294967296) (L / 4294967296)) (aI .u64 q1 Y) = u * 4294967296 + L / 4294967296 - q1 * Y := by
      rw [H9, H9, Uw, Ux]
      generalize q1 * Y = m at *
      omega
    rw [r1]
    generalize hv : u * 4294967296 + L / 4294967296 - q1 * Y = v at *
    obtain ⟨k1, k2, k3⟩ := first v d3 d4
    rw [k1, k2]
    have G1 := KnG.first d3 hun0 hyn hyn0 (by omega)
    refine ⟨by omega, ?_⟩
    refine UF (eY _ hYe) (eL _ hL) ⟨u2, u1⟩ ⟨gl, gr⟩ ⟨d3, d4⟩ (fun r => ?_) fuel _ _ G1 k3 (fl _ G1.r0)
    obtain ⟨c1, c2, c3, c4⟩ := XD d3 hun0 d4
    generalize (v * 4294967296 + L % 4294967296) / Y = q0 at *
    refine ⟨by omega, ?_⟩
    have e1 : au .u64 (aI .u64 q1 4294967296) q0 = N / a2 := by
      rw [H9, Uw, t1]
      omega
    have e2 : bQ .u64 (au .u64 (aI .u64 v 4294967296) (jK .u64 L 4294967295)) (aI .u64 q0 Y) = (N - N / a2 * a2) * 2 ^ s := by
      rw [Ig ⟨gl, gr⟩, H9, H9, Uw, Ux, t2]
      generalize q0 * Y = m at *
      omega
    rw [e1, e2, Kt _ s (by omega), Int.mul_ediv_cancel _ (by omega)]
    exact hK
def Ip (ig:Nat) (a0:Nat -> Int) (ko:Int) (c x0 : Int -> Prop) (x1 : Int -> Int -> Prop)  : Prop := Ts 1 (cond (ilt ko (ig:Int)) (((0 <= ko /\ ko < (ig:Int)) /\ Ts 5 (cond (ine (a0 (Int.toNat ko)) 0) (Ts 2 (x1 (a0 (Int.toNat ko)) ko)) (Ts 2 (c (au .i64 ko 1)))))) (x0 ko))
def yB (ig:Nat) (a0:Nat -> Int) : Nat -> Int -> (Int -> Prop) -> (Int -> Int -> Prop) -> Prop
  | 0, _, _, _ => False
  | f + 1, w0, x0, x1 => Ip ig a0 w0 (fun u0 => yB ig a0 f u0 x0 x1) x0 x1 
theorem aa0 (ig:Nat) (a0:Nat -> Int) (ko:Int) {c c' : Int -> Prop} {x0 y0 : Int -> Prop} {x1 y1 : Int -> Int -> Prop} (hc : ∀ w0, c w0 -> c' w0) (h0 : ∀ o0, x0 o0 -> y0 o0) (h1 : ∀ o0 o1, x1 o0 o1 -> y1 o0 o1) : Ip ig a0 ko c x0 x1  -> Ip ig a0 ko c' y0 y1  := by
  unfold Ip
  repeat' first
    | exact hc _
    | exact h0 _
    | exact h1 _ _
    | refine dU ?_
    | refine cO ?_ ?_
    | refine cZ ?_
theorem aa1 (ig:Nat) (a0:Nat -> Int) {x0 y0 : Int -> Prop} {x1 y1 : Int -> Int -> Prop} (h0 : ∀ o0, x0 o0 -> y0 o0) (h1 : ∀ o0 o1, x1 o0 o1 -> y1 o0 o1) : ∀ (f:Nat) (ko:Int), yB ig a0 f ko x0 x1 -> yB ig a0 f ko y0 y1
  | 0, w0 => fun h => h
  | f + 1, w0 => aa0 ig a0 w0 (fun u0 => aa1 ig a0 h0 h1 f u0) h0 h1
def ac0 (ig:Nat) (a0:Nat -> Int) (K0 : Int -> Prop) (l0 : Int -> (Int -> Prop) -> (Int -> Int -> Prop) -> Prop) : Prop := Ts 5 ((l0 0 (fun qd => Ts 2 (K0 0)) (fun l6 qd => K0 l6)))
def orN (x:Nat -> Int) : Nat -> Int
  | 0 => 0
  | n + 1 => if orN x n = 0 then x n else orN x n
def ahu (n:Nat) (x:Nat -> Int) : Prop := n <= 1000000
def QC (n:Nat) (x:Nat -> Int) : Int := orN x n
theorem QD {x : Nat -> Int} : ∀ {n : Nat}, (∀ k, k < n -> x k = 0) -> orN x n = 0
  | 0, _ => rfl
  | n + 1, h => by unfold orN; rw [if_pos (QD fun k hk => h k (by omega)), h n (by omega)]
theorem UG {x : Nat -> Int} {i : Nat} (h0 : ∀ k, k < i -> x k = 0) (hi : x i ≠ 0) : ∀ {n : Nat}, i < n -> orN x n = x i
  | 0, h => by omega
  | n + 1, h => by
    unfold orN
    by_cases e : i = n
    . subst e; rw [if_pos (QD h0)]
    . rw [UG h0 hi (n := n) (by omega), if_neg hi]
theorem aa2 {n : Nat} {x : Nat -> Int} (hn : n <= 1000000) {x0 : Int -> Prop} {x1 : Int -> Int -> Prop} (h3 : orN x n = 0 -> ∀ v, x0 v) (h4 : ∀ v, x1 (orN x n) v) : ∀ (f i:Nat), i <= n -> n < f + i -> (∀ k, k < i -> x k = 0) -> yB n x f i x0 x1
  | 0, i, h1, h2, _ => by omega
  | f + 1, i, h1, h2, g => by
    show Ip n x i _ _ _
    unfold Ip
    simp only [aH, true_and, Int.toNat_natCast, Nat.zero_add]
    refine aC (fun hc => ?_) (fun hc => ?_)
    . rw [dY] at hc
      refine ⟨⟨by omega, hc⟩, ?_⟩
      refine aC (fun hc2 => ?_) (fun hc2 => ?_)
      . rw [tY] at hc2
        have := h4 i
        rw [UG g hc2 (by omega)] at this
        exact this
      . rw [tZ] at hc2
        rw [fF (by omega) (by omega)]
        exact aa2 hn h3 h4 f (i + 1) (by omega) (by omega) fun k hk => (if e : k = i then by subst e; exact hc2 else g k (by omega))
    . rw [fJ] at hc
      have : i = n := by omega
      subst this
      exact h3 (QD g) _
theorem atO (ig:Nat) (a0:Nat -> Int) {K0 : Int -> Prop} (h : ahu ig a0) (hK : K0 (QC ig a0)) : ac0 ig a0 K0 (yB ig a0 fuel) := by
  unfold ac0
  simp only [aH, true_and]
  have hn : ig <= 1000000 := h
  refine aa2 hn (fun e v => ?_) (fun v => hK) fuel 0 (Nat.zero_le _) (by rw [gW]; omega) (fun k hk => by omega)
  have hK' : K0 (orN a0 ig) := hK
  rw [e] at hK'
  exact hK'
def amF (a0:Int) (K0 : Bool -> Prop)  : Prop := Ts 5 (K0 (ine a0 a0))
def adz (a0:Int) : Prop := True
def yZ (a0:Int) : Bool := (ine a0 a0)
theorem avj (a0:Int) {K0 : Bool -> Prop} (h : adz a0) (hK : K0 (yZ a0)) : amF a0 K0  := by
 unfold amF adz yZ at *
 exact aH.2 hK
def als (a0 a1:Int) (K0 : Int -> Prop)  : Prop := Ts 2 (((adz a0) /\ Ts 2 (((adz a1) /\ Ts 2 (cond (yZ a0) (Ts 1 (cond (yZ a1) (Ts 1 (K0 0)) (Ts 1 (K0 (-1))))) (Ts 1 (cond (yZ a1) (Ts 1 (K0 1)) (Ts 3 (cond (ilt a0 a1) (Ts 1 (K0 (-1))) (Ts 3 (cond (igt a0 a1) (Ts 1 (K0 1)) (Ts 1 (K0 0)))))))))))))
def ae3 (a0 a1:Int) : Prop := True
def lT (a0 a1:Int) : Int := (cond (yZ a0) (cond (yZ a1) 0 (-1)) (cond (yZ a1) 1 (cond (ilt a0 a1) (-1) (cond (igt a0 a1) 1 0))))
theorem atQ (a0 a1:Int) {K0 : Int -> Prop} (h : ae3 a0 a1) (hK : K0 (lT a0 a1)) : als a0 a1 K0  := by
 unfold als ae3 lT at *
 simp only [aH, true_and]
 repeat' first | exact hK | (refine aC (fun c => ?_) (fun c => ?_) <;> try simp only [c, cond_true, cond_false] at h hK ⊢) | refine ⟨rfl, ?_⟩ | refine ⟨trivial, ?_⟩ | refine ⟨by decide, ?_⟩ | (refine ⟨h.1, ?_⟩; replace h := h.2) | refine ⟨h, ?_⟩
def alu (cm:Int) (ge:Bool) (K0 : Int -> Bool -> Prop)  : Prop := Ts 6 (cond (ieq cm (-9223372036854775808)) (Ts 2 (K0 (-9223372036854775807) true)) (Ts 6 ((true = true /\ K0 cm ge))))
def Ar (cm:Int) (ge:Bool) : Prop := True
def aW (cm:Int) (ge:Bool) : Int := (cond (ieq cm (-9223372036854775808)) (-9223372036854775807) cm)
def dP (cm:Int) (ge:Bool) : Bool := (cond (ieq cm (-9223372036854775808)) true ge)
theorem atS (cm:Int) (ge:Bool) {K0 : Int -> Bool -> Prop} (h : Ar cm ge) (hK : K0 (aW cm ge) (dP cm ge)) : alu cm ge K0  := by
 unfold alu Ar aW dP at *
 simp only [aH, true_and]
 repeat' first | exact hK | (refine aC (fun c => ?_) (fun c => ?_) <;> try simp only [c, cond_true, cond_false] at h hK ⊢) | refine ⟨rfl, ?_⟩ | refine ⟨trivial, ?_⟩ | refine ⟨by decide, ?_⟩ | (refine ⟨h.1, ?_⟩; replace h := h.2) | refine ⟨h, ?_⟩
def amC (a0:Int) (K0 : Int -> Prop)  : Prop := Ts 3 (cond (ilt a0 0) (Ts 4 (K0 (aT .u64 (bM .i64 a0)))) (Ts 3 (K0 (aT .u64 a0))))
def X5 (a0:Int) : Prop := True
def fP (a0:Int) : Int := (cond (ilt a0 0) (aT .u64 (bM .i64 a0)) (aT .u64 a0))
theorem au0 (a0:Int) {K0 : Int -> Prop} (h : X5 a0) (hK : K0 (fP a0)) : amC a0 K0  := by
 unfold amC X5 fP at *
 simp only [aH, true_and]
 repeat' first | exact hK | (refine aC (fun c => ?_) (fun c => ?_) <;> try simp only [c, cond_true, cond_false] at h hK ⊢)
def alx (a0 a1:Int) (K0 : Bool -> Int -> Int -> Prop)  : Prop := Ts 2 (((X5 a0) /\ Ts 1 (((X5 a1) /\ ((afM (fP a0) (fP a1)) /\ Ts 11 (cond (!(jL (ilt a0 0) (ilt a1 0))) (Ts 4 (cond (ine a0 0) (Ts 8 (K0 (ine a1 0) (RU (fP a0) (fP a1)) (RV (fP a0) (fP a1)))) (Ts 6 (K0 false (RU (fP a0) (fP a1)) (RV (fP a0) (fP a1)))))) (Ts 8 (K0 false (RU (fP a0) (fP a1)) (RV (fP a0) (fP a1))))))))))
def ac1 (a0 a1:Int) : Prop := True
def fZ (a0 a1:Int) : Bool := (cond (!(jL (ilt a0 0) (ilt a1 0))) (cond (ine a0 0) (ine a1 0) false) false)
def iH (a0 a1:Int) : Int := (RU (fP a0) (fP a1))
def iK (a0 a1:Int) : Int := (RV (fP a0) (fP a1))
theorem atU (a0 a1:Int) {K0 : Bool -> Int -> Int -> Prop} (h : ac1 a0 a1) (hK : K0 (fZ a0 a1) (iH a0 a1) (iK a0 a1)) : alx a0 a1 K0  := by
 unfold alx ac1 fZ iH iK at *
 simp only [aH, true_and]
 repeat' first | exact hK | (refine aC (fun c => ?_) (fun c => ?_) <;> try simp only [c, cond_true, cond_false] at h hK ⊢) | refine ⟨rfl, ?_⟩ | refine ⟨trivial, ?_⟩ | refine ⟨by decide, ?_⟩ | (refine ⟨h.1, ?_⟩; replace h := h.2) | refine ⟨h, ?_⟩
def amd (cm:Bool) (ge ij:Int) (ic:Bool) (ie ke:Int) (K0 : Bool -> Prop)  : Prop := Ts 9 (cond (ilt ge ie) (Ts 2 (K0 true)) (Ts 6 (cond (ieq ge ie) (Ts 8 (K0 (ilt ij ke))) (Ts 3 (K0 false)))))
def adr (cm:Bool) (ge ij:Int) (ic:Bool) (ie ke:Int) : Prop := True
def AQ (cm:Bool) (ge ij:Int) (ic:Bool) (ie ke:Int) : Bool := (cond (ilt ge ie) true (cond (ieq ge ie) (ilt ij ke) false))
theorem auR (cm:Bool) (ge ij:Int) (ic:Bool) (ie ke:Int) {K0 : Bool -> Prop} (h : adr cm ge ij ic ie ke) (hK : K0 (AQ cm ge ij ic ie ke)) : amd cm ge ij ic ie ke K0  := by
 unfold amd adr AQ at *
 simp only [aH, true_and]
 repeat' first | exact hK | (refine aC (fun c => ?_) (fun c => ?_) <;> try simp only [c, cond_true, cond_false] at h hK ⊢)
def al6 (cm:Bool) (ge ij:Int) (ic:Bool) (ie ke:Int) (K0 : Bool -> Int -> Int -> Prop)  : Prop := Ts 8 (cond (jL cm ic) (Ts 4 (((kG ij ke 0) /\ Ts 10 (((kG ge ie (fB ij ke 0)) /\ Ts 12 (K0 cm (fA ge ie (fB ij ke 0)) (fA ij ke 0))))))) (Ts 2 (((adr cm ge ij ic ie ke) /\ cond (AQ cm ge ij ic ie ke) (Ts 8 (((fU ke ij 0) /\ Ts 10 (((fU ie ge (bn ke ij 0)) /\ Ts 8 (cond ic (Ts 3 (cond (ine (aQ ie ge (bn ke ij 0)) 0) (Ts 7 (K0 true (aQ ie ge (bn ke ij 0)) (aQ ke ij 0))) (Ts 9 (K0 (ine (aQ ke ij 0) 0) (aQ ie ge (bn ke ij 0)) (aQ ke ij 0))))) (Ts 6 (K0 false (aQ ie ge (bn ke ij 0)) (aQ ke ij 0))))))))) (Ts 4 (((fU ij ke 0) /\ Ts 10 (((fU ge ie (bn ij ke 0)) /\ Ts 8 (cond cm (Ts 3 (cond (ine (aQ ge ie (bn ij ke 0)) 0) (Ts 7 (K0 true (aQ ge ie (bn ij ke 0)) (aQ ij ke 0))) (Ts 9 (K0 (ine (aQ ij ke 0) 0) (aQ ge ie (bn ij ke 0)) (aQ ij ke 0))))) (Ts 6 (K0 false (aQ ge ie (bn ij ke 0)) (aQ ij ke 0)))))))))))))
def VG (cm:Bool) (ge ij:Int) (ic:Bool) (ie ke:Int) : Prop := (cond (jL cm ic) ((kG ij ke 0) /\ (kG ge ie (fB ij ke 0))) (cond (AQ cm ge ij ic ie ke) ((fU ke ij 0) /\ (fU ie ge (bn ke ij 0))) ((fU ij ke 0) /\ (fU ge ie (bn ij ke 0)))))
def nM (cm:Bool) (ge ij:Int) (ic:Bool) (ie ke:Int) : Bool := (cond (jL cm ic) cm (cond (AQ cm ge ij ic ie ke) (cond ic (cond (ine (aQ ie ge (bn ke ij 0)) 0) true (ine (aQ ke ij 0) 0)) false) (cond cm (cond (ine (aQ ge ie (bn ij ke 0)) 0) true (ine (aQ ij ke 0) 0)) false)))
def kJ (cm:Bool) (ge ij:Int) (ic:Bool) (ie ke:Int) : Int := (cond (jL cm ic) (fA ge ie (fB ij ke 0)) (cond (AQ cm ge ij ic ie ke) (aQ ie ge (bn ke ij 0)) (aQ ge ie (bn ij ke 0))))
def yO (cm:Bool) (ge ij:Int) (ic:Bool) (ie ke:Int) : Int := (cond (jL cm ic) (fA ij ke 0) (cond (AQ cm ge ij ic ie ke) (aQ ke ij 0) (aQ ij ke 0)))
theorem auI (cm:Bool) (ge ij:Int) (ic:Bool) (ie ke:Int) {K0 : Bool -> Int -> Int -> Prop} (h : VG cm ge ij ic ie ke) (hK : K0 (nM cm ge ij ic ie ke) (kJ cm ge ij ic ie ke) (yO cm ge ij ic ie ke)) : al6 cm ge ij ic ie ke K0  := by
 unfold al6 VG nM kJ yO at *
 simp only [aH, true_and]; try simp only [aH, true_and] at h
 repeat' first | exact hK | (refine aC (fun c => ?_) (fun c => ?_) <;> try simp only [c, cond_true, cond_false] at h hK ⊢) | refine ⟨rfl, ?_⟩ | refine ⟨trivial, ?_⟩ | refine ⟨by decide, ?_⟩ | (refine ⟨h.1, ?_⟩; replace h := h.2) | refine ⟨h, ?_⟩
def anc (cm:Bool) (ge ij:Int) (K0 : Bool -> Int -> Int -> Prop)  : Prop := Ts 6 (((0 <= (32:Int)) /\ Ts 2 (((0 <= (32:Int)) /\ Ts 2 (((0 <= (32:Int)) /\ Ts 4 (K0 cm (bF .u64 ge 32) (ior .u64 (dL .u64 ge 32) (bF .u64 ij 32)))))))))
def Yg (cm:Bool) (ge ij:Int) : Prop := True
def tu (cm:Bool) (ge ij:Int) : Bool := cm
def tC (cm:Bool) (ge ij:Int) : Int := (bF .u64 ge 32)
def yR (cm:Bool) (ge ij:Int) : Int := (ior .u64 (dL .u64 ge 32) (bF .u64 ij 32))
theorem avS (cm:Bool) (ge ij:Int) {K0 : Bool -> Int -> Int -> Prop} (h : Yg cm ge ij) (hK : K0 (tu cm ge ij) (tC cm ge ij) (yR cm ge ij)) : anc cm ge ij K0  := by
 unfold anc Yg tu tC yR at *
 simp only [aH, true_and]
 repeat' first | exact hK | refine ⟨rfl, ?_⟩ | refine ⟨trivial, ?_⟩ | refine ⟨by decide, ?_⟩ | (refine ⟨h.1, ?_⟩; replace h := h.2) | refine ⟨h, ?_⟩
def ama (cm:Bool) (ge ij:Int) (a1:Bool) (K0 : Int -> Bool -> Prop)  : Prop := Ts 7 (cond (ine ge 0) (Ts 4 (cond cm (Ts 8 (K0 (bM .i64 9223372036854775807) true)) (Ts 5 (K0 9223372036854775807 true)))) (Ts 4 (cond (igt ij 9223372036854775807) (Ts 3 (cond cm (Ts 8 (K0 (bM .i64 9223372036854775807) true)) (Ts 5 (K0 9223372036854775807 true)))) (Ts 6 (cond cm (Ts 8 (K0 (bM .i64 (aT .i64 ij)) a1)) (Ts 5 (K0 (aT .i64 ij) a1)))))))
def Dc (cm:Bool) (ge ij:Int) (a1:Bool) : Prop := True
def qQ (cm:Bool) (ge ij:Int) (a1:Bool) : Int := (cond (ine ge 0) (cond cm (bM .i64 9223372036854775807) 9223372036854775807) (cond (igt ij 9223372036854775807) (cond cm (bM .i64 9223372036854775807) 9223372036854775807) (cond cm (bM .i64 (aT .i64 ij)) (aT .i64 ij))))
def qR (cm:Bool) (ge ij:Int) (a1:Bool) : Bool := (cond (ine ge 0) true (cond (igt ij 9223372036854775807) true a1))
theorem auN (cm:Bool) (ge ij:Int) (a1:Bool) {K0 : Int -> Bool -> Prop} (h : Dc cm ge ij a1) (hK : K0 (qQ cm ge ij a1) (qR cm ge ij a1)) : ama cm ge ij a1 K0  := by
 unfold ama Dc qQ qR at *
 simp only [aH, true_and]
 repeat' first | exact hK | (refine aC (fun c => ?_) (fun c => ?_) <;> try simp only [c, cond_true, cond_false] at h hK ⊢)
def TN (v:Int) : Prop := -9223372036854775808 <= v /\ v <= 9223372036854775807
def Num' (v:Int) : Prop := -9223372036854775807 <= v /\ v <= 9223372036854775807
def whole (v:Int) : Int := if v = -9223372036854775808 then -9223372036854775807 else v
theorem jQ (v:Int) (f:Bool) : aW v f = whole v := by
  unfold aW whole
  by_cases h : v = -9223372036854775808
  . rw [kE.2 h, cond_true, if_pos h]
  . rw [vI.2 h, cond_false, if_neg h]
theorem BN {v : Int} (h : TN v) : Num' (whole v) := by
  unfold whole Num'
  obtain ⟨h1, h2⟩ := h
  split <;> omega
theorem eX {v : Int} (h : Num' v) : whole v = v := if_neg (by have := h.1; omega)
theorem dX {v : Int} (h : Num' v) (f:Bool) : dP v f = f := by
  unfold dP
  rw [vI.2 (by have := h.1; omega), cond_false]
theorem size_eq {v : Int} (h : Num' v) : fP v = max v (-v) := by
  obtain ⟨h1, h2⟩ := h
  unfold fP
  by_cases hv : v < 0
  . rw [dY.2 hv, cond_true, Lr, rF (by omega) (by omega)]
    omega
  . rw [fJ.2 (by omega), cond_false, Lr]
    omega
theorem ae5 {v : Int} (h : Num' v) : U64 (fP v) := by
  rw [size_eq h]; obtain ⟨h1, h2⟩ := h; exact ⟨by omega, by omega⟩
theorem XK {x y : Int} (hx : U64 x) (hy : U64 y) : RU x y = x * y / 18446744073709551616 := acR hx hy
theorem XL {x y : Int} : RV x y = x * y % 18446744073709551616 := H9 x y
structure Wd (neg:Bool) (hi lo:Int) : Prop where
  uh : U64 hi
  ul : U64 lo
  can : neg = true -> hi ≠ 0 \/ lo ≠ 0
theorem yD (a b:Int) : max (a * b) (-(a * b)) = max a (-a) * max b (-b) := by
  have : max (a * b) (-(a * b)) = ((a * b).natAbs:Int) := by omega
  rw [this, Int.natAbs_mul, Int.natCast_mul]
  rw [show max a (-a) = (a.natAbs:Int) by omega, show max b (-b) = (b.natAbs:Int) by omega]
theorem yE {a b : Int} (ha : Num' a) (hb : Num' b) : Wd (fZ a b) (iH a b) (iK a b) /\ VW (fZ a b) (iH a b) (iK a b) = a * b /\ iH a b < 4611686018427387904 := by
  have e1 : iH a b = max (a * b) (-(a * b)) / 18446744073709551616 := by
    unfold iH
    rw [XK (ae5 ha) (ae5 hb), size_eq ha, size_eq hb, yD]
  have e2 : iK a b = max (a * b) (-(a * b)) % 18446744073709551616 := by
    unfold iK
    rw [XL, size_eq ha, size_eq hb, yD]
  have hle : max (a * b) (-(a * b)) <= 9223372036854775807 * 9223372036854775807 := by
    rw [yD]
    exact Int.mul_le_mul (by have := ha; unfold Num' at this; omega) (by have := hb; unfold Num' at this; omega) (by omega) (by omega)
  have hsgn : fZ a b = true ↔ a * b < 0 := by
    unfold fZ
    by_cases h1 : a < 0 <;> by_cases h2 : b < 0
    . rw [dY.2 h1, dY.2 h2]
      have := Int.mul_pos_of_neg_of_neg h1 h2
      simp [jU]; omega
    . rw [dY.2 h1, fJ.2 (by omega)]
      simp only [tY.2 (show ¬ a = 0 by omega)]
      by_cases h3 : b = 0
      . subst h3; simp [jU, tZ.2]
      . have := Int.mul_neg_of_neg_of_pos h1 (show 0 < b by omega)
        simp [jU, tY.2 h3, this]
    . rw [fJ.2 (by omega), dY.2 h2]
      by_cases h3 : a = 0
      . subst h3; simp [jU, tZ.2]
      . have := Int.mul_neg_of_pos_of_neg (show 0 < a by omega) h2
        simp [jU, tY.2 h3, tY.2 (show ¬ b = 0 by omega), this]
    . rw [fJ.2 (by omega), fJ.2 (by omega)]
      have := Int.mul_nonneg (show 0 <= a by omega) (show 0 <= b by omega)
      simp [jU]; omega
  rw [e1, e2]
  generalize hz : a * b = z at *
  refine ⟨⟨⟨by omega, by omega⟩, ⟨by omega, by omega⟩, fun hn => ?_⟩, ?_, by omega⟩
  . have := hsgn.1 hn; omega
  . cases hn : fZ a b with
    | true => have := hsgn.1 hn; unfold VW sg; simp only [cond_true]; omega
    | false =>
      have : ¬ z < 0 := fun h => by rw [hsgn.2 h] at hn; cases hn
      unfold VW sg; simp only [cond_false]; omega
theorem ajf {hi : Int} (h : U64 hi) : hi * 4294967296 % 18446744073709551616 = hi % 4294967296 * 2 ^ 32 := by
  obtain ⟨h1, h2⟩ := h
  have : (2:Int) ^ 32 = 4294967296 := by decide
  rw [this]; omega
theorem Px {neg : Bool} {hi lo : Int} (h1 : U64 hi) (h2 : U64 lo) : U64 (tC neg hi lo) /\ U64 (yR neg hi lo) /\ tC neg hi lo * 18446744073709551616 + yR neg hi lo = (hi * 18446744073709551616 + lo) / 4294967296 := by
  unfold tC yR
  have e : (2:Int) ^ 32 = 4294967296 := by decide
  rw [FQ, FQ, YI, ajf h1, BJ 32 (by decide) ⟨by rw [e]; have := h1.1; omega, by rw [e]; omega⟩ (by omega) (by rw [e]; have := h2.1; have := h2.2; omega), e]
  obtain ⟨a1, a2⟩ := h1
  obtain ⟨b1, b2⟩ := h2
  exact ⟨⟨by omega, by omega⟩, ⟨by omega, by omega⟩, by omega⟩
theorem aa3 {v : Int} (h : 9223372036854775807 < v) : vK v = 9223372036854775807 := if_pos h
theorem aa4 {v : Int} (h : v < -9223372036854775807) : vK v = -9223372036854775807 := by unfold vK; rw [if_neg (by omega), if_pos h]
theorem aa5 {v : Int} (h : 9223372036854775807 < v) : vM v = true := by unfold vM; simp [h]
theorem aa6 {v : Int} (h : v < -9223372036854775807) : vM v = true := by unfold vM; simp [h]
theorem oH (hi lo:Int) : VW true hi lo = -(hi * 18446744073709551616 + lo) := rfl
theorem pO (hi lo:Int) : VW false hi lo = hi * 18446744073709551616 + lo := rfl
theorem FV {neg : Bool} {hi lo : Int} (h1 : U64 hi) (h2 : U64 lo) (f:Bool) : qQ neg hi lo f = vK (VW neg hi lo) /\ qR neg hi lo f = (f || vM (VW neg hi lo)) := by
  obtain ⟨a1, a2⟩ := h1
  obtain ⟨b1, b2⟩ := h2
  unfold qQ qR
  have en : bM .i64 9223372036854775807 = -9223372036854775807 := rF (by omega) (by omega)
  by_cases h : hi = 0
  . rw [tZ.2 h]
    simp only [cond_false]
    by_cases g : 9223372036854775807 < lo
    . rw [qY.2 g]
      simp only [cond_true, en]
      cases neg
      . rw [pO, aa3 (by omega), aa5 (by omega), Bool.or_true]; exact ⟨rfl, rfl⟩
      . rw [oH, aa4 (by omega), aa6 (by omega), Bool.or_true]; exact ⟨rfl, rfl⟩
    . rw [nV.2 (by omega)]
      simp only [cond_false]
      rw [aeM ⟨by omega, by omega⟩, rF (by omega) (by omega)]
      cases neg
      . rw [pO, Pq (by omega), Pv (by omega), Bool.or_false]; exact ⟨by simp only [cond_false]; omega, rfl⟩
      . rw [oH, Pq (by omega), Pv (by omega), Bool.or_false]; exact ⟨by simp only [cond_true]; omega, rfl⟩
  . rw [tY.2 h]
    simp only [cond_true, en]
    cases neg
    . rw [pO, aa3 (by omega), aa5 (by omega), Bool.or_true]; exact ⟨rfl, rfl⟩
    . rw [oH, aa4 (by omega), aa6 (by omega), Bool.or_true]; exact ⟨rfl, rfl⟩
theorem MG {a : Bool} {ah al : Int} {b : Bool} {bh bl : Int} (h1 : U64 ah) (h2 : U64 al) (h3 : U64 bh) (h4 : U64 bl) : VG a ah al b bh bl := by
  obtain ⟨a1, a2⟩ := h1
  obtain ⟨a3, a4⟩ := h2
  obtain ⟨b1, b2⟩ := h3
  obtain ⟨b3, b4⟩ := h4
  unfold VG kG fU fB bn
  refine aC (fun _ => ?_) (fun _ => aC (fun _ => ?_) (fun _ => ?_))
  . refine ⟨⟨a3, b3, by omega, by omega⟩, a1, b1, ?_, ?_⟩ <;> omega
  . refine ⟨⟨b3, a3, by omega, by omega, by omega⟩, b1, a1, by omega, ?_, ?_⟩ <;> split <;> omega
  . refine ⟨⟨a3, b3, by omega, by omega, by omega⟩, a1, b1, by omega, ?_, ?_⟩ <;> split <;> omega
theorem Vm {a : Bool} {ah al : Int} {b : Bool} {bh bl : Int} (h1 : Wd a ah al) (h2 : Wd b bh bl) (ha : ah < 9223372036854775808) (hb : bh < 9223372036854775808) :
    Wd (nM a ah al b bh bl) (kJ a ah al b bh bl) (yO a ah al b bh bl) /\ VW (nM a ah al b bh bl) (kJ a ah al b bh bl) (yO a ah al b bh bl) = VW a ah al + VW b bh bl := by
  obtain ⟨⟨a1, a2⟩, ⟨a3, a4⟩, ac⟩ := h1
  obtain ⟨⟨b1, b2⟩, ⟨b3, b4⟩, bc⟩ := h2
  have hless : AQ a ah al b bh bl = true ↔ ah * 18446744073709551616 + al < bh * 18446744073709551616 + bl := by
    unfold AQ
    by_cases h : ah < bh
    . rw [dY.2 h]; simp only [cond_true, true_iff]; omega
    . rw [fJ.2 (by omega)]
      simp only [cond_false]
      by_cases g : ah = bh
      . rw [kE.2 g]; simp only [cond_true]; rw [dY]; omega
      . rw [vI.2 g]; simp only [cond_false]; constructor
        . intro h; cases h
        . intro h; omega
  unfold nM kJ yO
  by_cases hs : a = b
  . subst hs
    have : jL a a = true := by rw [jU]; exact beq_self_eq_true a
    rw [this]
    simp only [cond_true, fA, fB]
    refine ⟨⟨⟨by omega, by omega⟩, ⟨by omega, by omega⟩, fun h => ?_⟩, ?_⟩
    . have := ac h; omega
    . cases a
      . rw [pO, pO, pO]; omega
      . rw [oH, oH, oH]; omega
  . have : jL a b = false := by rw [jU]; cases a <;> cases b <;> first | rfl | exact absurd rfl hs
    rw [this]
    simp only [cond_false]
    cases hl : AQ a ah al b bh bl with
    | true =>
      have hl := hless.1 hl
      simp only [cond_true]
      have e : aQ bh ah (bn bl al 0) * 18446744073709551616 + aQ bl al 0 = bh * 18446744073709551616 + bl - (ah * 18446744073709551616 + al) := by
        unfold aQ bn; split <;> omega
      have u1 : U64 (aQ bh ah (bn bl al 0)) := by unfold aQ; exact ⟨by omega, by omega⟩
      have u2 : U64 (aQ bl al 0) := by unfold aQ; exact ⟨by omega, by omega⟩
      generalize aQ bh ah (bn bl al 0) = rh at *
      generalize aQ bl al 0 = rl at *
      cases b
      . cases a
        . exact absurd rfl hs
        . simp only [cond_false]
          exact ⟨⟨u1, u2, fun h => by cases h⟩, by rw [pO, pO, oH]; omega⟩
      . cases a
        . simp only [cond_true]
          by_cases z : rh = 0
          . rw [tZ.2 z, cond_false]
            rw [tY.2 (by obtain ⟨_, _⟩ := u2; omega)]
            exact ⟨⟨u1, u2, fun _ => by omega⟩, by rw [oH, pO, oH]; omega⟩
          . rw [tY.2 z, cond_true]
            exact ⟨⟨u1, u2, fun _ => by omega⟩, by rw [oH, pO, oH]; omega⟩
        . exact absurd rfl hs
    | false =>
      have hl : ¬ (ah * 18446744073709551616 + al < bh * 18446744073709551616 + bl) := fun h => by rw [hless.2 h] at hl; cases hl
      simp only [cond_false]
      have e : aQ ah bh (bn al bl 0) * 18446744073709551616 + aQ al bl 0 = ah * 18446744073709551616 + al - (bh * 18446744073709551616 + bl) := by
        unfold aQ bn; split <;> omega
      have u1 : U64 (aQ ah bh (bn al bl 0)) := by unfold aQ; exact ⟨by omega, by omega⟩
      have u2 : U64 (aQ al bl 0) := by unfold aQ; exact ⟨by omega, by omega⟩
      generalize aQ ah bh (bn al bl 0) = rh at *
      generalize aQ al bl 0 = rl at *
      cases a
      . cases b
        . exact absurd rfl hs
        . simp only [cond_false]
          exact ⟨⟨u1, u2, fun h => by cases h⟩, by rw [pO, pO, oH]; omega⟩
      . cases b
        . simp only [cond_true]
          by_cases z : rh = 0
          . rw [tZ.2 z, cond_false]
            by_cases z2 : rl = 0
            . rw [tZ.2 z2]
              exact ⟨⟨u1, u2, fun h => by cases h⟩, by rw [pO, oH, pO]; omega⟩
            . rw [tY.2 z2]
              exact ⟨⟨u1, u2, fun _ => by omega⟩, by rw [oH, oH, pO]; omega⟩
          . rw [tY.2 z, cond_true]
            exact ⟨⟨u1, u2, fun _ => by omega⟩, by rw [oH, oH, pO]; omega⟩
        . exact absurd rfl hs
def tq (z:Int) : Int := if z < 0 then -((-z) / 4294967296) else z / 4294967296
theorem aa7 {neg : Bool} {hi lo : Int} (h : Wd neg hi lo) : VW (tu neg hi lo) (tC neg hi lo) (yR neg hi lo) = tq (VW neg hi lo) := by
  obtain ⟨⟨a1, a2⟩, ⟨b1, b2⟩, c⟩ := h
  have e := (Px (neg := neg) ⟨a1, a2⟩ ⟨b1, b2⟩).2.2
  unfold tu tq
  cases neg
  . rw [pO, pO, e, if_neg (by omega)]
  . have := c rfl
    rw [oH, oH, e, if_pos (by omega), Int.neg_neg]
def alC (a0:Int) (K0 : Bool -> Int -> Int -> Prop)  : Prop := Ts 4 (((X5 a0) /\ Ts 3 (K0 (ilt a0 0) 0 (fP a0))))
def ac2 (a0:Int) : Prop := True
def bW (a0:Int) : Bool := (ilt a0 0)
def bJ (a0:Int) : Int := 0
def bU (a0:Int) : Int := (fP a0)
theorem atZ (a0:Int) {K0 : Bool -> Int -> Int -> Prop} (h : ac2 a0) (hK : K0 (bW a0) (bJ a0) (bU a0)) : alC a0 K0  := by
 unfold alC ac2 bW bJ bU at *
 simp only [aH, true_and]
 repeat' first | exact hK | refine ⟨rfl, ?_⟩ | refine ⟨trivial, ?_⟩ | refine ⟨by decide, ?_⟩ | (refine ⟨h.1, ?_⟩; replace h := h.2) | refine ⟨h, ?_⟩
theorem Ky {v : Int} (hv : Num' v) : Wd (bW v) (bJ v) (bU v) /\ VW (bW v) (bJ v) (bU v) = v := by
  have e2 : bU v = max v (-v) := size_eq hv
  have e1 : bJ v = 0 := rfl
  obtain ⟨h1, h2⟩ := hv
  rw [e1, e2]
  unfold bW
  by_cases h : v < 0
  . rw [dY.2 h]
    exact ⟨⟨⟨by omega, by omega⟩, ⟨by omega, by omega⟩, fun _ => by omega⟩, by rw [oH]; omega⟩
  . rw [fJ.2 (by omega)]
    exact ⟨⟨⟨by omega, by omega⟩, ⟨by omega, by omega⟩, fun h => by cases h⟩, by rw [pO]; omega⟩
def am2 (cm:Bool) (ge ij:Int) (K0 : Bool -> Int -> Int -> Prop)  : Prop := Ts 6 (((0 <= (32:Int)) /\ Ts 2 (((0 <= (32:Int)) /\ Ts 3 (((0 <= (32:Int)) /\ Ts 3 (K0 cm (ior .u64 (dL .u64 ge 32) (bF .u64 ij 32)) (dL .u64 ij 32))))))))
def X9 (cm:Bool) (ge ij:Int) : Prop := True
def SQ (cm:Bool) (ge ij:Int) : Bool := cm
def SS (cm:Bool) (ge ij:Int) : Int := (ior .u64 (dL .u64 ge 32) (bF .u64 ij 32))
def fQ (cm:Bool) (ge ij:Int) : Int := (dL .u64 ij 32)
theorem avH (cm:Bool) (ge ij:Int) {K0 : Bool -> Int -> Int -> Prop} (h : X9 cm ge ij) (hK : K0 (SQ cm ge ij) (SS cm ge ij) (fQ cm ge ij)) : am2 cm ge ij K0  := by
 unfold am2 X9 SQ SS fQ at *
 simp only [aH, true_and]
 repeat' first | exact hK | refine ⟨rfl, ?_⟩ | refine ⟨trivial, ?_⟩ | refine ⟨by decide, ?_⟩ | (refine ⟨h.1, ?_⟩; replace h := h.2) | refine ⟨h, ?_⟩
theorem XM {neg : Bool} {hi lo : Int} (h1 : 0 <= hi /\ hi < 4294967296) (h2 : U64 lo) : U64 (SS neg hi lo) /\ U64 (fQ neg hi lo) /\ SS neg hi lo * 18446744073709551616 + fQ neg hi lo = (hi * 18446744073709551616 + lo) * 4294967296 := by
  unfold SS fQ
  have e : (2:Int) ^ 32 = 4294967296 := by decide
  have hU : U64 hi := ⟨h1.1, by have := h1.2; omega⟩
  rw [FQ, YI, YI, ajf hU, BJ 32 (by decide) ⟨by rw [e]; have := h1.1; omega, by rw [e]; omega⟩ (by omega) (by rw [e]; have := h2.1; have := h2.2; omega), e]
  obtain ⟨a1, a2⟩ := h1
  obtain ⟨b1, b2⟩ := h2
  exact ⟨⟨by omega, by omega⟩, ⟨by omega, by omega⟩, by omega⟩
theorem apN {neg : Bool} {hi lo : Int} (h : Wd neg hi lo) (hh : hi < 4294967296) : VW (SQ neg hi lo) (SS neg hi lo) (fQ neg hi lo) = VW neg hi lo * 4294967296 := by
  obtain ⟨⟨a1, a2⟩, ⟨b1, b2⟩, c⟩ := h
  have e := (XM (neg := neg) ⟨a1, hh⟩ ⟨b1, b2⟩).2.2
  unfold SQ
  cases neg
  . rw [pO, pO, e]
  . rw [oH, oH, e]; omega
def CV (cm:Bool) (ge ij a1 jr km np mp:Int) (c x0 : Int -> Int -> Int -> Int -> Prop)  : Prop := Ts 2 (cond (ige km 0) (Ts 4 (((0 <= (aT .u64 km)) /\ Ts 4 (cond (ige km 64) (Ts 5 (((0 <= (aT .u64 (bQ .i64 km 64))) /\ Ts 3 (((0 <= (1:Int)) /\ Ts 5 (((0 <= (1:Int)) /\ Ts 2 (((0 <= (63:Int)) /\ Ts 3 (((0 <= (1:Int)) /\ Ts 7 (cond (ige (ior .u64 (dL .u64 jr 1) (jK .u64 (bF .u64 ge (aT .u64 (bQ .i64 km 64))) 1)) a1) (Ts 12 (c (bQ .u64 (ior .u64 (dL .u64 jr 1) (jK .u64 (bF .u64 ge (aT .u64 (bQ .i64 km 64))) 1)) a1) (bQ .i64 km 1) (ior .u64 (dL .u64 np 1) (bF .u64 mp 63)) (ior .u64 (dL .u64 mp 1) 1))) (Ts 3 (c (ior .u64 (dL .u64 jr 1) (jK .u64 (bF .u64 ge (aT .u64 (bQ .i64 km 64))) 1)) (bQ .i64 km 1) (ior .u64 (dL .u64 np 1) (bF .u64 mp 63)) (dL .u64 mp 1))))))))))))))) (Ts 1 (((0 <= (1:Int)) /\ Ts 5 (((0 <= (1:Int)) /\ Ts 2 (((0 <= (63:Int)) /\ Ts 3 (((0 <= (1:Int)) /\ Ts 7 (cond (ige (ior .u64 (dL .u64 jr 1) (jK .u64 (bF .u64 ij (aT .u64 km)) 1)) a1) (Ts 12 (c (bQ .u64 (ior .u64 (dL .u64 jr 1) (jK .u64 (bF .u64 ij (aT .u64 km)) 1)) a1) (bQ .i64 km 1) (ior .u64 (dL .u64 np 1) (bF .u64 mp 63)) (ior .u64 (dL .u64 mp 1) 1))) (Ts 3 (c (ior .u64 (dL .u64 jr 1) (jK .u64 (bF .u64 ij (aT .u64 km)) 1)) (bQ .i64 km 1) (ior .u64 (dL .u64 np 1) (bF .u64 mp 63)) (dL .u64 mp 1))))))))))))))))) (x0 jr km np mp))
def su (cm:Bool) (ge ij a1:Int) : Nat -> Int -> Int -> Int -> Int -> (Int -> Int -> Int -> Int -> Prop) -> Prop
  | 0, _, _, _, _, _ => False
  | f + 1, w0, w1, w2, w3, x0 => CV cm ge ij a1 w0 w1 w2 w3 (fun u0 u1 u2 u3 => su cm ge ij a1 f u0 u1 u2 u3 x0) x0 
theorem aa8 (cm:Bool) (ge ij a1 jr km np mp:Int) {c c' : Int -> Int -> Int -> Int -> Prop} {x0 y0 : Int -> Int -> Int -> Int -> Prop} (hc : ∀ w0 w1 w2 w3, c w0 w1 w2 w3 -> c' w0 w1 w2 w3) (h0 : ∀ o0 o1 o2 o3, x0 o0 o1 o2 o3 -> y0 o0 o1 o2 o3) : CV cm ge ij a1 jr km np mp c x0  -> CV cm ge ij a1 jr km np mp c' y0  := by
  unfold CV
  repeat' first
    | exact hc _ _ _ _
    | exact h0 _ _ _ _
    | refine dU ?_
    | refine cO ?_ ?_
    | refine cZ ?_
theorem aa9 (cm:Bool) (ge ij a1:Int) {x0 y0 : Int -> Int -> Int -> Int -> Prop} (h0 : ∀ o0 o1 o2 o3, x0 o0 o1 o2 o3 -> y0 o0 o1 o2 o3) : ∀ (f:Nat) (jr:Int) (km:Int) (np:Int) (mp:Int), su cm ge ij a1 f jr km np mp x0 -> su cm ge ij a1 f jr km np mp y0
  | 0, w0, w1, w2, w3 => fun h => h
  | f + 1, w0, w1, w2, w3 => aa8 cm ge ij a1 w0 w1 w2 w3 (fun u0 u1 u2 u3 => aa9 cm ge ij a1 h0 f u0 u1 u2 u3) h0
def ac3 (cm:Bool) (ge ij a1:Int) (K0 : Bool -> Int -> Int -> Prop) (l0 : Int -> Int -> Int -> Int -> (Int -> Int -> Int -> Int -> Prop) -> Prop) : Prop := Ts 9 ((l0 0 127 0 0 (fun qe qf q6 q7 => Ts 3 (K0 cm q6 q7))))
theorem alE {hi lo : Int} (h2 : U64 lo) (k:Nat) : (hi * 18446744073709551616 + lo) / 2 ^ (k + 64) = hi / 2 ^ k := by
  rw [Nat.add_comm k 64, Int.pow_add, <- Int.ediv_ediv_of_nonneg (by decide)]
  congr 1
  obtain ⟨b1, b2⟩ := h2
  rw [show (2:Int) ^ 64 = 18446744073709551616 by decide]
  omega
theorem alF {hi lo : Int} (k:Nat) (hk : k < 64) : (hi * 18446744073709551616 + lo) / 2 ^ k % 2 = lo / 2 ^ k % 2 := by
  have e : (18446744073709551616:Int) = 2 ^ k * (2 ^ (63 - k) * 2) := by
    rw [show (2:Int) ^ (63 - k) * 2 = 2 ^ (63 - k + 1) from (Int.pow_succ ..).symm, <- Int.pow_add, show k + (63 - k + 1) = 64 by omega]
    decide
  have hp : (2:Int) ^ k ≠ 0 := Int.ne_of_gt (Int.pow_pos (by decide))
  rw [e, show hi * (2 ^ k * (2 ^ (63 - k) * 2)) + lo = lo + 2 ^ k * (hi * 2 ^ (63 - k) * 2) by rw [Int.mul_left_comm, Int.add_comm, Int.mul_assoc], Int.add_mul_ediv_left _ _ hp]
  omega
theorem YN {r b : Int} (hr : 0 <= r /\ r < 9223372036854775808) (hb : 0 <= b /\ b < 2) : ior .u64 (dL .u64 r 1) b = 2 * r + b := by
  have e : (2:Int) ^ 1 = 2 := by decide
  rw [aeN, show r * 2 % 18446744073709551616 = r * 2 ^ 1 by rw [e]; omega, BJ 1 (by decide) ⟨by rw [e]; omega, by rw [e]; omega⟩ hr.1 (by rw [e]; exact hb), e]
  omega
def ae7 (neg:Bool) (hi lo d:Int) : Prop := U64 hi /\ U64 lo /\ 1 <= d /\ d <= 9223372036854775808
def ae8 (neg:Bool) (hi lo d:Int) : Bool := neg
def uz (neg:Bool) (hi lo d:Int) : Int := (hi * 18446744073709551616 + lo) / d / 18446744073709551616
def uD (neg:Bool) (hi lo d:Int) : Int := (hi * 18446744073709551616 + lo) / d % 18446744073709551616
theorem ac4 {d r qh ql M w : Int} {C : Int -> Int -> Int -> Prop} (hd : 1 <= d /\ d <= 9223372036854775808) (g1 : 0 <= r) (g2 : r < d) (u1 : U64 qh) (u2 : U64 ql) (hq : (qh * 18446744073709551616 + ql) * d + r = M / 2) (hM : M / 2 < 170141183460469231731687303715884105728) (hw : w = 2 * r + M % 2)
    (hC : ∀ r' a b, 0 <= r' -> r' < d -> U64 a -> U64 b -> (a * 18446744073709551616 + b) * d + r' = M -> C r' a b) :
    cond (ige w d) (C (bQ .u64 w d) (ior .u64 (dL .u64 qh 1) (bF .u64 ql 63)) (ior .u64 (dL .u64 ql 1) 1)) (C w (ior .u64 (dL .u64 qh 1) (bF .u64 ql 63)) (dL .u64 ql 1)) := by
  obtain ⟨p3, p4⟩ := hd
  have hQ : qh * 18446744073709551616 + ql <= (qh * 18446744073709551616 + ql) * d := by
    have := Int.mul_le_mul_of_nonneg_left p3 (show 0 <= qh * 18446744073709551616 + ql by obtain ⟨_, _⟩ := u1; obtain ⟨_, _⟩ := u2; omega)
    rw [Int.mul_one] at this
    exact this
  have hqh : qh < 9223372036854775808 := by obtain ⟨_, _⟩ := u2; omega
  obtain ⟨a1, a2⟩ := u1
  obtain ⟨b1, b2⟩ := u2
  have e63 : 0 <= bF .u64 ql 63 /\ bF .u64 ql 63 < 2 := by rw [aeO]; omega
  rw [YN ⟨a1, hqh⟩ e63, aeO]
  have hl : ior .u64 (dL .u64 ql 1) 1 = ql * 2 % 18446744073709551616 + 1 := by
    have e : (2:Int) ^ 1 = 2 := by decide
    rw [aeN, show ql * 2 % 18446744073709551616 = ql % 9223372036854775808 * 2 ^ 1 by rw [e]; omega, BJ 1 (by decide) ⟨by rw [e]; omega, by rw [e]; omega⟩ (by omega) (by rw [e]; omega)]
  refine aC (fun hc => ?_) (fun hc => ?_)
  . rw [mD] at hc
    rw [hl, Ux]
    refine hC _ _ _ (by omega) (by omega) ⟨by omega, by omega⟩ ⟨by omega, by omega⟩ ?_
    have : ((2 * qh + ql / 9223372036854775808) * 18446744073709551616 + (ql * 2 % 18446744073709551616 + 1)) = 2 * (qh * 18446744073709551616 + ql) + 1 := by omega
    rw [this, Int.add_mul, Int.mul_assoc, Int.one_mul, show (w - d) % 18446744073709551616 = w - d by omega]
    omega
  . rw [pU] at hc
    rw [aeN]
    refine hC _ _ _ (by omega) (by omega) ⟨by omega, by omega⟩ ⟨by omega, by omega⟩ ?_
    have : ((2 * qh + ql / 9223372036854775808) * 18446744073709551616 + ql * 2 % 18446744073709551616) = 2 * (qh * 18446744073709551616 + ql) := by omega
    rw [this, Int.mul_assoc]
    omega
theorem abb {neg : Bool} {hi lo d : Int} (hp : ae7 neg hi lo d) {x0 : Int -> Int -> Int -> Int -> Prop} (h3 : ∀ r v, x0 r v (uz neg hi lo d) (uD neg hi lo d)) : ∀ (f j:Nat) (r v qh ql:Int), j <= 128 -> j < f -> v = (j:Int) - 1 -> 0 <= r -> r < d -> U64 qh -> U64 ql -> (qh * 18446744073709551616 + ql) * d + r = (hi * 18446744073709551616 + lo) / 2 ^ j -> su neg hi lo d f r v qh ql x0
  | 0, j, _, _, _, _, h1, h2, _, _, _, _, _, _ => by omega
  | f + 1, 0, r, v, qh, ql, h1, h2, hv, g1, g2, u1, u2, hq => by
    show CV neg hi lo d r v qh ql _ _
    unfold CV
    simp only [aH, true_and]
    rw [pU.2 (by omega), cond_false]
    have e : (hi * 18446744073709551616 + lo) / d = qh * 18446744073709551616 + ql := by
      rw [Int.pow_zero, Int.ediv_one] at hq
      rw [<- hq, Int.add_comm, Int.add_mul_ediv_right _ _ (by omega), Int.ediv_eq_zero_of_lt g1 g2, Int.zero_add]
    have := h3 r v
    unfold uz uD at this
    rw [e] at this
    obtain ⟨b1, b2⟩ := u2
    rw [show (qh * 18446744073709551616 + ql) / 18446744073709551616 = qh by omega, show (qh * 18446744073709551616 + ql) % 18446744073709551616 = ql by omega] at this
    exact this
  | f + 1, k + 1, r, v, qh, ql, h1, h2, hv, g1, g2, u1, u2, hq => by
    have hv : v = (k:Int) := by omega
    subst hv
    obtain ⟨p1, p2, p3, p4⟩ := hp
    have hM : (hi * 18446744073709551616 + lo) / 2 ^ k / 2 = (hi * 18446744073709551616 + lo) / 2 ^ (k + 1) := by
      rw [Int.pow_succ, <- Int.ediv_ediv_of_nonneg (Int.le_of_lt (Int.pow_pos (by decide)))]
    have hN : 0 <= (hi * 18446744073709551616 + lo) / 2 ^ k := Int.ediv_nonneg (by obtain ⟨_, _⟩ := p1; obtain ⟨_, _⟩ := p2; omega) (Int.le_of_lt (Int.pow_pos (by decide)))
    have hNle : (hi * 18446744073709551616 + lo) / 2 ^ (k + 1) < 170141183460469231731687303715884105728 := by
      rw [<- hM]
      have h5 : (hi * 18446744073709551616 + lo) / 2 ^ k <= hi * 18446744073709551616 + lo := Int.ediv_le_self _ (by obtain ⟨_, _⟩ := p1; obtain ⟨_, _⟩ := p2; omega)
      obtain ⟨_, _⟩ := p1; obtain ⟨_, _⟩ := p2
      omega
    rw [<- hM] at hq hNle
    have key : ∀ w, w = 2 * r + (hi * 18446744073709551616 + lo) / 2 ^ k % 2 -> cond (ige w d) (su neg hi lo d f (bQ .u64 w d) (bQ .i64 (k:Int) 1) (ior .u64 (dL .u64 qh 1) (bF .u64 ql 63)) (ior .u64 (dL .u64 ql 1) 1) x0) (su neg hi lo d f w (bQ .i64 (k:Int) 1) (ior .u64 (dL .u64 qh 1) (bF .u64 ql 63)) (dL .u64 ql 1) x0) := by
      intro w hw
      refine ac4 (C := fun a b c => su neg hi lo d f a (bQ .i64 (k:Int) 1) b c x0) ⟨p3, p4⟩ g1 g2 u1 u2 hq hNle hw (fun r' a b z1 z2 z3 z4 z5 => ?_)
      rw [gI (by omega) (by omega)]
      exact abb ⟨p1, p2, p3, p4⟩ h3 f k _ _ _ _ (by omega) (by omega) rfl z1 z2 z3 z4 z5
    show CV neg hi lo d r k qh ql _ _
    unfold CV
    simp only [aH, true_and]
    have hconv : ∀ x : Int, 0 <= x -> x < 200 -> aT .u64 x = x := fun x h1 h2 => by rw [Lr]; omega
    rw [mD.2 (by omega), cond_true]
    refine ⟨by rw [hconv _ (by omega) (by omega)]; omega, aC (fun hc => ?_) (fun hc => ?_)⟩
    . rw [mD] at hc
      have ei : aT .u64 (bQ .i64 (k:Int) 64) = ((k - 64:Nat):Int) := by rw [gI (by omega) (by omega), hconv _ (by omega) (by omega)]; omega
      have hbit : jK .u64 (bF .u64 hi (aT .u64 (bQ .i64 (k:Int) 64))) 1 = (hi * 18446744073709551616 + lo) / 2 ^ k % 2 := by
        rw [ei, Kt _ _ (by omega), ajd ⟨Int.ediv_nonneg p1.1 (Int.le_of_lt (Int.pow_pos (by decide))), Int.lt_of_le_of_lt (Int.ediv_le_self _ p1.1) p1.2⟩, <- alE p2 (k - 64), show k - 64 + 64 = k by omega]
      refine ⟨by rw [ei]; omega, by decide, by decide, by decide, by decide, key _ ?_⟩
      rw [hbit]
      exact YN ⟨g1, by omega⟩ ⟨by omega, by omega⟩
    . rw [pU] at hc
      have hbit : jK .u64 (bF .u64 lo (aT .u64 (k:Int))) 1 = (hi * 18446744073709551616 + lo) / 2 ^ k % 2 := by
        rw [hconv _ (by omega) (by omega), Kt _ _ (by omega), ajd ⟨Int.ediv_nonneg p2.1 (Int.le_of_lt (Int.pow_pos (by decide))), Int.lt_of_le_of_lt (Int.ediv_le_self _ p2.1) p2.2⟩, alF k (by omega)]
      refine ⟨by decide, by decide, by decide, by decide, key _ ?_⟩
      rw [hbit]
      exact YN ⟨g1, by omega⟩ ⟨by omega, by omega⟩
theorem at5 (cm:Bool) (ge ij a1:Int) {K0 : Bool -> Int -> Int -> Prop} (h : ae7 cm ge ij a1) (hK : K0 (ae8 cm ge ij a1) (uz cm ge ij a1) (uD cm ge ij a1)) : ac3 cm ge ij a1 K0 (su cm ge ij a1 fuel) := by
  unfold ac3
  simp only [aH, true_and]
  obtain ⟨p1, p2, p3, p4⟩ := h
  refine abb ⟨p1, p2, p3, p4⟩ (fun r v => hK) fuel 128 0 127 0 0 (by omega) (by rw [gW]; omega) (by omega) (by omega) (by omega) ⟨by omega, by omega⟩ ⟨by omega, by omega⟩ ?_
  obtain ⟨a1, a2⟩ := p1
  obtain ⟨b1, b2⟩ := p2
  rw [Int.ediv_eq_zero_of_lt (by omega) (by rw [show (2:Int) ^ 128 = 340282366920938463463374607431768211456 by decide]; omega)]
  omega
def alm (cm:Int) (ge:Bool) (K0 : Int -> Bool -> Prop)  : Prop := Ts 3 (((Ar cm ge) /\ Ts 11 (K0 (bM .i64 (aW cm ge)) (dP cm ge))))
def QA (cm:Int) (ge:Bool) : Prop := True
def nJ (cm:Int) (ge:Bool) : Int := (bM .i64 (aW cm ge))
def gQ (cm:Int) (ge:Bool) : Bool := (dP cm ge)
theorem atG (cm:Int) (ge:Bool) {K0 : Int -> Bool -> Prop} (h : QA cm ge) (hK : K0 (nJ cm ge) (gQ cm ge)) : alm cm ge K0  := by
 unfold alm QA nJ gQ at *
 simp only [aH, true_and]
 repeat' first | exact hK | refine ⟨rfl, ?_⟩ | refine ⟨trivial, ?_⟩ | refine ⟨by decide, ?_⟩ | (refine ⟨h.1, ?_⟩; replace h := h.2) | refine ⟨h, ?_⟩
theorem QE {v : Int} {f : Bool} (hv : Num' v) : nJ v f = -v /\ gQ v f = f := by
  unfold nJ gQ
  rw [jQ, eX hv, dX hv, rF hv.1 hv.2]
  exact ⟨rfl, rfl⟩
def QF (cm:Int) (ge:Bool) (ic:Int) (ie:Bool) : Bool := (fZ (aW cm ge) (aW ic ie))
def QG (cm:Int) (ge:Bool) (ic:Int) (ie:Bool) : Int := (iH (aW cm ge) (aW ic ie))
def QH (cm:Int) (ge:Bool) (ic:Int) (ie:Bool) : Int := (iK (aW cm ge) (aW ic ie))
def Iq (cm:Int) (ge:Bool) (ic:Int) (ie:Bool) : Bool := (tu (QF cm ge ic ie) (QG cm ge ic ie) (QH cm ge ic ie))
def Ir (cm:Int) (ge:Bool) (ic:Int) (ie:Bool) : Int := (tC (QF cm ge ic ie) (QG cm ge ic ie) (QH cm ge ic ie))
def Iu (cm:Int) (ge:Bool) (ic:Int) (ie:Bool) : Int := (yR (QF cm ge ic ie) (QG cm ge ic ie) (QH cm ge ic ie))
def YO (cm:Int) (ge:Bool) (ic:Int) (ie:Bool) : Int := (qQ (Iq cm ge ic ie) (Ir cm ge ic ie) (Iu cm ge ic ie) true)
def YP (cm:Int) (ge:Bool) (ic:Int) (ie:Bool) : Bool := (qR (Iq cm ge ic ie) (Ir cm ge ic ie) (Iu cm ge ic ie) true)
def YQ (cm:Int) (ge:Bool) (ic:Int) (ie:Bool) : Int := (qQ (Iq cm ge ic ie) (Ir cm ge ic ie) (Iu cm ge ic ie) (dP ic ie))
def YR (cm:Int) (ge:Bool) (ic:Int) (ie:Bool) : Bool := (qR (Iq cm ge ic ie) (Ir cm ge ic ie) (Iu cm ge ic ie) (dP ic ie))
def alH (cm:Int) (ge:Bool) (ic:Int) (ie:Bool) (K0 : Int -> Bool -> Prop)  : Prop := Ts 4 (((Ar cm ge) /\ Ts 6 (((Ar ic ie) /\ Ts 7 (((ac1 (aW cm ge) (aW ic ie)) /\ ((Yg (QF cm ge ic ie) (QG cm ge ic ie) (QH cm ge ic ie)) /\ Ts 2 (cond (dP cm ge) (Ts 1 (((Dc (Iq cm ge ic ie) (Ir cm ge ic ie) (Iu cm ge ic ie) true) /\ Ts 2 (K0 (YO cm ge ic ie) (YP cm ge ic ie))))) (Ts 2 (((Dc (Iq cm ge ic ie) (Ir cm ge ic ie) (Iu cm ge ic ie) (dP ic ie)) /\ Ts 2 (K0 (YQ cm ge ic ie) (YR cm ge ic ie)))))))))))))
def XO (cm:Int) (ge:Bool) (ic:Int) (ie:Bool) : Prop := True
def bG (cm:Int) (ge:Bool) (ic:Int) (ie:Bool) : Int := (cond (dP cm ge) (YO cm ge ic ie) (YQ cm ge ic ie))
def bK (cm:Int) (ge:Bool) (ic:Int) (ie:Bool) : Bool := (cond (dP cm ge) (YP cm ge ic ie) (YR cm ge ic ie))
theorem at7 (cm:Int) (ge:Bool) (ic:Int) (ie:Bool) {K0 : Int -> Bool -> Prop} (h : XO cm ge ic ie) (hK : K0 (bG cm ge ic ie) (bK cm ge ic ie)) : alH cm ge ic ie K0  := by
 unfold alH XO bG bK at *
 simp only [aH, true_and]
 repeat' first | exact hK | (refine aC (fun c => ?_) (fun c => ?_) <;> try simp only [c, cond_true, cond_false] at h hK ⊢) | refine ⟨rfl, ?_⟩ | refine ⟨trivial, ?_⟩ | refine ⟨by decide, ?_⟩ | (refine ⟨h.1, ?_⟩; replace h := h.2) | refine ⟨h, ?_⟩
theorem YS {v w : Int} {f g : Bool} (hv : Num' v) (hw : Num' w) : bG v f w g = vK (tq (v * w)) /\ bK v f w g = (f || g || vM (tq (v * w))) := by
  unfold bG bK
  simp only [QF, QG, QH, Iq, Ir, Iu, YO, YP, YQ, YR]
  simp only [jQ, eX hv, eX hw, dX hv, dX hw]
  obtain ⟨h1, h2, h3⟩ := yE hv hw
  have hd := aa7 h1
  have hd2 := Px (neg := fZ v w) h1.uh h1.ul
  rw [h2] at hd
  have hf := fun x => FV (neg := tu (fZ v w) (iH v w) (iK v w)) hd2.1 hd2.2.1 x
  simp only [hd] at hf
  cases f <;> cases g <;> simp [hf]
def MH (cm:Int) (ge:Bool) (ic:Int) (ie:Bool) : Bool := (fZ (aW cm ge) (aW ic ie))
def MI (cm:Int) (ge:Bool) (ic:Int) (ie:Bool) : Int := (iH (aW cm ge) (aW ic ie))
def MJ (cm:Int) (ge:Bool) (ic:Int) (ie:Bool) : Int := (iK (aW cm ge) (aW ic ie))
def MK (il:Int) (io:Bool) (je:Int) (jf:Bool) : Bool := (fZ (aW il io) (aW je jf))
def ML (il:Int) (io:Bool) (je:Int) (jf:Bool) : Int := (iH (aW il io) (aW je jf))
def MN (il:Int) (io:Bool) (je:Int) (jf:Bool) : Int := (iK (aW il io) (aW je jf))
def QI (cm:Int) (ge:Bool) (ic:Int) (ie:Bool) (il:Int) (io:Bool) (je:Int) (jf:Bool) : Bool := (nM (MH cm ge ic ie) (MI cm ge ic ie) (MJ cm ge ic ie) (MK il io je jf) (ML il io je jf) (MN il io je jf))
def QJ (cm:Int) (ge:Bool) (ic:Int) (ie:Bool) (il:Int) (io:Bool) (je:Int) (jf:Bool) : Int := (kJ (MH cm ge ic ie) (MI cm ge ic ie) (MJ cm ge ic ie) (MK il io je jf) (ML il io je jf) (MN il io je jf))
def QK (cm:Int) (ge:Bool) (ic:Int) (ie:Bool) (il:Int) (io:Bool) (je:Int) (jf:Bool) : Int := (yO (MH cm ge ic ie) (MI cm ge ic ie) (MJ cm ge ic ie) (MK il io je jf) (ML il io je jf) (MN il io je jf))
def CW (cm:Int) (ge:Bool) (ic:Int) (ie:Bool) (il:Int) (io:Bool) (je:Int) (jf:Bool) : Bool := (tu (QI cm ge ic ie il io je jf) (QJ cm ge ic ie il io je jf) (QK cm ge ic ie il io je jf))
def wM (cm:Int) (ge:Bool) (ic:Int) (ie:Bool) (il:Int) (io:Bool) (je:Int) (jf:Bool) : Int := (tC (QI cm ge ic ie il io je jf) (QJ cm ge ic ie il io je jf) (QK cm ge ic ie il io je jf))
def wO (cm:Int) (ge:Bool) (ic:Int) (ie:Bool) (il:Int) (io:Bool) (je:Int) (jf:Bool) : Int := (yR (QI cm ge ic ie il io je jf) (QJ cm ge ic ie il io je jf) (QK cm ge ic ie il io je jf))
def CX (cm:Int) (ge:Bool) (ic:Int) (ie:Bool) (il:Int) (io:Bool) (je:Int) (jf:Bool) : Int := (qQ (CW cm ge ic ie il io je jf) (wM cm ge ic ie il io je jf) (wO cm ge ic ie il io je jf) true)
def CY (cm:Int) (ge:Bool) (ic:Int) (ie:Bool) (il:Int) (io:Bool) (je:Int) (jf:Bool) : Bool := (qR (CW cm ge ic ie il io je jf) (wM cm ge ic ie il io je jf) (wO cm ge ic ie il io je jf) true)
def Vo (cm:Int) (ge:Bool) (ic:Int) (ie:Bool) (il:Int) (io:Bool) (je:Int) (jf:Bool) : Int := (qQ (CW cm ge ic ie il io je jf) (wM cm ge ic ie il io je jf) (wO cm ge ic ie il io je jf) (dP je jf))
def Vp (cm:Int) (ge:Bool) (ic:Int) (ie:Bool) (il:Int) (io:Bool) (je:Int) (jf:Bool) : Bool := (qR (CW cm ge ic ie il io je jf) (wM cm ge ic ie il io je jf) (wO cm ge ic ie il io je jf) (dP je jf))
def alI (cm:Int) (ge:Bool) (ic:Int) (ie:Bool) (il:Int) (io:Bool) (je:Int) (jf:Bool) (K0 : Int -> Bool -> Prop)  : Prop := Ts 6 (((Ar cm ge) /\ Ts 6 (((Ar ic ie) /\ Ts 6 (((Ar il io) /\ Ts 6 (((Ar je jf) /\ Ts 7 (((ac1 (aW cm ge) (aW ic ie)) /\ Ts 2 (((ac1 (aW il io) (aW je jf)) /\ ((VG (MH cm ge ic ie) (MI cm ge ic ie) (MJ cm ge ic ie) (MK il io je jf) (ML il io je jf) (MN il io je jf)) /\ ((Yg (QI cm ge ic ie il io je jf) (QJ cm ge ic ie il io je jf) (QK cm ge ic ie il io je jf)) /\ Ts 2 (cond (dP cm ge) (Ts 5 (((Dc (CW cm ge ic ie il io je jf) (wM cm ge ic ie il io je jf) (wO cm ge ic ie il io je jf) true) /\ Ts 2 (K0 (CX cm ge ic ie il io je jf) (CY cm ge ic ie il io je jf))))) (Ts 3 (cond (dP ic ie) (Ts 3 (((Dc (CW cm ge ic ie il io je jf) (wM cm ge ic ie il io je jf) (wO cm ge ic ie il io je jf) true) /\ Ts 2 (K0 (CX cm ge ic ie il io je jf) (CY cm ge ic ie il io je jf))))) (Ts 3 (cond (dP il io) (Ts 1 (((Dc (CW cm ge ic ie il io je jf) (wM cm ge ic ie il io je jf) (wO cm ge ic ie il io je jf) true) /\ Ts 2 (K0 (CX cm ge ic ie il io je jf) (CY cm ge ic ie il io je jf))))) (Ts 2 (((Dc (CW cm ge ic ie il io je jf) (wM cm ge ic ie il io je jf) (wO cm ge ic ie il io je jf) (dP je jf)) /\ Ts 2 (K0 (Vo cm ge ic ie il io je jf) (Vp cm ge ic ie il io je jf))))))))))))))))))))))))
def Kz (cm:Int) (ge:Bool) (ic:Int) (ie:Bool) (il:Int) (io:Bool) (je:Int) (jf:Bool) : Prop := (VG (MH cm ge ic ie) (MI cm ge ic ie) (MJ cm ge ic ie) (MK il io je jf) (ML il io je jf) (MN il io je jf))
def pX (cm:Int) (ge:Bool) (ic:Int) (ie:Bool) (il:Int) (io:Bool) (je:Int) (jf:Bool) : Int := (cond (dP cm ge) (CX cm ge ic ie il io je jf) (cond (dP ic ie) (CX cm ge ic ie il io je jf) (cond (dP il io) (CX cm ge ic ie il io je jf) (Vo cm ge ic ie il io je jf))))
def vU (cm:Int) (ge:Bool) (ic:Int) (ie:Bool) (il:Int) (io:Bool) (je:Int) (jf:Bool) : Bool := (cond (dP cm ge) (CY cm ge ic ie il io je jf) (cond (dP ic ie) (CY cm ge ic ie il io je jf) (cond (dP il io) (CY cm ge ic ie il io je jf) (Vp cm ge ic ie il io je jf))))
theorem aua (cm:Int) (ge:Bool) (ic:Int) (ie:Bool) (il:Int) (io:Bool) (je:Int) (jf:Bool) {K0 : Int -> Bool -> Prop} (h : Kz cm ge ic ie il io je jf) (hK : K0 (pX cm ge ic ie il io je jf) (vU cm ge ic ie il io je jf)) : alI cm ge ic ie il io je jf K0  := by
 unfold alI Kz pX vU at *
 simp only [aH, true_and]; try simp only [aH, true_and] at h
 repeat' first | exact hK | (refine aC (fun c => ?_) (fun c => ?_) <;> try simp only [c, cond_true, cond_false] at h hK ⊢) | refine ⟨rfl, ?_⟩ | refine ⟨trivial, ?_⟩ | refine ⟨by decide, ?_⟩ | (refine ⟨h.1, ?_⟩; replace h := h.2) | refine ⟨h, ?_⟩
theorem MO {a b c d : Int} {e f g h : Bool} (ha : Num' a) (hb : Num' b) (hc : Num' c) (hd : Num' d) :
    Kz a e b f c g d h /\ pX a e b f c g d h = vK (tq (a * b + c * d)) /\ vU a e b f c g d h = (e || f || g || h || vM (tq (a * b + c * d))) := by
  unfold pX vU Kz
  simp only [MH, MI, MJ, MK, ML, MN, QI, QJ, QK, CW, wM, wO, CX, CY, Vo, Vp]
  simp only [jQ, eX ha, eX hb, eX hc, eX hd, dX ha, dX hb, dX hc, dX hd]
  obtain ⟨h1, h2, h3⟩ := yE ha hb
  obtain ⟨g1, g2, g3⟩ := yE hc hd
  obtain ⟨p1, p2⟩ := Vm h1 g1 (by omega) (by omega)
  have hdn := aa7 p1
  have hd2 := Px (neg := nM (fZ a b) (iH a b) (iK a b) (fZ c d) (iH c d) (iK c d)) p1.uh p1.ul
  rw [p2, h2, g2] at hdn
  refine ⟨MG h1.uh h1.ul g1.uh g1.ul, ?_⟩
  have hf := fun x => FV (neg := tu (nM (fZ a b) (iH a b) (iK a b) (fZ c d) (iH c d) (iK c d)) (kJ (fZ a b) (iH a b) (iK a b) (fZ c d) (iH c d) (iK c d)) (yO (fZ a b) (iH a b) (iK a b) (fZ c d) (iH c d) (iK c d))) hd2.1 hd2.2.1 x
  simp only [hdn] at hf
  cases e <;> cases f <;> cases g <;> cases h <;> simp [hf]
def al8 (cm:Int) (ge:Bool) (K0 : Int -> Bool -> Prop)  : Prop := Ts 3 (((Ar cm ge) /\ Ts 7 (cond (ilt (aW cm ge) 0) (Ts 8 (K0 (bM .i64 (aW cm ge)) (dP cm ge))) (Ts 5 (K0 (aW cm ge) (dP cm ge))))))
def KF (cm:Int) (ge:Bool) : Prop := True
def F8 (cm:Int) (ge:Bool) : Int := (cond (ilt (aW cm ge) 0) (bM .i64 (aW cm ge)) (aW cm ge))
def F9 (cm:Int) (ge:Bool) : Bool := (dP cm ge)
theorem auJ (cm:Int) (ge:Bool) {K0 : Int -> Bool -> Prop} (h : KF cm ge) (hK : K0 (F8 cm ge) (F9 cm ge)) : al8 cm ge K0  := by
 unfold al8 KF F8 F9 at *
 simp only [aH, true_and]
 repeat' first | exact hK | (refine aC (fun c => ?_) (fun c => ?_) <;> try simp only [c, cond_true, cond_false] at h hK ⊢) | refine ⟨rfl, ?_⟩ | refine ⟨trivial, ?_⟩ | refine ⟨by decide, ?_⟩ | (refine ⟨h.1, ?_⟩; replace h := h.2) | refine ⟨h, ?_⟩
theorem afa {v : Int} {f : Bool} (hv : Num' v) : F8 v f = max v (-v) /\ F9 v f = f := by
  unfold F8 F9
  rw [jQ, eX hv, dX hv, rF hv.1 hv.2]
  refine ⟨?_, rfl⟩
  obtain ⟨h1, h2⟩ := hv
  by_cases h : v < 0
  . rw [dY.2 h, cond_true]; omega
  . rw [fJ.2 (by omega), cond_false]; omega
def alK (a0:Int) (K0 : Int -> Bool -> Prop)  : Prop := Ts 2 (((ac2 a0) /\ ((X9 (bW a0) (bJ a0) (bU a0)) /\ ((Dc (SQ (bW a0) (bJ a0) (bU a0)) (SS (bW a0) (bJ a0) (bU a0)) (fQ (bW a0) (bJ a0) (bU a0)) false) /\ Ts 2 (K0 (qQ (SQ (bW a0) (bJ a0) (bU a0)) (SS (bW a0) (bJ a0) (bU a0)) (fQ (bW a0) (bJ a0) (bU a0)) false) (qR (SQ (bW a0) (bJ a0) (bU a0)) (SS (bW a0) (bJ a0) (bU a0)) (fQ (bW a0) (bJ a0) (bU a0)) false))))))
def ac5 (a0:Int) : Prop := True
def eG (a0:Int) : Int := (qQ (SQ (bW a0) (bJ a0) (bU a0)) (SS (bW a0) (bJ a0) (bU a0)) (fQ (bW a0) (bJ a0) (bU a0)) false)
def eH (a0:Int) : Bool := (qR (SQ (bW a0) (bJ a0) (bU a0)) (SS (bW a0) (bJ a0) (bU a0)) (fQ (bW a0) (bJ a0) (bU a0)) false)
theorem auc (a0:Int) {K0 : Int -> Bool -> Prop} (h : ac5 a0) (hK : K0 (eG a0) (eH a0)) : alK a0 K0  := by
 unfold alK ac5 eG eH at *
 simp only [aH, true_and]
 repeat' first | exact hK | refine ⟨rfl, ?_⟩ | refine ⟨trivial, ?_⟩ | refine ⟨by decide, ?_⟩ | (refine ⟨h.1, ?_⟩; replace h := h.2) | refine ⟨h, ?_⟩
theorem YT {v : Int} (hv : Num' v) : eG v = vK (v * 4294967296) /\ eH v = vM (v * 4294967296) := by
  unfold eG eH
  obtain ⟨h1, h2⟩ := Ky hv
  have hu := apN h1 (by unfold bJ; omega)
  have hu2 := XM (neg := bW v) (hi := bJ v) ⟨h1.uh.1, by unfold bJ; omega⟩ h1.ul
  have hf := FV (neg := SQ (bW v) (bJ v) (bU v)) hu2.1 hu2.2.1 false
  rw [hu, h2] at hf
  rw [hf.1, hf.2, Bool.false_or]
  exact ⟨rfl, rfl⟩
def amn (a0:Int) (K0 : Int -> Bool -> Prop)  : Prop := Ts 3 (cond (igt a0 0) (Ts 3 (K0 9223372036854775807 true)) (Ts 2 (cond (ilt a0 0) (Ts 3 (K0 (-9223372036854775807) true)) (Ts 3 (K0 0 true)))))
def adt (a0:Int) : Prop := True
def Dl (a0:Int) : Int := (cond (igt a0 0) 9223372036854775807 (cond (ilt a0 0) (-9223372036854775807) 0))
def yX (a0:Int) : Bool := true
theorem au1 (a0:Int) {K0 : Int -> Bool -> Prop} (h : adt a0) (hK : K0 (Dl a0) (yX a0)) : amn a0 K0  := by
 unfold amn adt Dl yX at *
 simp only [aH, true_and]
 repeat' first | exact hK | (refine aC (fun c => ?_) (fun c => ?_) <;> try simp only [c, cond_true, cond_false] at h hK ⊢)
def alM (a0 a1:Int) (K0 : Int -> Bool -> Prop)  : Prop := Ts 3 (cond (ieq a1 0) (Ts 1 (((adt a0) /\ Ts 2 (K0 (Dl a0) (yX a0))))) (Ts 1 (((ac2 a0) /\ ((X9 (bW a0) (bJ a0) (bU a0)) /\ Ts 1 (((X5 a1) /\ ((ae7 (SQ (bW a0) (bJ a0) (bU a0)) (SS (bW a0) (bJ a0) (bU a0)) (fQ (bW a0) (bJ a0) (bU a0)) (fP a1)) /\ Ts 10 (((Dc (!(jL (ilt a0 0) (ilt a1 0))) (uz (SQ (bW a0) (bJ a0) (bU a0)) (SS (bW a0) (bJ a0) (bU a0)) (fQ (bW a0) (bJ a0) (bU a0)) (fP a1)) (uD (SQ (bW a0) (bJ a0) (bU a0)) (SS (bW a0) (bJ a0) (bU a0)) (fQ (bW a0) (bJ a0) (bU a0)) (fP a1)) false) /\ Ts 2 (K0 (qQ (!(jL (ilt a0 0) (ilt a1 0))) (uz (SQ (bW a0) (bJ a0) (bU a0)) (SS (bW a0) (bJ a0) (bU a0)) (fQ (bW a0) (bJ a0) (bU a0)) (fP a1)) (uD (SQ (bW a0) (bJ a0) (bU a0)) (SS (bW a0) (bJ a0) (bU a0)) (fQ (bW a0) (bJ a0) (bU a0)) (fP a1)) false) (qR (!(jL (ilt a0 0) (ilt a1 0))) (uz (SQ (bW a0) (bJ a0) (bU a0)) (SS (bW a0) (bJ a0) (bU a0)) (fQ (bW a0) (bJ a0) (bU a0)) (fP a1)) (uD (SQ (bW a0) (bJ a0) (bU a0)) (SS (bW a0) (bJ a0) (bU a0)) (fQ (bW a0) (bJ a0) (bU a0)) (fP a1)) false))))))))))))
def Hl (a0 a1:Int) : Prop := (cond (ieq a1 0) True (ae7 (SQ (bW a0) (bJ a0) (bU a0)) (SS (bW a0) (bJ a0) (bU a0)) (fQ (bW a0) (bJ a0) (bU a0)) (fP a1)))
def jG (a0 a1:Int) : Int := (cond (ieq a1 0) (Dl a0) (qQ (!(jL (ilt a0 0) (ilt a1 0))) (uz (SQ (bW a0) (bJ a0) (bU a0)) (SS (bW a0) (bJ a0) (bU a0)) (fQ (bW a0) (bJ a0) (bU a0)) (fP a1)) (uD (SQ (bW a0) (bJ a0) (bU a0)) (SS (bW a0) (bJ a0) (bU a0)) (fQ (bW a0) (bJ a0) (bU a0)) (fP a1)) false))
def jW (a0 a1:Int) : Bool := (cond (ieq a1 0) (yX a0) (qR (!(jL (ilt a0 0) (ilt a1 0))) (uz (SQ (bW a0) (bJ a0) (bU a0)) (SS (bW a0) (bJ a0) (bU a0)) (fQ (bW a0) (bJ a0) (bU a0)) (fP a1)) (uD (SQ (bW a0) (bJ a0) (bU a0)) (SS (bW a0) (bJ a0) (bU a0)) (fQ (bW a0) (bJ a0) (bU a0)) (fP a1)) false))
theorem aue (a0 a1:Int) {K0 : Int -> Bool -> Prop} (h : Hl a0 a1) (hK : K0 (jG a0 a1) (jW a0 a1)) : alM a0 a1 K0  := by
 unfold alM Hl jG jW at *
 simp only [aH, true_and]; try simp only [aH, true_and] at h
 repeat' first | exact hK | (refine aC (fun c => ?_) (fun c => ?_) <;> try simp only [c, cond_true, cond_false] at h hK ⊢) | refine ⟨rfl, ?_⟩ | refine ⟨trivial, ?_⟩ | refine ⟨by decide, ?_⟩ | (refine ⟨h.1, ?_⟩; replace h := h.2) | refine ⟨h, ?_⟩
def dq (a b:Int) : Int := sg (!(jL (ilt a 0) (ilt b 0))) (max a (-a) * 4294967296 / max b (-b))
theorem QL {a b : Int} (ha : Num' a) (hb : Num' b) (h0 : b ≠ 0) : Hl a b /\ jG a b = vK (dq a b) /\ jW a b = vM (dq a b) := by
  unfold Hl jG jW
  rw [vI.2 h0]
  simp only [cond_false]
  obtain ⟨h1, h2⟩ := Ky ha
  have e1 : bJ a = 0 := rfl
  have e2 : bU a = max a (-a) := size_eq ha
  obtain ⟨u1, u2, u3⟩ := XM (neg := bW a) (hi := bJ a) (lo := bU a) ⟨by rw [e1]; omega, by rw [e1]; omega⟩ h1.ul
  have hs := size_eq hb
  have hd : 1 <= fP b /\ fP b <= 9223372036854775808 := by rw [hs]; obtain ⟨_, _⟩ := hb; omega
  rw [e1, e2] at u3
  have hN : (0:Int) <= (SS (bW a) (bJ a) (bU a) * 18446744073709551616 + fQ (bW a) (bJ a) (bU a)) := by obtain ⟨_, _⟩ := u1; obtain ⟨_, _⟩ := u2; omega
  have hQ := Int.ediv_le_self (fP b) hN
  have hQ0 := Int.ediv_nonneg hN (show 0 <= fP b by omega)
  have w1 : U64 (uz (SQ (bW a) (bJ a) (bU a)) (SS (bW a) (bJ a) (bU a)) (fQ (bW a) (bJ a) (bU a)) (fP b)) := by
    unfold uz
    obtain ⟨_, _⟩ := u1; obtain ⟨_, _⟩ := u2
    exact ⟨by omega, by omega⟩
  have w2 : U64 (uD (SQ (bW a) (bJ a) (bU a)) (SS (bW a) (bJ a) (bU a)) (fQ (bW a) (bJ a) (bU a)) (fP b)) := by
    unfold uD
    exact ⟨by omega, by omega⟩
  obtain ⟨f1, f2⟩ := FV (neg := !(jL (ilt a 0) (ilt b 0))) w1 w2 false
  have hv : ∀ neg, VW neg (uz (SQ (bW a) (bJ a) (bU a)) (SS (bW a) (bJ a) (bU a)) (fQ (bW a) (bJ a) (bU a)) (fP b)) (uD (SQ (bW a) (bJ a) (bU a)) (SS (bW a) (bJ a) (bU a)) (fQ (bW a) (bJ a) (bU a)) (fP b)) = sg neg (max a (-a) * 4294967296 / max b (-b)) := fun neg => by
    unfold VW uz uD
    congr 1
    rw [<- hs, show max a (-a) * 4294967296 = (SS (bW a) (bJ a) (bU a) * 18446744073709551616 + fQ (bW a) (bJ a) (bU a)) by rw [e1, e2]; omega]
    generalize (SS (bW a) (bJ a) (bU a) * 18446744073709551616 + fQ (bW a) (bJ a) (bU a)) / fP b = q
    omega
  rw [hv] at f1 f2
  refine ⟨⟨u1, u2, hd.1, hd.2⟩, f1, ?_⟩
  rw [f2, Bool.false_or]
  rfl
def alP (cm:Int) (ge:Bool) (ic:Int) (ie:Bool) (K0 : Int -> Bool -> Prop)  : Prop := Ts 4 (((Ar cm ge) /\ Ts 6 (((Ar ic ie) /\ Ts 7 (cond (ieq (aW ic ie) 0) (Ts 1 (((adt (aW cm ge)) /\ Ts 2 (K0 (Dl (aW cm ge)) (yX (aW cm ge)))))) (Ts 2 (((Hl (aW cm ge) (aW ic ie)) /\ Ts 7 (cond (jW (aW cm ge) (aW ic ie)) (Ts 6 (K0 (jG (aW cm ge) (aW ic ie)) true)) (Ts 3 (cond (dP cm ge) (Ts 4 (K0 (jG (aW cm ge) (aW ic ie)) true)) (Ts 5 (K0 (jG (aW cm ge) (aW ic ie)) (dP ic ie))))))))))))))
def MQ (cm:Int) (ge:Bool) (ic:Int) (ie:Bool) : Prop := (cond (ieq (aW ic ie) 0) True (Hl (aW cm ge) (aW ic ie)))
def oI (cm:Int) (ge:Bool) (ic:Int) (ie:Bool) : Int := (cond (ieq (aW ic ie) 0) (Dl (aW cm ge)) (jG (aW cm ge) (aW ic ie)))
def uF (cm:Int) (ge:Bool) (ic:Int) (ie:Bool) : Bool := (cond (ieq (aW ic ie) 0) (yX (aW cm ge)) (cond (jW (aW cm ge) (aW ic ie)) true (cond (dP cm ge) true (dP ic ie))))
theorem auk (cm:Int) (ge:Bool) (ic:Int) (ie:Bool) {K0 : Int -> Bool -> Prop} (h : MQ cm ge ic ie) (hK : K0 (oI cm ge ic ie) (uF cm ge ic ie)) : alP cm ge ic ie K0  := by
 unfold alP MQ oI uF at *
 simp only [aH, true_and]; try simp only [aH, true_and] at h
 repeat' first | exact hK | (refine aC (fun c => ?_) (fun c => ?_) <;> try simp only [c, cond_true, cond_false] at h hK ⊢) | refine ⟨rfl, ?_⟩ | refine ⟨trivial, ?_⟩ | refine ⟨by decide, ?_⟩ | (refine ⟨h.1, ?_⟩; replace h := h.2) | refine ⟨h, ?_⟩
theorem afc {v w : Int} {f g : Bool} (hv : Num' v) (hw : Num' w) (h0 : w ≠ 0) : MQ v f w g /\ oI v f w g = vK (dq v w) /\ uF v f w g = (vM (dq v w) || f || g) := by
  obtain ⟨h1, h2, h3⟩ := QL hv hw h0
  unfold MQ oI uF
  simp only [jQ, eX hv, eX hw, dX hv, dX hw, vI.2 h0, cond_false, h2, h3]
  refine ⟨h1, trivial, ?_⟩
  cases vM (dq v w) <;> cases f <;> cases g <;> rfl
def Iy (ig:Nat) (cm:Nat -> Int) (ge : Nat -> Bool) (kc:Int) (c x0 : Int -> Prop) (x1 : Bool -> Int -> Prop)  : Prop := Ts 4 (cond (ilt kc (ig:Int)) (Ts 2 (((0 <= kc /\ kc < (ig:Int)) /\ Ts 1 (((Ar (cm (Int.toNat kc)) (ge (Int.toNat kc))) /\ Ts 6 (cond (dP (cm (Int.toNat kc)) (ge (Int.toNat kc))) (Ts 1 (x1 true kc)) (Ts 3 (c (au .i64 kc 1))))))))) (x0 kc))
def yF (ig:Nat) (cm:Nat -> Int) (ge : Nat -> Bool) : Nat -> Int -> (Int -> Prop) -> (Bool -> Int -> Prop) -> Prop
  | 0, _, _, _ => False
  | f + 1, w0, x0, x1 => Iy ig cm ge w0 (fun u0 => yF ig cm ge f u0 x0 x1) x0 x1 
theorem abd (ig:Nat) (cm:Nat -> Int) (ge : Nat -> Bool) (kc:Int) {c c' : Int -> Prop} {x0 y0 : Int -> Prop} {x1 y1 : Bool -> Int -> Prop} (hc : ∀ w0, c w0 -> c' w0) (h0 : ∀ o0, x0 o0 -> y0 o0) (h1 : ∀ o0 o1, x1 o0 o1 -> y1 o0 o1) : Iy ig cm ge kc c x0 x1  -> Iy ig cm ge kc c' y0 y1  := by
  unfold Iy
  repeat' first
    | exact hc _
    | exact h0 _
    | exact h1 _ _
    | refine dU ?_
    | refine cO ?_ ?_
    | refine cZ ?_
theorem abe (ig:Nat) (cm:Nat -> Int) (ge : Nat -> Bool) {x0 y0 : Int -> Prop} {x1 y1 : Bool -> Int -> Prop} (h0 : ∀ o0, x0 o0 -> y0 o0) (h1 : ∀ o0 o1, x1 o0 o1 -> y1 o0 o1) : ∀ (f:Nat) (kc:Int), yF ig cm ge f kc x0 x1 -> yF ig cm ge f kc y0 y1
  | 0, w0 => fun h => h
  | f + 1, w0 => abd ig cm ge w0 (fun u0 => abe ig cm ge h0 h1 f u0) h0 h1
def ac6 (ig:Nat) (cm:Nat -> Int) (ge : Nat -> Bool) (K0 : Bool -> Prop) (l0 : Int -> (Int -> Prop) -> (Bool -> Int -> Prop) -> Prop) : Prop := Ts 2 ((l0 0 (fun om => Ts 1 (K0 false)) (fun l6 om => K0 l6)))
def vN (p : Nat -> Bool) : Nat -> Bool
  | 0 => false
  | n + 1 => vN p n || p n
theorem QN {p : Nat -> Bool} : ∀ {n : Nat}, vN p n = true ↔ ∃ k, k < n /\ p k = true
  | 0 => ⟨fun h => (by cases h), fun ⟨k, h, _⟩ => (by omega)⟩
  | n + 1 => by
    unfold vN
    rw [Bool.or_eq_true, QN]
    constructor
    . rintro (⟨k, h1, h2⟩ | h)
      . exact ⟨k, by omega, h2⟩
      . exact ⟨n, by omega, h⟩
    . rintro ⟨k, h1, h2⟩
      by_cases hk : k = n
      . subst hk; exact .inr h2
      . exact .inl ⟨k, by omega, h2⟩
def ac7 (n:Nat) (x:Nat -> Int) (y : Nat -> Bool) : Prop := n <= 1000000
def kR (n:Nat) (x:Nat -> Int) (y : Nat -> Bool) : Bool := vN (fun k => dP (x k) (y k)) n
theorem abf {n : Nat} {x : Nat -> Int} {y : Nat -> Bool} (hp : n <= 1000000) {x0 : Int -> Prop} {x1 : Bool -> Int -> Prop} : ∀ (f i:Nat), i <= n -> n < f + i -> ((∀ k, i <= k -> k < n -> dP (x k) (y k) = false) -> ∀ v, x0 v) -> (∀ k, k < n -> dP (x k) (y k) = true -> ∀ v, x1 true v) -> yF n x y f i x0 x1
  | 0, i, h1, h2, _, _ => by omega
  | f + 1, i, h1, h2, h3, h4 => by
    show Iy n x y i _ _ _
    unfold Iy
    simp only [aH, true_and, Int.toNat_natCast, Nat.zero_add]
    refine aC (fun hc => ?_) (fun hc => ?_)
    . rw [dY] at hc
      have hi : i < n := by omega
      refine ⟨⟨by omega, hc⟩, trivial, ?_⟩
      refine aC (fun hc => ?_) (fun hc => ?_)
      . exact h4 i hi hc _
      . rw [fF (by omega) (by omega)]
        refine abf hp f (i + 1) (by omega) (by omega) (fun h => h3 fun k hk1 hk2 => ?_) h4
        by_cases hk : k = i
        . subst hk; exact hc
        . exact h k (by omega) hk2
    . rw [fJ] at hc
      exact h3 (fun k hk1 hk2 => by omega) _
theorem aug (ig:Nat) (cm:Nat -> Int) (ge : Nat -> Bool) {K0 : Bool -> Prop} (h : ac7 ig cm ge) (hK : K0 (kR ig cm ge)) : ac6 ig cm ge K0 (yF ig cm ge fuel) := by
  unfold ac6
  simp only [aH, true_and]
  unfold ac7 at h
  refine abf h fuel 0 (Nat.zero_le _) (by rw [gW]; omega) (fun h v => ?_) (fun k hk hs v => ?_)
  . have : kR ig cm ge = false := by
      cases hf : kR ig cm ge with
      | false => rfl
      | true => obtain ⟨k, h1, h2⟩ := QN.1 hf; rw [h k (Nat.zero_le _) h1] at h2; cases h2
    rw [this] at hK
    exact hK
  . have : kR ig cm ge = true := QN.2 ⟨k, hk, hs⟩
    rw [this] at hK
    exact hK
def Iz (ig:Nat) (cm:Nat -> Int) (ge : Nat -> Bool) (ir:Int) (k8:Bool) (k9 lc:Int) (c x0 : Int -> Bool -> Int -> Int -> Prop)  : Prop := Ts 4 (cond (ilt ir (ig:Int)) (Ts 2 (((0 <= ir /\ ir < (ig:Int)) /\ Ts 1 (((Ar (cm (Int.toNat ir)) (ge (Int.toNat ir))) /\ Ts 7 (((ac2 (aW (cm (Int.toNat ir)) (ge (Int.toNat ir)))) /\ ((VG k8 k9 lc (bW (aW (cm (Int.toNat ir)) (ge (Int.toNat ir)))) (bJ (aW (cm (Int.toNat ir)) (ge (Int.toNat ir)))) (bU (aW (cm (Int.toNat ir)) (ge (Int.toNat ir))))) /\ Ts 1 ((true = true /\ Ts 3 (c (au .i64 ir 1) (nM k8 k9 lc (bW (aW (cm (Int.toNat ir)) (ge (Int.toNat ir)))) (bJ (aW (cm (Int.toNat ir)) (ge (Int.toNat ir)))) (bU (aW (cm (Int.toNat ir)) (ge (Int.toNat ir))))) (kJ k8 k9 lc (bW (aW (cm (Int.toNat ir)) (ge (Int.toNat ir)))) (bJ (aW (cm (Int.toNat ir)) (ge (Int.toNat ir)))) (bU (aW (cm (Int.toNat ir)) (ge (Int.toNat ir))))) (yO k8 k9 lc (bW (aW (cm (Int.toNat ir)) (ge (Int.toNat ir)))) (bJ (aW (cm (Int.toNat ir)) (ge (Int.toNat ir)))) (bU (aW (cm (Int.toNat ir)) (ge (Int.toNat ir)))))))))))))))) (x0 ir k8 k9 lc))
def yG (ig:Nat) (cm:Nat -> Int) (ge : Nat -> Bool) : Nat -> Int -> Bool -> Int -> Int -> (Int -> Bool -> Int -> Int -> Prop) -> Prop
  | 0, _, _, _, _, _ => False
  | f + 1, w0, w1, w2, w3, x0 => Iz ig cm ge w0 w1 w2 w3 (fun u0 u1 u2 u3 => yG ig cm ge f u0 u1 u2 u3 x0) x0 
theorem abg (ig:Nat) (cm:Nat -> Int) (ge : Nat -> Bool) (ir:Int) (k8:Bool) (k9 lc:Int) {c c' : Int -> Bool -> Int -> Int -> Prop} {x0 y0 : Int -> Bool -> Int -> Int -> Prop} (hc : ∀ w0 w1 w2 w3, c w0 w1 w2 w3 -> c' w0 w1 w2 w3) (h0 : ∀ o0 o1 o2 o3, x0 o0 o1 o2 o3 -> y0 o0 o1 o2 o3) : Iz ig cm ge ir k8 k9 lc c x0  -> Iz ig cm ge ir k8 k9 lc c' y0  := by
  unfold Iz
  repeat' first
    | exact hc _ _ _ _
    | exact h0 _ _ _ _
    | refine dU ?_
    | refine cO ?_ ?_
    | refine cZ ?_
theorem abh (ig:Nat) (cm:Nat -> Int) (ge : Nat -> Bool) {x0 y0 : Int -> Bool -> Int -> Int -> Prop} (h0 : ∀ o0 o1 o2 o3, x0 o0 o1 o2 o3 -> y0 o0 o1 o2 o3) : ∀ (f:Nat) (ir:Int) (k8:Bool) (k9:Int) (lc:Int), yG ig cm ge f ir k8 k9 lc x0 -> yG ig cm ge f ir k8 k9 lc y0
  | 0, w0, w1, w2, w3 => fun h => h
  | f + 1, w0, w1, w2, w3 => abg ig cm ge w0 w1 w2 w3 (fun u0 u1 u2 u3 => abh ig cm ge h0 f u0 u1 u2 u3) h0
def ac8 (ig:Nat) (cm:Nat -> Int) (ge : Nat -> Bool) (K0 : Int -> Bool -> Prop) (l0 : Int -> Bool -> Int -> Int -> (Int -> Bool -> Int -> Int -> Prop) -> Prop) : Prop := Ts 5 ((l0 0 false 0 0 (fun oe oo oq ot => Ts 2 (((ac7 ig cm ge) /\ ((Dc oo oq ot (kR ig cm ge)) /\ Ts 1 ((true = true /\ Ts 1 (K0 (qQ oo oq ot (kR ig cm ge)) (qR oo oq ot (kR ig cm ge)))))))))))
def yH (x:Nat -> Int) : Nat -> Int
  | 0 => 0
  | n + 1 => yH x n + whole (x n)
theorem Vq {x : Nat -> Int} {m : Nat} (hx : ∀ k, k < m -> TN (x k)) : ∀ {n : Nat}, n <= m -> -(n * 9223372036854775807) <= yH x n /\ yH x n <= n * 9223372036854775807
  | 0, _ => by unfold yH; omega
  | n + 1, h => by
    have h1 := Vq hx (n := n) (by omega)
    obtain ⟨h2, h3⟩ := BN (hx n (by omega))
    unfold yH
    push_cast
    omega
def O4 (n:Nat) (x:Nat -> Int) (y : Nat -> Bool) : Prop := n <= 1000000 /\ ∀ k, k < n -> TN (x k)
def rH (n:Nat) (x:Nat -> Int) (y : Nat -> Bool) : Int := vK (yH x n)
def pY (n:Nat) (x:Nat -> Int) (y : Nat -> Bool) : Bool := kR n x y || vM (yH x n)
theorem Wd.small {neg : Bool} {hi lo : Int} (h : Wd neg hi lo) {m : Int} (hm : 0 <= m) (hv : -(m * 18446744073709551616) <= VW neg hi lo /\ VW neg hi lo <= m * 18446744073709551616) : hi <= m := by
  obtain ⟨⟨a1, a2⟩, ⟨b1, b2⟩, c⟩ := h
  cases neg
  . rw [pO] at hv; omega
  . rw [oH] at hv; omega
theorem abj {n : Nat} {x : Nat -> Int} {y : Nat -> Bool} (hp : O4 n x y) {x0 : Int -> Bool -> Int -> Int -> Prop} (h3 : ∀ v neg hi lo, Wd neg hi lo -> VW neg hi lo = yH x n -> x0 v neg hi lo) : ∀ (f i:Nat) (neg:Bool) (hi lo:Int), i <= n -> n < f + i -> Wd neg hi lo -> VW neg hi lo = yH x i -> yG n x y f i neg hi lo x0
  | 0, i, _, _, _, h1, h2, _, _ => by omega
  | f + 1, i, neg, hi, lo, h1, h2, hw, hv => by
    show Iz n x y i _ _ _ _ _
    unfold Iz
    simp only [aH, true_and, Int.toNat_natCast, Nat.zero_add]
    refine aC (fun hc => ?_) (fun hc => ?_)
    . rw [dY] at hc
      have hin : i < n := by omega
      have hn := hp.1
      have hb := Vq hp.2 (n := i) (by omega)
      have hs : hi <= 1000000 := hw.small (by omega) (by rw [hv]; omega)
      obtain ⟨e1, e2⟩ := Ky (BN (hp.2 i hin))
      simp only [jQ]
      have es : bJ (whole (x i)) = 0 := rfl
      obtain ⟨p1, p2⟩ := Vm hw e1 (by omega) (by rw [es]; omega)
      refine ⟨⟨by omega, hc⟩, trivial, trivial, MG hw.uh hw.ul e1.uh e1.ul, ?_⟩
      rw [fF (by omega) (by omega)]
      exact abj hp h3 f (i + 1) _ _ _ (by omega) (by omega) p1 (by rw [p2, hv, e2]; rfl)
    . rw [fJ] at hc
      have : i = n := by omega
      subst this
      exact h3 _ _ _ _ hw hv
theorem auh (ig:Nat) (cm:Nat -> Int) (ge : Nat -> Bool) {K0 : Int -> Bool -> Prop} (h : O4 ig cm ge) (hK : K0 (rH ig cm ge) (pY ig cm ge)) : ac8 ig cm ge K0 (yG ig cm ge fuel) := by
  unfold ac8
  simp only [aH, true_and]
  refine abj h (fun v neg hi lo hw hv => ?_) fuel 0 false 0 0 (Nat.zero_le _) (by rw [gW]; have := h.1; omega) ⟨⟨by omega, by omega⟩, ⟨by omega, by omega⟩, fun h => by cases h⟩ rfl
  obtain ⟨g1, g2⟩ := FV (neg := neg) hw.uh hw.ul (kR ig cm ge)
  rw [hv] at g1 g2
  refine ⟨h.1, trivial, ?_⟩
  rw [g1, g2]
  exact hK
def Gl (ig:Nat) (cm:Nat -> Int) (ge : Nat -> Bool) (kc j5:Int) (c x0 : Int -> Int -> Prop)  : Prop := Ts 4 (cond (ilt j5 (ig:Int)) (Ts 2 (((0 <= j5 /\ j5 < (ig:Int)) /\ Ts 1 (((Ar (cm (Int.toNat j5)) (ge (Int.toNat j5))) /\ Ts 8 (cond (igt (aW (cm (Int.toNat j5)) (ge (Int.toNat j5))) kc) (Ts 5 (c (aW (cm (Int.toNat j5)) (ge (Int.toNat j5))) (au .i64 j5 1))) (Ts 3 (c kc (au .i64 j5 1))))))))) (x0 kc j5))
def xI (ig:Nat) (cm:Nat -> Int) (ge : Nat -> Bool) : Nat -> Int -> Int -> (Int -> Int -> Prop) -> Prop
  | 0, _, _, _ => False
  | f + 1, w0, w1, x0 => Gl ig cm ge w0 w1 (fun u0 u1 => xI ig cm ge f u0 u1 x0) x0 
theorem abp (ig:Nat) (cm:Nat -> Int) (ge : Nat -> Bool) (kc j5:Int) {c c' : Int -> Int -> Prop} {x0 y0 : Int -> Int -> Prop} (hc : ∀ w0 w1, c w0 w1 -> c' w0 w1) (h0 : ∀ o0 o1, x0 o0 o1 -> y0 o0 o1) : Gl ig cm ge kc j5 c x0  -> Gl ig cm ge kc j5 c' y0  := by
  unfold Gl
  repeat' first
    | exact hc _ _
    | exact h0 _ _
    | refine dU ?_
    | refine cO ?_ ?_
    | refine cZ ?_
theorem abv (ig:Nat) (cm:Nat -> Int) (ge : Nat -> Bool) {x0 y0 : Int -> Int -> Prop} (h0 : ∀ o0 o1, x0 o0 o1 -> y0 o0 o1) : ∀ (f:Nat) (kc:Int) (j5:Int), xI ig cm ge f kc j5 x0 -> xI ig cm ge f kc j5 y0
  | 0, w0, w1 => fun h => h
  | f + 1, w0, w1 => abp ig cm ge w0 w1 (fun u0 u1 => abv ig cm ge h0 f u0 u1) h0
def al3 (ig:Nat) (cm:Nat -> Int) (ge : Nat -> Bool) (K0 : Int -> Bool -> Prop) (l0 : Int -> Int -> (Int -> Int -> Prop) -> Prop) : Prop := Ts 4 (cond (ieq (ig:Int) 0) (Ts 3 (K0 0 false)) (Ts 1 (((0 <= (0:Int) /\ (0:Int) < (ig:Int)) /\ Ts 1 (((Ar (cm 0) (ge 0)) /\ Ts 6 ((l0 (aW (cm 0) (ge 0)) 1 (fun om qg => Ts 2 (((ac7 ig cm ge) /\ Ts 3 (K0 om (kR ig cm ge)))))))))))))
def Fj (n:Nat) (x:Nat -> Int) (y : Nat -> Bool) : Prop := n <= 1000000
def vZ (n:Nat) (x:Nat -> Int) (y : Nat -> Bool) : Int := BL (fun k => whole (x k)) n
def wo (n:Nat) (x:Nat -> Int) (y : Nat -> Bool) : Bool := kR n x y
theorem abw {n : Nat} {x : Nat -> Int} {y : Nat -> Bool} (hp : Fj n x y) {x0 : Int -> Int -> Prop} (h3 : ∀ v, x0 (BL (fun k => whole (x k)) n) v) : ∀ (f i:Nat), 0 < i -> i <= n -> n < f + i -> xI n x y f (BL (fun k => whole (x k)) i) i x0
  | 0, i, _, h1, h2 => by omega
  | f + 1, i, h0, h1, h2 => by
    show Gl n x y _ i _ _
    unfold Gl
    simp only [aH, true_and, Int.toNat_natCast, Nat.zero_add]
    refine aC (fun hc => ?_) (fun hc => ?_)
    . rw [dY] at hc
      have hn : n <= 1000000 := hp
      have hr := abw hp h3 f (i + 1) (by omega) (by omega) (by omega)
      rw [UA _ (by omega)] at hr
      simp only [jQ]
      rw [fF (by omega) (by omega)]
      refine ⟨⟨by omega, hc⟩, trivial, ?_⟩
      refine aC (fun hc => ?_) (fun hc => ?_)
      . rw [qY] at hc
        rw [show max (BL (fun k => whole (x k)) i) (whole (x i)) = whole (x i) by omega] at hr
        exact hr
      . rw [nV] at hc
        rw [show max (BL (fun k => whole (x k)) i) (whole (x i)) = BL (fun k => whole (x k)) i by omega] at hr
        exact hr
    . rw [fJ] at hc
      have : i = n := by omega
      subst this
      exact h3 _
theorem auE (ig:Nat) (cm:Nat -> Int) (ge : Nat -> Bool) {K0 : Int -> Bool -> Prop} (h : Fj ig cm ge) (hK : K0 (vZ ig cm ge) (wo ig cm ge)) : al3 ig cm ge K0 (xI ig cm ge fuel) := by
  unfold al3
  simp only [aH, true_and]
  have hn : ig <= 1000000 := h
  refine aC (fun hc => ?_) (fun hc => ?_)
  . rw [kE] at hc
    have : ig = 0 := by omega
    subst this
    exact hK
  . rw [vI] at hc
    refine ⟨⟨by omega, by omega⟩, trivial, ?_⟩
    rw [jQ]
    refine abw h (fun v => ?_) fuel 1 (by omega) (by omega) (by rw [gW]; omega)
    exact ⟨h, hK⟩
def Gm (ig:Nat) (cm:Nat -> Int) (ge : Nat -> Bool) (kc j5:Int) (c x0 : Int -> Int -> Prop)  : Prop := Ts 4 (cond (ilt j5 (ig:Int)) (Ts 2 (((0 <= j5 /\ j5 < (ig:Int)) /\ Ts 1 (((Ar (cm (Int.toNat j5)) (ge (Int.toNat j5))) /\ Ts 8 (cond (ilt (aW (cm (Int.toNat j5)) (ge (Int.toNat j5))) kc) (Ts 5 (c (aW (cm (Int.toNat j5)) (ge (Int.toNat j5))) (au .i64 j5 1))) (Ts 3 (c kc (au .i64 j5 1))))))))) (x0 kc j5))
def xO (ig:Nat) (cm:Nat -> Int) (ge : Nat -> Bool) : Nat -> Int -> Int -> (Int -> Int -> Prop) -> Prop
  | 0, _, _, _ => False
  | f + 1, w0, w1, x0 => Gm ig cm ge w0 w1 (fun u0 u1 => xO ig cm ge f u0 u1 x0) x0 
theorem abx (ig:Nat) (cm:Nat -> Int) (ge : Nat -> Bool) (kc j5:Int) {c c' : Int -> Int -> Prop} {x0 y0 : Int -> Int -> Prop} (hc : ∀ w0 w1, c w0 w1 -> c' w0 w1) (h0 : ∀ o0 o1, x0 o0 o1 -> y0 o0 o1) : Gm ig cm ge kc j5 c x0  -> Gm ig cm ge kc j5 c' y0  := by
  unfold Gm
  repeat' first
    | exact hc _ _
    | exact h0 _ _
    | refine dU ?_
    | refine cO ?_ ?_
    | refine cZ ?_
theorem abH (ig:Nat) (cm:Nat -> Int) (ge : Nat -> Bool) {x0 y0 : Int -> Int -> Prop} (h0 : ∀ o0 o1, x0 o0 o1 -> y0 o0 o1) : ∀ (f:Nat) (kc:Int) (j5:Int), xO ig cm ge f kc j5 x0 -> xO ig cm ge f kc j5 y0
  | 0, w0, w1 => fun h => h
  | f + 1, w0, w1 => abx ig cm ge w0 w1 (fun u0 u1 => abH ig cm ge h0 f u0 u1) h0
def ams (ig:Nat) (cm:Nat -> Int) (ge : Nat -> Bool) (K0 : Int -> Bool -> Prop) (l0 : Int -> Int -> (Int -> Int -> Prop) -> Prop) : Prop := Ts 4 (cond (ieq (ig:Int) 0) (Ts 3 (K0 0 false)) (Ts 1 (((0 <= (0:Int) /\ (0:Int) < (ig:Int)) /\ Ts 1 (((Ar (cm 0) (ge 0)) /\ Ts 6 ((l0 (aW (cm 0) (ge 0)) 1 (fun om qg => Ts 2 (((ac7 ig cm ge) /\ Ts 3 (K0 om (kR ig cm ge)))))))))))))
def afH (n:Nat) (x:Nat -> Int) (y : Nat -> Bool) : Prop := n <= 1000000
def iL (n:Nat) (x:Nat -> Int) (y : Nat -> Bool) : Int := BK (fun k => whole (x k)) n
def Aw (n:Nat) (x:Nat -> Int) (y : Nat -> Bool) : Bool := kR n x y
theorem abI {n : Nat} {x : Nat -> Int} {y : Nat -> Bool} (hp : afH n x y) {x0 : Int -> Int -> Prop} (h3 : ∀ v, x0 (BK (fun k => whole (x k)) n) v) : ∀ (f i:Nat), 0 < i -> i <= n -> n < f + i -> xO n x y f (BK (fun k => whole (x k)) i) i x0
  | 0, i, _, h1, h2 => by omega
  | f + 1, i, h0, h1, h2 => by
    show Gm n x y _ i _ _
    unfold Gm
    simp only [aH, true_and, Int.toNat_natCast, Nat.zero_add]
    refine aC (fun hc => ?_) (fun hc => ?_)
    . rw [dY] at hc
      have hn : n <= 1000000 := hp
      have hr := abI hp h3 f (i + 1) (by omega) (by omega) (by omega)
      rw [Uz _ (by omega)] at hr
      simp only [jQ]
      rw [fF (by omega) (by omega)]
      refine ⟨⟨by omega, hc⟩, trivial, ?_⟩
      refine aC (fun hc => ?_) (fun hc => ?_)
      . rw [dY] at hc
        rw [show min (BK (fun k => whole (x k)) i) (whole (x i)) = whole (x i) by omega] at hr
        exact hr
      . rw [fJ] at hc
        rw [show min (BK (fun k => whole (x k)) i) (whole (x i)) = BK (fun k => whole (x k)) i by omega] at hr
        exact hr
    . rw [fJ] at hc
      have : i = n := by omega
      subst this
      exact h3 _
theorem au5 (ig:Nat) (cm:Nat -> Int) (ge : Nat -> Bool) {K0 : Int -> Bool -> Prop} (h : afH ig cm ge) (hK : K0 (iL ig cm ge) (Aw ig cm ge)) : ams ig cm ge K0 (xO ig cm ge fuel) := by
  unfold ams
  simp only [aH, true_and]
  have hn : ig <= 1000000 := h
  refine aC (fun hc => ?_) (fun hc => ?_)
  . rw [kE] at hc
    have : ig = 0 := by omega
    subst this
    exact hK
  . rw [vI] at hc
    refine ⟨⟨by omega, by omega⟩, trivial, ?_⟩
    rw [jQ]
    refine abI h (fun v => ?_) fuel 1 (by omega) (by omega) (by rw [gW]; omega)
    exact ⟨h, hK⟩
def YW (cm:Int) (ge:Bool) (ic:Int) (ie:Bool) : Prop := (O4 2 (ay 1 (fun _ => cm) (nJ ic ie)) (ay 1 (fun _ => ge) (gQ ic ie)))
def Gu (cm:Int) (ge:Bool) (ic:Int) (ie:Bool) : Int := (rH 2 (ay 1 (fun _ => cm) (nJ ic ie)) (ay 1 (fun _ => ge) (gQ ic ie)))
def O7 (cm:Int) (ge:Bool) (ic:Int) (ie:Bool) : Bool := (pY 2 (ay 1 (fun _ => cm) (nJ ic ie)) (ay 1 (fun _ => ge) (gQ ic ie)))
theorem ahx (a:Bool) (ah al:Int) (b:Bool) (bh bl:Int) (h1 : U64 al) (h2 : U64 bl) : AQ a ah al b bh bl = true ↔ ah * 18446744073709551616 + al < bh * 18446744073709551616 + bl := by
  obtain ⟨_, _⟩ := h1
  obtain ⟨_, _⟩ := h2
  unfold AQ
  by_cases h : ah < bh
  . rw [dY.2 h]; simp only [cond_true, true_iff]; omega
  . rw [fJ.2 (by omega)]
    simp only [cond_false]
    by_cases g : ah = bh
    . rw [kE.2 g]; simp only [cond_true]; rw [dY]; omega
    . rw [vI.2 g]; simp only [cond_false]; constructor
      . intro h; cases h
      . intro h; omega
def ahF (neg:Bool) (hi lo:Int) : Prop := U64 hi /\ U64 lo
def V7 (neg:Bool) (hi lo:Int) : Bool := false
def Zf (neg:Bool) (hi lo:Int) : Int := 0
def Vu (neg:Bool) (hi lo:Int) : Int := Qv (hi * 18446744073709551616 + lo)
def QS (cm:Int) (ge:Bool) : Bool := (fZ (aW cm ge) (aW cm ge))
def QT (cm:Int) (ge:Bool) : Int := (iH (aW cm ge) (aW cm ge))
def QU (cm:Int) (ge:Bool) : Int := (iK (aW cm ge) (aW cm ge))
def QV (ic:Int) (ie:Bool) : Bool := (fZ (aW ic ie) (aW ic ie))
def QW (ic:Int) (ie:Bool) : Int := (iH (aW ic ie) (aW ic ie))
def QX (ic:Int) (ie:Bool) : Int := (iK (aW ic ie) (aW ic ie))
def QY (cm:Int) (ge:Bool) (ic:Int) (ie:Bool) : Bool := (nM (QS cm ge) (QT cm ge) (QU cm ge) (QV ic ie) (QW ic ie) (QX ic ie))
def QZ (cm:Int) (ge:Bool) (ic:Int) (ie:Bool) : Int := (kJ (QS cm ge) (QT cm ge) (QU cm ge) (QV ic ie) (QW ic ie) (QX ic ie))
def Q5 (cm:Int) (ge:Bool) (ic:Int) (ie:Bool) : Int := (yO (QS cm ge) (QT cm ge) (QU cm ge) (QV ic ie) (QW ic ie) (QX ic ie))
def Q7 (cm:Int) (ge:Bool) (ic:Int) (ie:Bool) : Bool := (V7 (QY cm ge ic ie) (QZ cm ge ic ie) (Q5 cm ge ic ie))
def KA (cm:Int) (ge:Bool) (ic:Int) (ie:Bool) : Int := (Zf (QY cm ge ic ie) (QZ cm ge ic ie) (Q5 cm ge ic ie))
def KD (cm:Int) (ge:Bool) (ic:Int) (ie:Bool) : Int := (Vu (QY cm ge ic ie) (QZ cm ge ic ie) (Q5 cm ge ic ie))
def abq (cm:Int) (ge:Bool) (ic:Int) (ie:Bool) : Int := (qQ (Q7 cm ge ic ie) (KA cm ge ic ie) (KD cm ge ic ie) true)
def abr (cm:Int) (ge:Bool) (ic:Int) (ie:Bool) : Bool := (qR (Q7 cm ge ic ie) (KA cm ge ic ie) (KD cm ge ic ie) true)
def abt (cm:Int) (ge:Bool) (ic:Int) (ie:Bool) : Int := (qQ (Q7 cm ge ic ie) (KA cm ge ic ie) (KD cm ge ic ie) (dP ic ie))
def abu (cm:Int) (ge:Bool) (ic:Int) (ie:Bool) : Bool := (qR (Q7 cm ge ic ie) (KA cm ge ic ie) (KD cm ge ic ie) (dP ic ie))
def alO (cm:Int) (ge:Bool) (ic:Int) (ie:Bool) : Prop := ((VG (QS cm ge) (QT cm ge) (QU cm ge) (QV ic ie) (QW ic ie) (QX ic ie)) /\ (ahF (QY cm ge ic ie) (QZ cm ge ic ie) (Q5 cm ge ic ie)))
def Vw (cm:Int) (ge:Bool) (ic:Int) (ie:Bool) : Int := (cond (dP cm ge) (abq cm ge ic ie) (abt cm ge ic ie))
def YV (cm:Int) (ge:Bool) (ic:Int) (ie:Bool) : Bool := (cond (dP cm ge) (abr cm ge ic ie) (abu cm ge ic ie))
def NY (a0 a1 a2 a3:Int) : Int := (cond ((jL (fZ a0 a1) (fZ a2 a3)) && ((ieq (iH a0 a1) (iH a2 a3)) && (ieq (iK a0 a1) (iK a2 a3)))) 0 (cond (!(jL (fZ a0 a1) (fZ a2 a3))) (cond (fZ a0 a1) (-1) 1) (cond (!(jL (AQ (fZ a0 a1) (iH a0 a1) (iK a0 a1) (fZ a2 a3) (iH a2 a3) (iK a2 a3)) (fZ a0 a1))) (-1) 1)))
def jC (a0:Int) : Int := (aW a0 false)
def jF (a0:Int) : Bool := (dP a0 false)
def Q8 (cm:Int) (ge:Bool) : Bool := (SQ (bW (aW cm ge)) (bJ (aW cm ge)) (bU (aW cm ge)))
def Q9 (cm:Int) (ge:Bool) : Int := (SS (bW (aW cm ge)) (bJ (aW cm ge)) (bU (aW cm ge)))
def Rf (cm:Int) (ge:Bool) : Int := (fQ (bW (aW cm ge)) (bJ (aW cm ge)) (bU (aW cm ge)))
def YX (cm:Int) (ge:Bool) : Bool := (V7 (Q8 cm ge) (Q9 cm ge) (Rf cm ge))
def YZ (cm:Int) (ge:Bool) : Int := (Zf (Q8 cm ge) (Q9 cm ge) (Rf cm ge))
def Y4 (cm:Int) (ge:Bool) : Int := (Vu (Q8 cm ge) (Q9 cm ge) (Rf cm ge))
def afU (cm:Int) (ge:Bool) : Int := (qQ (YX cm ge) (YZ cm ge) (Y4 cm ge) (dP cm ge))
def af5 (cm:Int) (ge:Bool) : Bool := (qR (YX cm ge) (YZ cm ge) (Y4 cm ge) (dP cm ge))
def WA (cm:Int) (ge:Bool) : Prop := (cond (ilt (aW cm ge) 0) True (ahF (Q8 cm ge) (Q9 cm ge) (Rf cm ge)))
def A8 (cm:Int) (ge:Bool) : Int := (cond (ilt (aW cm ge) 0) 0 (afU cm ge))
def Y5 (cm:Int) (ge:Bool) : Bool := (cond (ilt (aW cm ge) 0) true (af5 cm ge))
def alD (cm:Int) (ge:Bool) (ic:Int) (ie:Bool) (il:Int) (io:Bool) (K0 : Int -> Bool -> Prop)  : Prop := Ts 8 (((afH 2 (ay 1 (fun _ => cm) il) (ay 1 (fun _ => ge) io)) /\ Ts 1 (((Fj 2 (ay 1 (fun _ => ic) (iL 2 (ay 1 (fun _ => cm) il) (ay 1 (fun _ => ge) io))) (ay 1 (fun _ => ie) (Aw 2 (ay 1 (fun _ => cm) il) (ay 1 (fun _ => ge) io)))) /\ Ts 1 ((true = true /\ Ts 1 (K0 (vZ 2 (ay 1 (fun _ => ic) (iL 2 (ay 1 (fun _ => cm) il) (ay 1 (fun _ => ge) io))) (ay 1 (fun _ => ie) (Aw 2 (ay 1 (fun _ => cm) il) (ay 1 (fun _ => ge) io)))) (wo 2 (ay 1 (fun _ => ic) (iL 2 (ay 1 (fun _ => cm) il) (ay 1 (fun _ => ge) io))) (ay 1 (fun _ => ie) (Aw 2 (ay 1 (fun _ => cm) il) (ay 1 (fun _ => ge) io)))))))))))
def ae6 (cm:Int) (ge:Bool) (ic:Int) (ie:Bool) (il:Int) (io:Bool) : Prop := ((afH 2 (ay 1 (fun _ => cm) il) (ay 1 (fun _ => ge) io)) /\ (Fj 2 (ay 1 (fun _ => ic) (iL 2 (ay 1 (fun _ => cm) il) (ay 1 (fun _ => ge) io))) (ay 1 (fun _ => ie) (Aw 2 (ay 1 (fun _ => cm) il) (ay 1 (fun _ => ge) io)))))
def iY (cm:Int) (ge:Bool) (ic:Int) (ie:Bool) (il:Int) (io:Bool) : Int := (vZ 2 (ay 1 (fun _ => ic) (iL 2 (ay 1 (fun _ => cm) il) (ay 1 (fun _ => ge) io))) (ay 1 (fun _ => ie) (Aw 2 (ay 1 (fun _ => cm) il) (ay 1 (fun _ => ge) io))))
def iC (cm:Int) (ge:Bool) (ic:Int) (ie:Bool) (il:Int) (io:Bool) : Bool := (wo 2 (ay 1 (fun _ => ic) (iL 2 (ay 1 (fun _ => cm) il) (ay 1 (fun _ => ge) io))) (ay 1 (fun _ => ie) (Aw 2 (ay 1 (fun _ => cm) il) (ay 1 (fun _ => ge) io))))
theorem at1 (cm:Int) (ge:Bool) (ic:Int) (ie:Bool) (il:Int) (io:Bool) {K0 : Int -> Bool -> Prop} (h : ae6 cm ge ic ie il io) (hK : K0 (iY cm ge ic ie il io) (iC cm ge ic ie il io)) : alD cm ge ic ie il io K0  := by
 unfold alD ae6 iY iC at *
 simp only [aH, true_and]; try simp only [aH, true_and] at h
 repeat' first | exact hK | refine ⟨rfl, ?_⟩ | refine ⟨trivial, ?_⟩ | refine ⟨by decide, ?_⟩ | (refine ⟨h.1, ?_⟩; replace h := h.2) | refine ⟨h, ?_⟩
def amc (cm:Int) (ge:Bool) (K0 : Int -> Prop)  : Prop := Ts 3 (((Ar cm ge) /\ Ts 6 (((0 <= (32:Int)) /\ Ts 1 (((0 <= (31:Int)) /\ Ts 3 (K0 (au .i64 (bF .i64 (aW cm ge) 32) (jK .i64 (bF .i64 (aW cm ge) 31) 1)))))))))
def XZ (cm:Int) (ge:Bool) : Prop := True
def Gf (cm:Int) (ge:Bool) : Int := (au .i64 (bF .i64 (aW cm ge) 32) (jK .i64 (bF .i64 (aW cm ge) 31) 1))
theorem auQ (cm:Int) (ge:Bool) {K0 : Int -> Prop} (h : XZ cm ge) (hK : K0 (Gf cm ge)) : amc cm ge K0  := by
 unfold amc XZ Gf at *
 simp only [aH, true_and]
 repeat' first | exact hK | refine ⟨rfl, ?_⟩ | refine ⟨trivial, ?_⟩ | refine ⟨by decide, ?_⟩ | (refine ⟨h.1, ?_⟩; replace h := h.2) | refine ⟨h, ?_⟩
def alJ (cm:Int) (ge:Bool) (ic:Int) (ie:Bool) (K0 : Int -> Bool -> Prop)  : Prop := Ts 6 (((O4 2 (ay 1 (fun _ => cm) ic) (ay 1 (fun _ => ge) ie)) /\ Ts 2 (K0 (rH 2 (ay 1 (fun _ => cm) ic) (ay 1 (fun _ => ge) ie)) (pY 2 (ay 1 (fun _ => cm) ic) (ay 1 (fun _ => ge) ie)))))
def ahw (cm:Int) (ge:Bool) (ic:Int) (ie:Bool) : Prop := (O4 2 (ay 1 (fun _ => cm) ic) (ay 1 (fun _ => ge) ie))
def lU (cm:Int) (ge:Bool) (ic:Int) (ie:Bool) : Int := (rH 2 (ay 1 (fun _ => cm) ic) (ay 1 (fun _ => ge) ie))
def Iw (cm:Int) (ge:Bool) (ic:Int) (ie:Bool) : Bool := (pY 2 (ay 1 (fun _ => cm) ic) (ay 1 (fun _ => ge) ie))
theorem aub (cm:Int) (ge:Bool) (ic:Int) (ie:Bool) {K0 : Int -> Bool -> Prop} (h : ahw cm ge ic ie) (hK : K0 (lU cm ge ic ie) (Iw cm ge ic ie)) : alJ cm ge ic ie K0  := by
 unfold alJ ahw lU Iw at *
 simp only [aH, true_and]; try simp only [aH, true_and] at h
 repeat' first | exact hK | refine ⟨rfl, ?_⟩ | refine ⟨trivial, ?_⟩ | refine ⟨by decide, ?_⟩ | (refine ⟨h.1, ?_⟩; replace h := h.2) | refine ⟨h, ?_⟩
theorem afg {v w : Int} {f g : Bool} (hv : Num' v) (hw : Num' w) : ahw v f w g /\ lU v f w g = vK (v + w) /\ Iw v f w g = (f || g || vM (v + w)) := by
  have e : yH (ay 1 (fun _ => v) w) 2 = v + w := by
    show 0 + whole v + whole w = v + w
    rw [eX hv, eX hw]; omega
  have e2 : kR 2 (ay 1 (fun _ => v) w) (ay 1 (fun _ => f) g) = (f || g) := by
    show (false || dP v f || dP w g) = (f || g)
    rw [dX hv, dX hw, Bool.false_or]
  unfold ahw lU Iw O4 rH pY
  rw [e, e2]
  refine ⟨⟨by omega, fun k hk => ?_⟩, rfl, rfl⟩
  obtain ⟨a1, a2⟩ := hv
  obtain ⟨b1, b2⟩ := hw
  have : k = 0 \/ k = 1 := by omega
  rcases this with rfl | rfl
  . exact ⟨by show _ <= v; omega, a2⟩
  . exact ⟨by show _ <= w; omega, b2⟩
def alS (cm:Int) (ge:Bool) (K0 : Int -> Bool -> Prop)  : Prop := Ts 3 (((Ar cm ge) /\ Ts 6 ((((26986075409:Int) ≠ 0) /\ Ts 3 (cond (igt (aB .i64 (aW cm ge) 26986075409) 13493037704) (Ts 5 (cond (ilt (bQ .i64 (aB .i64 (aW cm ge) 26986075409) 26986075409) (-13493037704)) (Ts 8 (K0 (au .i64 (bQ .i64 (aB .i64 (aW cm ge) 26986075409) 26986075409) 26986075409) (dP cm ge))) (Ts 5 (K0 (bQ .i64 (aB .i64 (aW cm ge) 26986075409) 26986075409) (dP cm ge))))) (Ts 2 (cond (ilt (aB .i64 (aW cm ge) 26986075409) (-13493037704)) (Ts 8 (K0 (au .i64 (aB .i64 (aW cm ge) 26986075409) 26986075409) (dP cm ge))) (Ts 5 (K0 (aB .i64 (aW cm ge) 26986075409) (dP cm ge))))))))))
def afh (cm:Int) (ge:Bool) : Prop := True
def gq (cm:Int) (ge:Bool) : Int := (cond (igt (aB .i64 (aW cm ge) 26986075409) 13493037704) (cond (ilt (bQ .i64 (aB .i64 (aW cm ge) 26986075409) 26986075409) (-13493037704)) (au .i64 (bQ .i64 (aB .i64 (aW cm ge) 26986075409) 26986075409) 26986075409) (bQ .i64 (aB .i64 (aW cm ge) 26986075409) 26986075409)) (cond (ilt (aB .i64 (aW cm ge) 26986075409) (-13493037704)) (au .i64 (aB .i64 (aW cm ge) 26986075409) 26986075409) (aB .i64 (aW cm ge) 26986075409)))
def aK (cm:Int) (ge:Bool) : Bool := (dP cm ge)
theorem aun (cm:Int) (ge:Bool) {K0 : Int -> Bool -> Prop} (h : afh cm ge) (hK : K0 (gq cm ge) (aK cm ge)) : alS cm ge K0  := by
 unfold alS afh gq aK at *
 simp only [aH, true_and]
 repeat' first | exact hK | (refine aC (fun c => ?_) (fun c => ?_) <;> try simp only [c, cond_true, cond_false] at h hK ⊢) | refine ⟨rfl, ?_⟩ | refine ⟨trivial, ?_⟩ | refine ⟨by decide, ?_⟩ | (refine ⟨h.1, ?_⟩; replace h := h.2) | refine ⟨h, ?_⟩
def IB (cm:Int) (ge:Bool) (jr jb jz:Int) (jt:Bool) (kw:Int) (kx:Bool) (c x0 : Int -> Int -> Int -> Bool -> Int -> Bool -> Prop)  : Prop := Ts 2 (cond (ile jr 8) (Ts 2 (((XO jz jt jb (aK cm ge)) /\ Ts 1 (((XO (bG jz jt jb (aK cm ge)) (bK jz jt jb (aK cm ge)) jb (aK cm ge)) /\ Ts 6 (((ac5 (aI .i64 (aI .i64 2 jr) (au .i64 (aI .i64 2 jr) 1))) /\ ((MQ (bG (bG jz jt jb (aK cm ge)) (bK jz jt jb (aK cm ge)) jb (aK cm ge)) (bK (bG jz jt jb (aK cm ge)) (bK jz jt jb (aK cm ge)) jb (aK cm ge)) (eG (aI .i64 (aI .i64 2 jr) (au .i64 (aI .i64 2 jr) 1))) (eH (aI .i64 (aI .i64 2 jr) (au .i64 (aI .i64 2 jr) 1)))) /\ ((QA (oI (bG (bG jz jt jb (aK cm ge)) (bK jz jt jb (aK cm ge)) jb (aK cm ge)) (bK (bG jz jt jb (aK cm ge)) (bK jz jt jb (aK cm ge)) jb (aK cm ge)) (eG (aI .i64 (aI .i64 2 jr) (au .i64 (aI .i64 2 jr) 1))) (eH (aI .i64 (aI .i64 2 jr) (au .i64 (aI .i64 2 jr) 1)))) (uF (bG (bG jz jt jb (aK cm ge)) (bK jz jt jb (aK cm ge)) jb (aK cm ge)) (bK (bG jz jt jb (aK cm ge)) (bK jz jt jb (aK cm ge)) jb (aK cm ge)) (eG (aI .i64 (aI .i64 2 jr) (au .i64 (aI .i64 2 jr) 1))) (eH (aI .i64 (aI .i64 2 jr) (au .i64 (aI .i64 2 jr) 1))))) /\ Ts 1 ((true = true /\ Ts 2 (((ahw kw kx (nJ (oI (bG (bG jz jt jb (aK cm ge)) (bK jz jt jb (aK cm ge)) jb (aK cm ge)) (bK (bG jz jt jb (aK cm ge)) (bK jz jt jb (aK cm ge)) jb (aK cm ge)) (eG (aI .i64 (aI .i64 2 jr) (au .i64 (aI .i64 2 jr) 1))) (eH (aI .i64 (aI .i64 2 jr) (au .i64 (aI .i64 2 jr) 1)))) (uF (bG (bG jz jt jb (aK cm ge)) (bK jz jt jb (aK cm ge)) jb (aK cm ge)) (bK (bG jz jt jb (aK cm ge)) (bK jz jt jb (aK cm ge)) jb (aK cm ge)) (eG (aI .i64 (aI .i64 2 jr) (au .i64 (aI .i64 2 jr) 1))) (eH (aI .i64 (aI .i64 2 jr) (au .i64 (aI .i64 2 jr) 1))))) (gQ (oI (bG (bG jz jt jb (aK cm ge)) (bK jz jt jb (aK cm ge)) jb (aK cm ge)) (bK (bG jz jt jb (aK cm ge)) (bK jz jt jb (aK cm ge)) jb (aK cm ge)) (eG (aI .i64 (aI .i64 2 jr) (au .i64 (aI .i64 2 jr) 1))) (eH (aI .i64 (aI .i64 2 jr) (au .i64 (aI .i64 2 jr) 1)))) (uF (bG (bG jz jt jb (aK cm ge)) (bK jz jt jb (aK cm ge)) jb (aK cm ge)) (bK (bG jz jt jb (aK cm ge)) (bK jz jt jb (aK cm ge)) jb (aK cm ge)) (eG (aI .i64 (aI .i64 2 jr) (au .i64 (aI .i64 2 jr) 1))) (eH (aI .i64 (aI .i64 2 jr) (au .i64 (aI .i64 2 jr) 1)))))) /\ Ts 4 (c (au .i64 jr 1) jb (nJ (oI (bG (bG jz jt jb (aK cm ge)) (bK jz jt jb (aK cm ge)) jb (aK cm ge)) (bK (bG jz jt jb (aK cm ge)) (bK jz jt jb (aK cm ge)) jb (aK cm ge)) (eG (aI .i64 (aI .i64 2 jr) (au .i64 (aI .i64 2 jr) 1))) (eH (aI .i64 (aI .i64 2 jr) (au .i64 (aI .i64 2 jr) 1)))) (uF (bG (bG jz jt jb (aK cm ge)) (bK jz jt jb (aK cm ge)) jb (aK cm ge)) (bK (bG jz jt jb (aK cm ge)) (bK jz jt jb (aK cm ge)) jb (aK cm ge)) (eG (aI .i64 (aI .i64 2 jr) (au .i64 (aI .i64 2 jr) 1))) (eH (aI .i64 (aI .i64 2 jr) (au .i64 (aI .i64 2 jr) 1))))) (gQ (oI (bG (bG jz jt jb (aK cm ge)) (bK jz jt jb (aK cm ge)) jb (aK cm ge)) (bK (bG jz jt jb (aK cm ge)) (bK jz jt jb (aK cm ge)) jb (aK cm ge)) (eG (aI .i64 (aI .i64 2 jr) (au .i64 (aI .i64 2 jr) 1))) (eH (aI .i64 (aI .i64 2 jr) (au .i64 (aI .i64 2 jr) 1)))) (uF (bG (bG jz jt jb (aK cm ge)) (bK jz jt jb (aK cm ge)) jb (aK cm ge)) (bK (bG jz jt jb (aK cm ge)) (bK jz jt jb (aK cm ge)) jb (aK cm ge)) (eG (aI .i64 (aI .i64 2 jr) (au .i64 (aI .i64 2 jr) 1))) (eH (aI .i64 (aI .i64 2 jr) (au .i64 (aI .i64 2 jr) 1))))) (lU kw kx (nJ (oI (bG (bG jz jt jb (aK cm ge)) (bK jz jt jb (aK cm ge)) jb (aK cm ge)) (bK (bG jz jt jb (aK cm ge)) (bK jz jt jb (aK cm ge)) jb (aK cm ge)) (eG (aI .i64 (aI .i64 2 jr) (au .i64 (aI .i64 2 jr) 1))) (eH (aI .i64 (aI .i64 2 jr) (au .i64 (aI .i64 2 jr) 1)))) (uF (bG (bG jz jt jb (aK cm ge)) (bK jz jt jb (aK cm ge)) jb (aK cm ge)) (bK (bG jz jt jb (aK cm ge)) (bK jz jt jb (aK cm ge)) jb (aK cm ge)) (eG (aI .i64 (aI .i64 2 jr) (au .i64 (aI .i64 2 jr) 1))) (eH (aI .i64 (aI .i64 2 jr) (au .i64 (aI .i64 2 jr) 1))))) (gQ (oI (bG (bG jz jt jb (aK cm ge)) (bK jz jt jb (aK cm ge)) jb (aK cm ge)) (bK (bG jz jt jb (aK cm ge)) (bK jz jt jb (aK cm ge)) jb (aK cm ge)) (eG (aI .i64 (aI .i64 2 jr) (au .i64 (aI .i64 2 jr) 1))) (eH (aI .i64 (aI .i64 2 jr) (au .i64 (aI .i64 2 jr) 1)))) (uF (bG (bG jz jt jb (aK cm ge)) (bK jz jt jb (aK cm ge)) jb (aK cm ge)) (bK (bG jz jt jb (aK cm ge)) (bK jz jt jb (aK cm ge)) jb (aK cm ge)) (eG (aI .i64 (aI .i64 2 jr) (au .i64 (aI .i64 2 jr) 1))) (eH (aI .i64 (aI .i64 2 jr) (au .i64 (aI .i64 2 jr) 1)))))) (Iw kw kx (nJ (oI (bG (bG jz jt jb (aK cm ge)) (bK jz jt jb (aK cm ge)) jb (aK cm ge)) (bK (bG jz jt jb (aK cm ge)) (bK jz jt jb (aK cm ge)) jb (aK cm ge)) (eG (aI .i64 (aI .i64 2 jr) (au .i64 (aI .i64 2 jr) 1))) (eH (aI .i64 (aI .i64 2 jr) (au .i64 (aI .i64 2 jr) 1)))) (uF (bG (bG jz jt jb (aK cm ge)) (bK jz jt jb (aK cm ge)) jb (aK cm ge)) (bK (bG jz jt jb (aK cm ge)) (bK jz jt jb (aK cm ge)) jb (aK cm ge)) (eG (aI .i64 (aI .i64 2 jr) (au .i64 (aI .i64 2 jr) 1))) (eH (aI .i64 (aI .i64 2 jr) (au .i64 (aI .i64 2 jr) 1))))) (gQ (oI (bG (bG jz jt jb (aK cm ge)) (bK jz jt jb (aK cm ge)) jb (aK cm ge)) (bK (bG jz jt jb (aK cm ge)) (bK jz jt jb (aK cm ge)) jb (aK cm ge)) (eG (aI .i64 (aI .i64 2 jr) (au .i64 (aI .i64 2 jr) 1))) (eH (aI .i64 (aI .i64 2 jr) (au .i64 (aI .i64 2 jr) 1)))) (uF (bG (bG jz jt jb (aK cm ge)) (bK jz jt jb (aK cm ge)) jb (aK cm ge)) (bK (bG jz jt jb (aK cm ge)) (bK jz jt jb (aK cm ge)) jb (aK cm ge)) (eG (aI .i64 (aI .i64 2 jr) (au .i64 (aI .i64 2 jr) 1))) (eH (aI .i64 (aI .i64 2 jr) (au .i64 (aI .i64 2 jr) 1)))))))))))))))))))) (x0 jr jb jz jt kw kx))
def sU (cm:Int) (ge:Bool) : Nat -> Int -> Int -> Int -> Bool -> Int -> Bool -> (Int -> Int -> Int -> Bool -> Int -> Bool -> Prop) -> Prop
  | 0, _, _, _, _, _, _, _ => False
  | f + 1, w0, w1, w2, w3, w4, w5, x0 => IB cm ge w0 w1 w2 w3 w4 w5 (fun u0 u1 u2 u3 u4 u5 => sU cm ge f u0 u1 u2 u3 u4 u5 x0) x0 
theorem abJ (cm:Int) (ge:Bool) (jr jb jz:Int) (jt:Bool) (kw:Int) (kx:Bool) {c c' : Int -> Int -> Int -> Bool -> Int -> Bool -> Prop} {x0 y0 : Int -> Int -> Int -> Bool -> Int -> Bool -> Prop} (hc : ∀ w0 w1 w2 w3 w4 w5, c w0 w1 w2 w3 w4 w5 -> c' w0 w1 w2 w3 w4 w5) (h0 : ∀ o0 o1 o2 o3 o4 o5, x0 o0 o1 o2 o3 o4 o5 -> y0 o0 o1 o2 o3 o4 o5) : IB cm ge jr jb jz jt kw kx c x0  -> IB cm ge jr jb jz jt kw kx c' y0  := by
  unfold IB
  repeat' first
    | exact hc _ _ _ _ _ _
    | exact h0 _ _ _ _ _ _
    | refine dU ?_
    | refine cO ?_ ?_
    | refine cZ ?_
theorem abR (cm:Int) (ge:Bool) {x0 y0 : Int -> Int -> Int -> Bool -> Int -> Bool -> Prop} (h0 : ∀ o0 o1 o2 o3 o4 o5, x0 o0 o1 o2 o3 o4 o5 -> y0 o0 o1 o2 o3 o4 o5) : ∀ (f:Nat) (jr:Int) (jb:Int) (jz:Int) (jt:Bool) (kw:Int) (kx:Bool), sU cm ge f jr jb jz jt kw kx x0 -> sU cm ge f jr jb jz jt kw kx y0
  | 0, w0, w1, w2, w3, w4, w5 => fun h => h
  | f + 1, w0, w1, w2, w3, w4, w5 => abJ cm ge w0 w1 w2 w3 w4 w5 (fun u0 u1 u2 u3 u4 u5 => abR cm ge h0 f u0 u1 u2 u3 u4 u5) h0
def amG (cm:Int) (ge:Bool) (K0 : Int -> Bool -> Prop) (l0 : Int -> Int -> Int -> Bool -> Int -> Bool -> (Int -> Int -> Int -> Bool -> Int -> Bool -> Prop) -> Prop) : Prop := Ts 3 (((afh cm ge) /\ Ts 5 (cond (igt (gq cm ge) 6746518852) (Ts 8 (cond (ilt (bQ .i64 13493037704 (gq cm ge)) (-6746518852)) (Ts 11 ((true = true /\ Ts 1 ((l0 1 (bQ .i64 (-13493037704) (bQ .i64 13493037704 (gq cm ge))) (bQ .i64 (-13493037704) (bQ .i64 13493037704 (gq cm ge))) (aK cm ge) (bQ .i64 (-13493037704) (bQ .i64 13493037704 (gq cm ge))) (aK cm ge) (fun qe pz qa qb mz m7 => Ts 3 (((ae6 mz m7 (-4294967296) false 4294967296 false) /\ Ts 2 (K0 (iY mz m7 (-4294967296) false 4294967296 false) (iC mz m7 (-4294967296) false 4294967296 false)))))))))) (Ts 6 ((true = true /\ Ts 1 ((l0 1 (bQ .i64 13493037704 (gq cm ge)) (bQ .i64 13493037704 (gq cm ge)) (aK cm ge) (bQ .i64 13493037704 (gq cm ge)) (aK cm ge) (fun qe pz qa qb mz m7 => Ts 3 (((ae6 mz m7 (-4294967296) false 4294967296 false) /\ Ts 2 (K0 (iY mz m7 (-4294967296) false 4294967296 false) (iC mz m7 (-4294967296) false 4294967296 false)))))))))))) (Ts 3 (cond (ilt (gq cm ge) (-6746518852)) (Ts 11 ((true = true /\ Ts 1 ((l0 1 (bQ .i64 (-13493037704) (gq cm ge)) (bQ .i64 (-13493037704) (gq cm ge)) (aK cm ge) (bQ .i64 (-13493037704) (gq cm ge)) (aK cm ge) (fun qe pz qa qb mz m7 => Ts 3 (((ae6 mz m7 (-4294967296) false 4294967296 false) /\ Ts 2 (K0 (iY mz m7 (-4294967296) false 4294967296 false) (iC mz m7 (-4294967296) false 4294967296 false)))))))))) (Ts 6 ((true = true /\ Ts 1 ((l0 1 (gq cm ge) (gq cm ge) (aK cm ge) (gq cm ge) (aK cm ge) (fun qe pz qa qb mz m7 => Ts 3 (((ae6 mz m7 (-4294967296) false 4294967296 false) /\ Ts 2 (K0 (iY mz m7 (-4294967296) false 4294967296 false) (iC mz m7 (-4294967296) false 4294967296 false)))))))))))))))
theorem auo {n : Nat} (h : n < 8) : aI .i64 (aI .i64 2 ((n:Int) + 1)) (au .i64 (aI .i64 2 ((n:Int) + 1)) 1) = (2 * ((n:Int) + 1)) * (2 * ((n:Int) + 1) + 1) /\ 0 < (2 * ((n:Int) + 1)) * (2 * ((n:Int) + 1) + 1) /\ (2 * ((n:Int) + 1)) * (2 * ((n:Int) + 1) + 1) < 300 := by
  have : n = 0 \/ n = 1 \/ n = 2 \/ n = 3 \/ n = 4 \/ n = 5 \/ n = 6 \/ n = 7 := by omega
  simp only [O9, JH]
  rcases this with rfl | rfl | rfl | rfl | rfl | rfl | rfl | rfl <;> decide
def Ho (y:Int) (f:Bool) : Nat -> Int × Bool × Int × Bool
  | 0 => (y, f, y, f)
  | n + 1 => (fun (st : Int × Bool × Int × Bool) => (fun (m0:Int) (m1:Bool) (c:Int) => (fun (t:Int) (g:Bool) => (t, g, lU st.2.2.1 st.2.2.2 t g, Iw st.2.2.1 st.2.2.2 t g))
      (nJ (oI m0 m1 (eG c) (eH c)) (uF m0 m1 (eG c) (eH c))) (gQ (oI m0 m1 (eG c) (eH c)) (uF m0 m1 (eG c) (eH c))))
      (bG (bG st.1 st.2.1 y f) (bK st.1 st.2.1 y f) y f) (bK (bG st.1 st.2.1 y f) (bK st.1 st.2.1 y f) y f) (aI .i64 (aI .i64 2 ((n:Int) + 1)) (au .i64 (aI .i64 2 ((n:Int) + 1)) 1))) (Ho y f n)
theorem aup {y : Int} {f : Bool} (hy : Num' y) {n : Nat} (hn : n < 8) {t : Int} {tf : Bool} (ht : Num' t) :
    Num' (bG (bG t tf y f) (bK t tf y f) y f) /\ Num' (eG (aI .i64 (aI .i64 2 ((n:Int) + 1)) (au .i64 (aI .i64 2 ((n:Int) + 1)) 1))) /\ eG (aI .i64 (aI .i64 2 ((n:Int) + 1)) (au .i64 (aI .i64 2 ((n:Int) + 1)) 1)) ≠ 0 := by
  obtain ⟨c1, c2, c3⟩ := auo hn
  rw [c1]
  generalize (2 * ((n:Int) + 1)) * (2 * ((n:Int) + 1) + 1) = c at *
  have hm : Num' (bG t tf y f) := by rw [(YS (f := tf) (g := f) ht hy).1]; exact pV _
  refine ⟨by rw [(YS hm hy).1]; exact pV _, by rw [(YT ⟨by omega, by omega⟩).1]; exact pV _, ?_⟩
  rw [(YT ⟨by omega, by omega⟩).1, Pq ⟨by omega, by omega⟩]
  omega
theorem abS {a : Int} {b : Bool} {y : Int} (hy : Num' y) {x0 : Int -> Int -> Int -> Bool -> Int -> Bool -> Prop} (h3 : ∀ v, x0 v y (Ho y (aK a b) 8).1 (Ho y (aK a b) 8).2.1 (Ho y (aK a b) 8).2.2.1 (Ho y (aK a b) 8).2.2.2) : ∀ (g n:Nat), n <= 8 -> 8 < g + n -> ∀ (t:Int) (tf:Bool) (s:Int) (sf:Bool), Ho y (aK a b) n = (t, tf, s, sf) -> Num' t -> Num' s -> sU a b g ((n:Int) + 1) y t tf s sf x0
  | 0, n, h1, h2, _, _, _, _, _, _, _ => by omega
  | g + 1, n, h1, h2, t, tf, s, sf, he, ht, hs => by
    show IB a b ((n:Int) + 1) y t tf s sf _ _
    unfold IB
    simp only [aH, true_and]
    refine aC (fun hc => ?_) (fun hc => ?_)
    . rw [Xy] at hc
      have hn : n < 8 := by omega
      obtain ⟨p1, p2, p3⟩ := aup (f := aK a b) hy hn (tf := tf) ht
      have e : Ho y (aK a b) (n + 1) = _ := rfl
      conv at e => rhs; unfold Ho; rw [he]
      generalize aI .i64 (aI .i64 2 ((n:Int) + 1)) (au .i64 (aI .i64 2 ((n:Int) + 1)) 1) = c at *
      obtain ⟨d1, d2, d3⟩ := afc (f := bK (bG t tf y (aK a b)) (bK t tf y (aK a b)) y (aK a b)) (g := eH c) p1 p2 p3
      have hd : Num' (oI (bG (bG t tf y (aK a b)) (bK t tf y (aK a b)) y (aK a b)) (bK (bG t tf y (aK a b)) (bK t tf y (aK a b)) y (aK a b)) (eG c) (eH c)) := by rw [d2]; exact pV _
      have hneg := fun x => (QE (f := x) hd).1
      have hn' : Num' (nJ (oI (bG (bG t tf y (aK a b)) (bK t tf y (aK a b)) y (aK a b)) (bK (bG t tf y (aK a b)) (bK t tf y (aK a b)) y (aK a b)) (eG c) (eH c)) (uF (bG (bG t tf y (aK a b)) (bK t tf y (aK a b)) y (aK a b)) (bK (bG t tf y (aK a b)) (bK t tf y (aK a b)) y (aK a b)) (eG c) (eH c))) := by
        rw [hneg]; obtain ⟨_, _⟩ := hd; exact ⟨by omega, by omega⟩
      obtain ⟨q1, q2, q3⟩ := afg (f := sf) (g := gQ (oI (bG (bG t tf y (aK a b)) (bK t tf y (aK a b)) y (aK a b)) (bK (bG t tf y (aK a b)) (bK t tf y (aK a b)) y (aK a b)) (eG c) (eH c)) (uF (bG (bG t tf y (aK a b)) (bK t tf y (aK a b)) y (aK a b)) (bK (bG t tf y (aK a b)) (bK t tf y (aK a b)) y (aK a b)) (eG c) (eH c))) hs hn'
      rw [fF (by omega) (by omega)]
      refine ⟨trivial, trivial, trivial, d1, trivial, q1, ?_⟩
      exact abS hy h3 g (n + 1) (by omega) (by omega) _ _ _ _ e hn' (by rw [q2]; exact pV _)
    . rw [Qh] at hc
      have : n = 8 := by omega
      subst this
      have := h3 ((8:Nat) + 1)
      rw [he] at this
      exact this
def Ox (w:Int) : Int := cond (igt w 6746518852) (cond (ilt (bQ .i64 13493037704 w) (-6746518852)) (bQ .i64 (-13493037704) (bQ .i64 13493037704 w)) (bQ .i64 13493037704 w)) (cond (ilt w (-6746518852)) (bQ .i64 (-13493037704) w) w)
def Je (a:Int) (b:Bool) : Prop := True
def Dp (a:Int) (b:Bool) : Int := iY (Ho (Ox (gq a b)) (aK a b) 8).2.2.1 (Ho (Ox (gq a b)) (aK a b) 8).2.2.2 (-4294967296) false 4294967296 false
def Dq (a:Int) (b:Bool) : Bool := iC (Ho (Ox (gq a b)) (aK a b) 8).2.2.1 (Ho (Ox (gq a b)) (aK a b) 8).2.2.2 (-4294967296) false 4294967296 false
theorem dN {α : Type} {p : α -> Prop} {b : Bool} {x y : α} (h1 : b = true -> p x) (h2 : b = false -> p y) : p (cond b x y) := by
  cases b
  . exact h2 rfl
  . exact h1 rfl
theorem Oy (a:Int) (b:Bool) : -13493037704 <= gq a b /\ gq a b <= 13493037704 := by
  have h1 : aB .i64 (aW a b) 26986075409 < 26986075409 := by rw [rC]; exact Int.tmod_lt_of_pos _ (by decide)
  have h2 : -26986075409 < aB .i64 (aW a b) 26986075409 := by rw [rC]; exact Int.lt_tmod_of_pos _ (by decide)
  unfold gq
  generalize aB .i64 (aW a b) 26986075409 = r at *
  refine dN (p := fun z : Int => -13493037704 <= z /\ z <= 13493037704) (fun hc => ?_) (fun hc => ?_)
  . rw [qY] at hc
    rw [gI (by omega) (by omega)]
    refine dN (p := fun z : Int => -13493037704 <= z /\ z <= 13493037704) (fun hc => ?_) (fun hc => ?_)
    . rw [dY] at hc; rw [fF (by omega) (by omega)]; omega
    . rw [fJ] at hc; omega
  . rw [nV] at hc
    refine dN (p := fun z : Int => -13493037704 <= z /\ z <= 13493037704) (fun hc => ?_) (fun hc => ?_)
    . rw [dY] at hc; rw [fF (by omega) (by omega)]; omega
    . rw [fJ] at hc; omega
theorem adf {w : Int} (h : -13493037704 <= w /\ w <= 13493037704) : Num' (Ox w) := by
  obtain ⟨h1, h2⟩ := h
  unfold Ox
  rw [gI (a := 13493037704) (by omega) (by omega), gI (a := -13493037704) (b := 13493037704 - w) (by omega) (by omega), gI (a := -13493037704) (b := w) (by omega) (by omega)]
  unfold Num'
  refine dN (p := fun z : Int => -9223372036854775807 <= z /\ z <= 9223372036854775807) (fun hc => ?_) (fun hc => ?_) <;> refine dN (p := fun z : Int => -9223372036854775807 <= z /\ z <= 9223372036854775807) (fun hc => ?_) (fun hc => ?_) <;> omega
theorem avk (cm:Int) (ge:Bool) {K0 : Int -> Bool -> Prop} (h : Je cm ge) (hK : K0 (Dp cm ge) (Dq cm ge)) : amG cm ge K0 (sU cm ge fuel) := by
  have hy := adf (Oy cm ge)
  have hC : ∀ s sf, ae6 s sf (-4294967296) false 4294967296 false := fun s sf => ⟨by show 2 <= 1000000; decide, by show 2 <= 1000000; decide⟩
  unfold Dp Dq Ox at hK
  unfold Ox at hy
  unfold amG
  simp only [aH, true_and]
  refine ⟨trivial, ?_⟩
  have go : ∀ y, Num' y -> K0 (iY (Ho y (aK cm ge) 8).2.2.1 (Ho y (aK cm ge) 8).2.2.2 (-4294967296) false 4294967296 false) (iC (Ho y (aK cm ge) 8).2.2.1 (Ho y (aK cm ge) 8).2.2.2 (-4294967296) false 4294967296 false) -> sU cm ge fuel 1 y y (aK cm ge) y (aK cm ge) (fun qe pz qa qb mz m7 => ae6 mz m7 (-4294967296) false 4294967296 false /\ K0 (iY mz m7 (-4294967296) false 4294967296 false) (iC mz m7 (-4294967296) false 4294967296 false)) := fun y hy hK =>
    abS hy (fun v => ⟨hC _ _, hK⟩) fuel 0 (by omega) (by rw [gW]; omega) y _ y _ rfl hy hy
  refine aC (fun hc => ?_) (fun hc => ?_) <;> rw [hc] at hK hy <;> simp only [cond_true, cond_false] at hK hy
  . refine aC (fun hc => ?_) (fun hc => ?_) <;> rw [hc] at hK hy <;> simp only [cond_true, cond_false] at hK hy <;> exact go _ hy hK
  . refine aC (fun hc => ?_) (fun hc => ?_) <;> rw [hc] at hK hy <;> simp only [cond_true, cond_false] at hK hy <;> exact go _ hy hK
def amK (cm:Int) (ge:Bool) (K0 : Int -> Bool -> Prop)  : Prop := Ts 3 (((afh cm ge) /\ Ts 1 (((ahw (gq cm ge) (aK cm ge) 6746518852 false) /\ ((Je (lU (gq cm ge) (aK cm ge) 6746518852 false) (Iw (gq cm ge) (aK cm ge) 6746518852 false)) /\ Ts 2 (K0 (Dp (lU (gq cm ge) (aK cm ge) 6746518852 false) (Iw (gq cm ge) (aK cm ge) 6746518852 false)) (Dq (lU (gq cm ge) (aK cm ge) 6746518852 false) (Iw (gq cm ge) (aK cm ge) 6746518852 false))))))))
def ahK (cm:Int) (ge:Bool) : Prop := (ahw (gq cm ge) (aK cm ge) 6746518852 false)
def SE (cm:Int) (ge:Bool) : Int := (Dp (lU (gq cm ge) (aK cm ge) 6746518852 false) (Iw (gq cm ge) (aK cm ge) 6746518852 false))
def SG (cm:Int) (ge:Bool) : Bool := (Dq (lU (gq cm ge) (aK cm ge) 6746518852 false) (Iw (gq cm ge) (aK cm ge) 6746518852 false))
theorem avo (cm:Int) (ge:Bool) {K0 : Int -> Bool -> Prop} (h : ahK cm ge) (hK : K0 (SE cm ge) (SG cm ge)) : amK cm ge K0  := by
 unfold amK ahK SE SG at *
 simp only [aH, true_and]; try simp only [aH, true_and] at h
 repeat' first | exact hK | refine ⟨rfl, ?_⟩ | refine ⟨trivial, ?_⟩ | refine ⟨by decide, ?_⟩ | (refine ⟨h.1, ?_⟩; replace h := h.2) | refine ⟨h, ?_⟩
def IJ (ig:Nat) (cm:Nat -> Int) (ge : Nat -> Bool) (km:Int) (c x0 : Int -> Prop) (x1 : Bool -> Int -> Prop)  : Prop := Ts 1 (cond (ilt km (ig:Int)) (((0 <= km /\ km < (ig:Int)) /\ Ts 5 (cond (ge (Int.toNat km)) (Ts 1 (x1 true km)) (Ts 2 (c (au .i64 km 1)))))) (x0 km))
def yL (ig:Nat) (cm:Nat -> Int) (ge : Nat -> Bool) : Nat -> Int -> (Int -> Prop) -> (Bool -> Int -> Prop) -> Prop
  | 0, _, _, _ => False
  | f + 1, w0, x0, x1 => IJ ig cm ge w0 (fun u0 => yL ig cm ge f u0 x0 x1) x0 x1 
theorem aby (ig:Nat) (cm:Nat -> Int) (ge : Nat -> Bool) (km:Int) {c c' : Int -> Prop} {x0 y0 : Int -> Prop} {x1 y1 : Bool -> Int -> Prop} (hc : ∀ w0, c w0 -> c' w0) (h0 : ∀ o0, x0 o0 -> y0 o0) (h1 : ∀ o0 o1, x1 o0 o1 -> y1 o0 o1) : IJ ig cm ge km c x0 x1  -> IJ ig cm ge km c' y0 y1  := by
  unfold IJ
  repeat' first
    | exact hc _
    | exact h0 _
    | exact h1 _ _
    | refine dU ?_
    | refine cO ?_ ?_
    | refine cZ ?_
theorem abz (ig:Nat) (cm:Nat -> Int) (ge : Nat -> Bool) {x0 y0 : Int -> Prop} {x1 y1 : Bool -> Int -> Prop} (h0 : ∀ o0, x0 o0 -> y0 o0) (h1 : ∀ o0 o1, x1 o0 o1 -> y1 o0 o1) : ∀ (f:Nat) (km:Int), yL ig cm ge f km x0 x1 -> yL ig cm ge f km y0 y1
  | 0, w0 => fun h => h
  | f + 1, w0 => aby ig cm ge w0 (fun u0 => abz ig cm ge h0 h1 f u0) h0 h1
def adg (ig:Nat) (cm:Nat -> Int) (ge : Nat -> Bool) (K0 : Bool -> Prop) (l0 : Int -> (Int -> Prop) -> (Bool -> Int -> Prop) -> Prop) : Prop := Ts 4 ((l0 0 (fun qf => Ts 1 (K0 false)) (fun l6 qf => K0 l6)))
def O5 (n:Nat) (x:Nat -> Int) (y : Nat -> Bool) : Prop := n <= 1000000
def CZ (n:Nat) (x:Nat -> Int) (y : Nat -> Bool) : Bool := vN y n
theorem afj {p : Nat -> Bool} {n : Nat} (K : Bool -> Prop) (hK : K (vN p n)) : ((∀ k, k < n -> p k = false) -> K false) /\ (∀ k, k < n -> p k = true -> K true) := by
  constructor
  . intro h
    have : vN p n = false := by
      cases hf : vN p n with
      | false => rfl
      | true => obtain ⟨k, h1, h2⟩ := QN.1 hf; rw [h k h1] at h2; cases h2
    rwa [this] at hK
  . intro k hk hp
    have : vN p n = true := QN.2 ⟨k, hk, hp⟩
    rwa [this] at hK
theorem abA {n : Nat} {x : Nat -> Int} {y : Nat -> Bool} (hp : n <= 1000000) {x0 : Int -> Prop} {x1 : Bool -> Int -> Prop} (h3 : (∀ k, k < n -> y k = false) -> ∀ v, x0 v) (h4 : ∀ k, k < n -> y k = true -> ∀ v, x1 true v) : ∀ (f i:Nat), i <= n -> n < f + i -> (∀ k, k < i -> y k = false) -> yL n x y f i x0 x1
  | 0, i, h1, h2, _ => by omega
  | f + 1, i, h1, h2, g => by
    show IJ n x y i _ _ _
    unfold IJ
    simp only [aH, true_and, Int.toNat_natCast]
    refine aC (fun hc => ?_) (fun hc => ?_)
    . rw [dY] at hc
      refine ⟨⟨by omega, hc⟩, aC (fun hd => h4 i (by omega) hd _) (fun hd => ?_)⟩
      rw [fF (by omega) (by omega)]
      exact abA hp h3 h4 f (i + 1) (by omega) (by omega) (fun k hk => if e : k = i then by subst e; exact hd else g k (by omega))
    . rw [fJ] at hc
      exact h3 (fun k hk => g k (by omega)) _
theorem aus (ig:Nat) (cm:Nat -> Int) (ge : Nat -> Bool) {K0 : Bool -> Prop} (h : O5 ig cm ge) (hK : K0 (CZ ig cm ge)) : adg ig cm ge K0 (yL ig cm ge fuel) := by
  unfold adg
  simp only [aH]
  have hp : ig <= 1000000 := h
  obtain ⟨h3, h4⟩ := afj K0 hK
  exact abA hp (fun h v => h3 h) (fun k hk hs v => h4 k hk hs) fuel 0 (Nat.zero_le _) (by rw [gW]; omega) (fun k hk => by omega)
theorem apP (p : Nat -> Bool) : vN p 2 = (p 0 || p 1) := by show ((false || p 0) || p 1) = _; rw [Bool.false_or]
theorem aut (p : Nat -> Bool) : vN p 4 = (p 0 || p 1 || p 2 || p 3) := by show ((((false || p 0) || p 1) || p 2) || p 3) = _; rw [Bool.false_or]
theorem Y3 (a b:Int) (f g:Bool) : CZ 2 (ay 1 (fun _ => a) b) (ay 1 (fun _ => f) g) = (f || g) := apP _
theorem alU (a b c d:Int) (f g h i:Bool) : CZ 4 (dO 1 (fun _ => a) (dO 1 (fun _ => b) (ay 1 (fun _ => c) d))) (dO 1 (fun _ => f) (dO 1 (fun _ => g) (ay 1 (fun _ => h) i))) = (f || g || h || i) := aut _
def alV (cm:Int) (ge:Bool) (K0 : Int -> Bool -> Prop)  : Prop := Ts 5 (cond (ieq cm (-9223372036854775808)) (Ts 3 (K0 (-9223372036854775807) true)) (Ts 3 (K0 cm ge)))
def Fh (cm:Int) (ge:Bool) : Prop := True
def aZ (cm:Int) (ge:Bool) : Int := (cond (ieq cm (-9223372036854775808)) (-9223372036854775807) cm)
def fC (cm:Int) (ge:Bool) : Bool := (cond (ieq cm (-9223372036854775808)) true ge)
theorem auu (cm:Int) (ge:Bool) {K0 : Int -> Bool -> Prop} (h : Fh cm ge) (hK : K0 (aZ cm ge) (fC cm ge)) : alV cm ge K0  := by
 unfold alV Fh aZ fC at *
 simp only [aH, true_and]
 repeat' first | exact hK | (refine aC (fun c => ?_) (fun c => ?_) <;> try simp only [c, cond_true, cond_false] at h hK ⊢)
def IK (ig:Nat) (cm:Nat -> Int) (ge : Nat -> Bool) (j5:Bool) (ld:Int) (ns : (Nat -> Int)) (c x0 : Bool -> Int -> (Nat -> Int) -> Prop)  : Prop := Ts 1 (cond (ilt ld (ig:Int)) (Ts 1 (((0 <= ld /\ ld < (ig:Int)) /\ Ts 5 (((Fh (cm (Int.toNat ld)) (ge (Int.toNat ld))) /\ Ts 7 (cond j5 (Ts 1 (((0 <= ld /\ ld < (((Int.toNat (ig:Int)):Nat):Int)) /\ (((Int.toNat ld) < (Int.toNat (ig:Int))) /\ Ts 1 ((true = true /\ Ts 2 (c true (au .i64 ld 1) (Kq (Int.toNat ld) ns (aZ (cm (Int.toNat ld)) (ge (Int.toNat ld))))))))))) (Ts 3 (((0 <= ld /\ ld < (((Int.toNat (ig:Int)):Nat):Int)) /\ (((Int.toNat ld) < (Int.toNat (ig:Int))) /\ Ts 1 ((true = true /\ Ts 2 (c (fC (cm (Int.toNat ld)) (ge (Int.toNat ld))) (au .i64 ld 1) (Kq (Int.toNat ld) ns (aZ (cm (Int.toNat ld)) (ge (Int.toNat ld))))))))))))))))) (x0 j5 ld ns))
def yM (ig:Nat) (cm:Nat -> Int) (ge : Nat -> Bool) : Nat -> Bool -> Int -> (Nat -> Int) -> (Bool -> Int -> (Nat -> Int) -> Prop) -> Prop
  | 0, _, _, _, _ => False
  | f + 1, w0, w1, w2, x0 => IK ig cm ge w0 w1 w2 (fun u0 u1 u2 => yM ig cm ge f u0 u1 u2 x0) x0 
theorem abB (ig:Nat) (cm:Nat -> Int) (ge : Nat -> Bool) (j5:Bool) (ld:Int) (ns : (Nat -> Int)) {c c' : Bool -> Int -> (Nat -> Int) -> Prop} {x0 y0 : Bool -> Int -> (Nat -> Int) -> Prop} (hc : ∀ w0 w1 w2, c w0 w1 w2 -> c' w0 w1 w2) (h0 : ∀ o0 o1 o2, x0 o0 o1 o2 -> y0 o0 o1 o2) : IK ig cm ge j5 ld ns c x0  -> IK ig cm ge j5 ld ns c' y0  := by
  unfold IK
  repeat' first
    | exact hc _ _ _
    | exact h0 _ _ _
    | refine dU ?_
    | refine cO ?_ ?_
    | refine cZ ?_
theorem abC (ig:Nat) (cm:Nat -> Int) (ge : Nat -> Bool) {x0 y0 : Bool -> Int -> (Nat -> Int) -> Prop} (h0 : ∀ o0 o1 o2, x0 o0 o1 o2 -> y0 o0 o1 o2) : ∀ (f:Nat) (j5:Bool) (ld:Int) (ns : (Nat -> Int)), yM ig cm ge f j5 ld ns x0 -> yM ig cm ge f j5 ld ns y0
  | 0, w0, w1, w2 => fun h => h
  | f + 1, w0, w1, w2 => abB ig cm ge w0 w1 w2 (fun u0 u1 u2 => abC ig cm ge h0 f u0 u1 u2) h0
def adh (ig:Nat) (cm:Nat -> Int) (ge : Nat -> Bool) (K0 : Nat -> (Nat -> Int) -> Bool -> Prop) (l0 : Bool -> Int -> (Nat -> Int) -> (Bool -> Int -> (Nat -> Int) -> Prop) -> Prop) : Prop := Ts 4 (((0 <= (ig:Int) /\ (ig:Int) = (ig:Int) /\ (ig:Int) <= 1000000 /\ 8 <= 1000000) /\ Ts 5 ((l0 false 0 (fun _ => 0) (fun qg rm q8 => Ts 4 (K0 (Int.toNat (ig:Int)) q8 qg))))))
def adi (x:Nat -> Int) (y : Nat -> Bool) : Nat -> (Nat -> Int)
  | 0 => fun _ => 0
  | i + 1 => Kq i (adi x y i) (aZ (x i) (y i))
theorem abD (i:Nat) {α : Type} (f : Nat -> α) (v : α) : Kq i f v i = v := by unfold Kq; rw [Nat.beq_refl]; rfl
theorem abE {i k : Nat} {α : Type} (f : Nat -> α) (v : α) (h : k ≠ i) : Kq i f v k = f k := by
  unfold Kq
  rw [show Nat.beq k i = false by cases hb : Nat.beq k i with | false => rfl | true => exact absurd (Nat.eq_of_beq_eq_true hb) h]
  rfl
theorem Vz {x : Nat -> Int} {y : Nat -> Bool} : ∀ {n k : Nat}, k < n -> adi x y n k = aZ (x k) (y k)
  | 0, k, h => by omega
  | n + 1, k, h => by
    show Kq n (adi x y n) (aZ (x n) (y n)) k = _
    by_cases e : k = n
    . subst e; rw [abD]
    . rw [abE _ _ e]; exact Vz (by omega)
def afk (n:Nat) (x:Nat -> Int) (y : Nat -> Bool) : Prop := n <= 1000000
def nK (n:Nat) (x:Nat -> Int) (y : Nat -> Bool) : Nat := n
def jD (n:Nat) (x:Nat -> Int) (y : Nat -> Bool) : (Nat -> Int) := adi x y n
def AP (n:Nat) (x:Nat -> Int) (y : Nat -> Bool) : Bool := vN (fun k => fC (x k) (y k)) n
theorem abG {n : Nat} {x : Nat -> Int} {y : Nat -> Bool} (hp : n <= 1000000) {x0 : Bool -> Int -> (Nat -> Int) -> Prop} (h3 : ∀ v, x0 (vN (fun k => fC (x k) (y k)) n) v (adi x y n)) : ∀ (f i:Nat), i <= n -> n < f + i -> yM n x y f (vN (fun k => fC (x k) (y k)) i) i (adi x y i) x0
  | 0, i, h1, h2 => by omega
  | f + 1, i, h1, h2 => by
    show IK n x y _ i _ _ _
    unfold IK
    simp only [aH, true_and, Int.toNat_natCast]
    refine aC (fun hc => ?_) (fun hc => ?_)
    . rw [dY] at hc
      rw [fF (by omega) (by omega)]
      have hr := abG hp h3 f (i + 1) (by omega) (by omega)
      have e : vN (fun k => fC (x k) (y k)) (i + 1) = (vN (fun k => fC (x k) (y k)) i || fC (x i) (y i)) := rfl
      rw [e] at hr
      refine ⟨⟨by omega, hc⟩, trivial, aC (fun hd => ?_) (fun hd => ?_)⟩
      . rw [hd, Bool.true_or] at hr
        exact ⟨⟨by omega, hc⟩, by omega, hr⟩
      . rw [hd, Bool.false_or] at hr
        exact ⟨⟨by omega, hc⟩, by omega, hr⟩
    . rw [fJ] at hc
      have : i = n := by omega
      subst this
      exact h3 _
theorem auv (ig:Nat) (cm:Nat -> Int) (ge : Nat -> Bool) {K0 : Nat -> (Nat -> Int) -> Bool -> Prop} (h : afk ig cm ge) (hK : K0 (nK ig cm ge) (jD ig cm ge) (AP ig cm ge)) : adh ig cm ge K0 (yM ig cm ge fuel) := by
  unfold adh
  simp only [aH, Int.toNat_natCast]
  have hp : ig <= 1000000 := h
  exact ⟨⟨by omega, trivial, by omega, by omega⟩, abG hp (fun v => hK) fuel 0 (Nat.zero_le _) (by rw [gW]; omega)⟩
def alW (cm:Bool) (im ip:Int) (a1:Bool) (K0 : Int -> Bool -> Prop)  : Prop := Ts 6 (((0 <= (1:Int) /\ (1:Int) < ((2:Nat):Int)) /\ Ts 3 (cond (ieq ip 0) (Ts 1 (((0 <= (0:Int) /\ (0:Int) < ((2:Nat):Int)) /\ Ts 3 (cond (ile im 9223372036854775807) (Ts 1 (((0 <= (0:Int) /\ (0:Int) < ((2:Nat):Int)) /\ Ts 7 (cond cm (Ts 8 (K0 (bM .i64 (aT .i64 im)) a1)) (Ts 3 (K0 (aT .i64 im) a1)))))) (Ts 2 (cond cm (Ts 8 (K0 (bM .i64 9223372036854775807) true)) (Ts 3 (K0 9223372036854775807 true)))))))) (Ts 3 (cond cm (Ts 8 (K0 (bM .i64 9223372036854775807) true)) (Ts 3 (K0 9223372036854775807 true)))))))
def TP (cm:Bool) (im ip:Int) (a1:Bool) : Prop := True
def sD (cm:Bool) (im ip:Int) (a1:Bool) : Int := (cond (ieq ip 0) (cond (ile im 9223372036854775807) (cond cm (bM .i64 (aT .i64 im)) (aT .i64 im)) (cond cm (bM .i64 9223372036854775807) 9223372036854775807)) (cond cm (bM .i64 9223372036854775807) 9223372036854775807))
def sF (cm:Bool) (im ip:Int) (a1:Bool) : Bool := (cond (ieq ip 0) (cond (ile im 9223372036854775807) a1 true) true)
theorem auw (cm:Bool) (im ip:Int) (a1:Bool) {K0 : Int -> Bool -> Prop} (h : TP cm im ip a1) (hK : K0 (sD cm im ip a1) (sF cm im ip a1)) : alW cm im ip a1 K0  := by
 unfold alW TP sD sF at *
 simp only [aH, true_and]
 repeat' first | exact hK | (refine aC (fun c => ?_) (fun c => ?_) <;> try simp only [c, cond_true, cond_false] at h hK ⊢) | refine ⟨rfl, ?_⟩ | refine ⟨trivial, ?_⟩ | refine ⟨by decide, ?_⟩ | (refine ⟨h.1, ?_⟩; replace h := h.2) | refine ⟨h, ?_⟩
def alX (a0:Int) (K0 : Bool -> Int -> Int -> Prop)  : Prop := Ts 3 (cond (ilt a0 0) (Ts 7 (K0 true (bM .u64 (aT .u64 a0)) 0)) (Ts 6 (K0 false (aT .u64 a0) 0)))
def TQ (a0:Int) : Prop := True
def dh (a0:Int) : Bool := (cond (ilt a0 0) true false)
def bg (a0:Int) : Int := (cond (ilt a0 0) (bM .u64 (aT .u64 a0)) (aT .u64 a0))
def dK (a0:Int) : Int := 0
theorem auy (a0:Int) {K0 : Bool -> Int -> Int -> Prop} (h : TQ a0) (hK : K0 (dh a0) (bg a0) (dK a0)) : alX a0 K0  := by
 unfold alX TQ dh bg dK at *
 simp only [aH, true_and]
 repeat' first | exact hK | (refine aC (fun c => ?_) (fun c => ?_) <;> try simp only [c, cond_true, cond_false] at h hK ⊢)
def alY (cm:Bool) (im ip:Int) (K0 : Bool -> Int -> Int -> Prop)  : Prop := Ts 3 (((0 <= (0:Int) /\ (0:Int) < ((2:Nat):Int)) /\ Ts 1 (((0 <= (32:Int)) /\ Ts 1 (((0 <= (1:Int) /\ (1:Int) < ((2:Nat):Int)) /\ Ts 1 (((0 <= (32:Int)) /\ Ts 1 (((0 <= (0:Int) /\ (0:Int) < ((2:Nat):Int)) /\ Ts 1 (((0 <= (32:Int)) /\ Ts 7 (K0 cm (dL .u64 im 32) (ior .u64 (dL .u64 ip 32) (bF .u64 im 32)))))))))))))))
def adk (cm:Bool) (im ip:Int) : Prop := True
def qA (cm:Bool) (im ip:Int) : Bool := cm
def lV (cm:Bool) (im ip:Int) : Int := (dL .u64 im 32)
def jH (cm:Bool) (im ip:Int) : Int := (ior .u64 (dL .u64 ip 32) (bF .u64 im 32))
theorem auz (cm:Bool) (im ip:Int) {K0 : Bool -> Int -> Int -> Prop} (h : adk cm im ip) (hK : K0 (qA cm im ip) (lV cm im ip) (jH cm im ip)) : alY cm im ip K0  := by
 unfold alY adk qA lV jH at *
 simp only [aH, true_and]
 repeat' first | exact hK | refine ⟨rfl, ?_⟩ | refine ⟨trivial, ?_⟩ | refine ⟨by decide, ?_⟩ | (refine ⟨h.1, ?_⟩; replace h := h.2) | refine ⟨h, ?_⟩
def amI (a0 a1:Int) (K0 : Int -> Bool -> Prop)  : Prop := Ts 3 (cond (ieq a1 0) (Ts 1 (((acY a0 0) /\ Ts 4 (K0 (aI .i64 (Ap a0 0) 9223372036854775807) true)))) (Ts 1 (((TQ a0) /\ ((adk (dh a0) (bg a0) (dK a0)) /\ Ts 1 (((TQ a1) /\ Ts 5 (((0 <= (0:Int) /\ (0:Int) < ((2:Nat):Int)) /\ Ts 3 (((0 <= (1:Int) /\ (1:Int) < ((2:Nat):Int)) /\ Ts 2 ((((bg a1) ≠ 0) /\ Ts 2 (((0 <= (1:Int) /\ (1:Int) < ((2:Nat):Int)) /\ Ts 2 ((((bg a1) ≠ 0) /\ Ts 1 (((0 <= (0:Int) /\ (0:Int) < ((2:Nat):Int)) /\ Ts 2 (((ae1 (aB .u64 (jH (dh a0) (bg a0) (dK a0)) (bg a1)) (lV (dh a0) (bg a0) (dK a0)) (bg a1)) /\ Ts 5 ((true = true /\ Ts 9 (((TP (!(jL (qA (dh a0) (bg a0) (dK a0)) (dh a1))) (rZ (aB .u64 (jH (dh a0) (bg a0) (dK a0)) (bg a1)) (lV (dh a0) (bg a0) (dK a0)) (bg a1)) (gG .u64 (jH (dh a0) (bg a0) (dK a0)) (bg a1)) false) /\ Ts 2 (K0 (sD (!(jL (qA (dh a0) (bg a0) (dK a0)) (dh a1))) (rZ (aB .u64 (jH (dh a0) (bg a0) (dK a0)) (bg a1)) (lV (dh a0) (bg a0) (dK a0)) (bg a1)) (gG .u64 (jH (dh a0) (bg a0) (dK a0)) (bg a1)) false) (sF (!(jL (qA (dh a0) (bg a0) (dK a0)) (dh a1))) (rZ (aB .u64 (jH (dh a0) (bg a0) (dK a0)) (bg a1)) (lV (dh a0) (bg a0) (dK a0)) (bg a1)) (gG .u64 (jH (dh a0) (bg a0) (dK a0)) (bg a1)) false)))))))))))))))))))))))))))
def EM (a0 a1:Int) : Prop := (cond (ieq a1 0) True (((bg a1) ≠ 0) /\ (((bg a1) ≠ 0) /\ (ae1 (aB .u64 (jH (dh a0) (bg a0) (dK a0)) (bg a1)) (lV (dh a0) (bg a0) (dK a0)) (bg a1)))))
def iD (a0 a1:Int) : Int := (cond (ieq a1 0) (aI .i64 (Ap a0 0) 9223372036854775807) (sD (!(jL (qA (dh a0) (bg a0) (dK a0)) (dh a1))) (rZ (aB .u64 (jH (dh a0) (bg a0) (dK a0)) (bg a1)) (lV (dh a0) (bg a0) (dK a0)) (bg a1)) (gG .u64 (jH (dh a0) (bg a0) (dK a0)) (bg a1)) false))
def mJ (a0 a1:Int) : Bool := (cond (ieq a1 0) true (sF (!(jL (qA (dh a0) (bg a0) (dK a0)) (dh a1))) (rZ (aB .u64 (jH (dh a0) (bg a0) (dK a0)) (bg a1)) (lV (dh a0) (bg a0) (dK a0)) (bg a1)) (gG .u64 (jH (dh a0) (bg a0) (dK a0)) (bg a1)) false))
theorem avd (a0 a1:Int) {K0 : Int -> Bool -> Prop} (h : EM a0 a1) (hK : K0 (iD a0 a1) (mJ a0 a1)) : amI a0 a1 K0  := by
 unfold amI EM iD mJ at *
 simp only [aH, true_and]; try simp only [aH, true_and] at h
 repeat' first | exact hK | (refine aC (fun c => ?_) (fun c => ?_) <;> try simp only [c, cond_true, cond_false] at h hK ⊢) | refine ⟨rfl, ?_⟩ | refine ⟨trivial, ?_⟩ | refine ⟨by decide, ?_⟩ | (refine ⟨h.1, ?_⟩; replace h := h.2) | refine ⟨h, ?_⟩
def amP (a0:Int) (K0 : Int -> Bool -> Prop)  : Prop := Ts 2 (((TQ a0) /\ ((adk (dh a0) (bg a0) (dK a0)) /\ ((TP (qA (dh a0) (bg a0) (dK a0)) (lV (dh a0) (bg a0) (dK a0)) (jH (dh a0) (bg a0) (dK a0)) false) /\ Ts 2 (K0 (sD (qA (dh a0) (bg a0) (dK a0)) (lV (dh a0) (bg a0) (dK a0)) (jH (dh a0) (bg a0) (dK a0)) false) (sF (qA (dh a0) (bg a0) (dK a0)) (lV (dh a0) (bg a0) (dK a0)) (jH (dh a0) (bg a0) (dK a0)) false))))))
def X6 (a0:Int) : Prop := True
def qF (a0:Int) : Int := (sD (qA (dh a0) (bg a0) (dK a0)) (lV (dh a0) (bg a0) (dK a0)) (jH (dh a0) (bg a0) (dK a0)) false)
def oC (a0:Int) : Bool := (sF (qA (dh a0) (bg a0) (dK a0)) (lV (dh a0) (bg a0) (dK a0)) (jH (dh a0) (bg a0) (dK a0)) false)
theorem avu (a0:Int) {K0 : Int -> Bool -> Prop} (h : X6 a0) (hK : K0 (qF a0) (oC a0)) : amP a0 K0  := by
 unfold amP X6 qF oC at *
 simp only [aH, true_and]
 repeat' first | exact hK | refine ⟨rfl, ?_⟩ | refine ⟨trivial, ?_⟩ | refine ⟨by decide, ?_⟩ | (refine ⟨h.1, ?_⟩; replace h := h.2) | refine ⟨h, ?_⟩
def al1 (a0 a1:Int) (K0 : Bool -> Int -> Int -> Prop)  : Prop := Ts 2 (((TQ a0) /\ Ts 1 (((TQ a1) /\ Ts 5 (((0 <= (0:Int) /\ (0:Int) < ((2:Nat):Int)) /\ Ts 2 (((0 <= (0:Int) /\ (0:Int) < ((2:Nat):Int)) /\ Ts 1 (((afM (bg a0) (bg a1)) /\ Ts 16 (K0 (!(jL (dh a0) (dh a1))) (RV (bg a0) (bg a1)) (RU (bg a0) (bg a1)))))))))))))
def TR (a0 a1:Int) : Prop := True
def eP (a0 a1:Int) : Bool := (!(jL (dh a0) (dh a1)))
def fO (a0 a1:Int) : Int := (RV (bg a0) (bg a1))
def fH (a0 a1:Int) : Int := (RU (bg a0) (bg a1))
theorem auC (a0 a1:Int) {K0 : Bool -> Int -> Int -> Prop} (h : TR a0 a1) (hK : K0 (eP a0 a1) (fO a0 a1) (fH a0 a1)) : al1 a0 a1 K0  := by
 unfold al1 TR eP fO fH at *
 simp only [aH, true_and]
 repeat' first | exact hK | refine ⟨rfl, ?_⟩ | refine ⟨trivial, ?_⟩ | refine ⟨by decide, ?_⟩ | (refine ⟨h.1, ?_⟩; replace h := h.2) | refine ⟨h, ?_⟩
def al2 (cm:Bool) (im ip:Int) (K0 : Bool -> Int -> Int -> Prop)  : Prop := Ts 3 (((0 <= (1:Int) /\ (1:Int) < ((2:Nat):Int)) /\ Ts 1 (((0 <= (32:Int)) /\ Ts 1 (((0 <= (0:Int) /\ (0:Int) < ((2:Nat):Int)) /\ Ts 1 (((0 <= (32:Int)) /\ Ts 2 (((0 <= (1:Int) /\ (1:Int) < ((2:Nat):Int)) /\ Ts 1 (((0 <= (32:Int)) /\ Ts 6 (K0 cm (ior .u64 (dL .u64 ip 32) (bF .u64 im 32)) (bF .u64 ip 32))))))))))))))
def afl (cm:Bool) (im ip:Int) : Prop := True
def F6 (cm:Bool) (im ip:Int) : Bool := cm
def IL (cm:Bool) (im ip:Int) : Int := (ior .u64 (dL .u64 ip 32) (bF .u64 im 32))
def IQ (cm:Bool) (im ip:Int) : Int := (bF .u64 ip 32)
theorem auD (cm:Bool) (im ip:Int) {K0 : Bool -> Int -> Int -> Prop} (h : afl cm im ip) (hK : K0 (F6 cm im ip) (IL cm im ip) (IQ cm im ip)) : al2 cm im ip K0  := by
 unfold al2 afl F6 IL IQ at *
 simp only [aH, true_and]
 repeat' first | exact hK | refine ⟨rfl, ?_⟩ | refine ⟨trivial, ?_⟩ | refine ⟨by decide, ?_⟩ | (refine ⟨h.1, ?_⟩; replace h := h.2) | refine ⟨h, ?_⟩
def Ri (cm:Int) (ge:Bool) (ic:Int) (ie:Bool) : Bool := (eP (aZ cm ge) (aZ ic ie))
def Rj (cm:Int) (ge:Bool) (ic:Int) (ie:Bool) : Int := (fO (aZ cm ge) (aZ ic ie))
def Rk (cm:Int) (ge:Bool) (ic:Int) (ie:Bool) : Int := (fH (aZ cm ge) (aZ ic ie))
def VB (cm:Int) (ge:Bool) (ic:Int) (ie:Bool) : Bool := (F6 (Ri cm ge ic ie) (Rj cm ge ic ie) (Rk cm ge ic ie))
def VD (cm:Int) (ge:Bool) (ic:Int) (ie:Bool) : Int := (IL (Ri cm ge ic ie) (Rj cm ge ic ie) (Rk cm ge ic ie))
def VE (cm:Int) (ge:Bool) (ic:Int) (ie:Bool) : Int := (IQ (Ri cm ge ic ie) (Rj cm ge ic ie) (Rk cm ge ic ie))
def VF (cm:Int) (ge:Bool) (ic:Int) (ie:Bool) : Bool := (CZ 2 (ay 1 (fun _ => (aZ cm ge)) (aZ ic ie)) (ay 1 (fun _ => (fC cm ge)) (fC ic ie)))
def Za (cm:Int) (ge:Bool) (ic:Int) (ie:Bool) : Int := (sD (VB cm ge ic ie) (VD cm ge ic ie) (VE cm ge ic ie) (VF cm ge ic ie))
def Zb (cm:Int) (ge:Bool) (ic:Int) (ie:Bool) : Bool := (sF (VB cm ge ic ie) (VD cm ge ic ie) (VE cm ge ic ie) (VF cm ge ic ie))
def alp (cm:Int) (ge:Bool) (ic:Int) (ie:Bool) (K0 : Int -> Bool -> Prop)  : Prop := Ts 4 (((Fh cm ge) /\ Ts 1 (((Fh ic ie) /\ Ts 2 ((true = true /\ Ts 4 (((TR (aZ cm ge) (aZ ic ie)) /\ ((afl (Ri cm ge ic ie) (Rj cm ge ic ie) (Rk cm ge ic ie)) /\ Ts 3 (((O5 2 (ay 1 (fun _ => (aZ cm ge)) (aZ ic ie)) (ay 1 (fun _ => (fC cm ge)) (fC ic ie))) /\ ((TP (VB cm ge ic ie) (VD cm ge ic ie) (VE cm ge ic ie) (VF cm ge ic ie)) /\ Ts 1 ((true = true /\ Ts 1 (K0 (Za cm ge ic ie) (Zb cm ge ic ie))))))))))))))))
def ae0 (cm:Int) (ge:Bool) (ic:Int) (ie:Bool) : Prop := (O5 2 (ay 1 (fun _ => (aZ cm ge)) (aZ ic ie)) (ay 1 (fun _ => (fC cm ge)) (fC ic ie)))
def Am (cm:Int) (ge:Bool) (ic:Int) (ie:Bool) : Int := (Za cm ge ic ie)
def sV (cm:Int) (ge:Bool) (ic:Int) (ie:Bool) : Bool := (Zb cm ge ic ie)
theorem atL (cm:Int) (ge:Bool) (ic:Int) (ie:Bool) {K0 : Int -> Bool -> Prop} (h : ae0 cm ge ic ie) (hK : K0 (Am cm ge ic ie) (sV cm ge ic ie)) : alp cm ge ic ie K0  := by
 unfold alp ae0 Am sV at *
 simp only [aH, true_and]; try simp only [aH, true_and] at h
 repeat' first | exact hK | refine ⟨rfl, ?_⟩ | refine ⟨trivial, ?_⟩ | refine ⟨by decide, ?_⟩ | (refine ⟨h.1, ?_⟩; replace h := h.2) | refine ⟨h, ?_⟩
def amX (cm ge ic ie:Int) (K0 : Int -> Prop)  : Prop := Ts 3 (((0 <= (1:Int) /\ (1:Int) < ((2:Nat):Int)) /\ Ts 1 (((0 <= (1:Int) /\ (1:Int) < ((2:Nat):Int)) /\ Ts 1 (((ae3 ge ie) /\ ((0 <= (0:Int) /\ (0:Int) < ((2:Nat):Int)) /\ Ts 1 (((0 <= (0:Int) /\ (0:Int) < ((2:Nat):Int)) /\ Ts 1 (((ae3 cm ic) /\ Ts 1 (((ahu 2 (ay 1 (fun _ => (lT ge ie)) (lT cm ic))) /\ Ts 1 ((true = true /\ K0 (QC 2 (ay 1 (fun _ => (lT ge ie)) (lT cm ic))))))))))))))))))
def ahP (cm ge ic ie:Int) : Prop := (ahu 2 (ay 1 (fun _ => (lT ge ie)) (lT cm ic)))
def Gq (cm ge ic ie:Int) : Int := (QC 2 (ay 1 (fun _ => (lT ge ie)) (lT cm ic)))
theorem avA (cm ge ic ie:Int) {K0 : Int -> Prop} (h : ahP cm ge ic ie) (hK : K0 (Gq cm ge ic ie)) : amX cm ge ic ie K0  := by
 unfold amX ahP Gq at *
 simp only [aH, true_and]; try simp only [aH, true_and] at h
 repeat' first | exact hK | refine ⟨rfl, ?_⟩ | refine ⟨trivial, ?_⟩ | refine ⟨by decide, ?_⟩ | (refine ⟨h.1, ?_⟩; replace h := h.2) | refine ⟨h, ?_⟩
def al5 (cm:Bool) (im ip:Int) (ic:Bool) (i9 ja:Int) (K0 : Bool -> Int -> Int -> Prop)  : Prop := Ts 8 (cond (jL cm ic) (Ts 1 (((0 <= (0:Int) /\ (0:Int) < ((2:Nat):Int)) /\ Ts 2 (((0 <= (0:Int) /\ (0:Int) < ((2:Nat):Int)) /\ Ts 1 (((kG im i9 0) /\ Ts 6 (((0 <= (1:Int) /\ (1:Int) < ((2:Nat):Int)) /\ Ts 2 (((0 <= (1:Int) /\ (1:Int) < ((2:Nat):Int)) /\ Ts 2 (((kG ip ja (fB im i9 0)) /\ Ts 13 (K0 cm (fA im i9 0) (fA ip ja (fB im i9 0)))))))))))))))) (Ts 4 (((ahP im ip i9 ja) /\ Ts 1 (cond (ilt (Gq im ip i9 ja) 0) (Ts 5 (((0 <= (0:Int) /\ (0:Int) < ((2:Nat):Int)) /\ Ts 2 (((0 <= (0:Int) /\ (0:Int) < ((2:Nat):Int)) /\ Ts 1 (((fU i9 im 0) /\ Ts 6 (((0 <= (1:Int) /\ (1:Int) < ((2:Nat):Int)) /\ Ts 2 (((0 <= (1:Int) /\ (1:Int) < ((2:Nat):Int)) /\ Ts 2 (((fU ja ip (bn i9 im 0)) /\ Ts 13 (K0 ic (aQ i9 im 0) (aQ ja ip (bn i9 im 0)))))))))))))))) (Ts 1 (((0 <= (0:Int) /\ (0:Int) < ((2:Nat):Int)) /\ Ts 2 (((0 <= (0:Int) /\ (0:Int) < ((2:Nat):Int)) /\ Ts 1 (((fU im i9 0) /\ Ts 6 (((0 <= (1:Int) /\ (1:Int) < ((2:Nat):Int)) /\ Ts 2 (((0 <= (1:Int) /\ (1:Int) < ((2:Nat):Int)) /\ Ts 2 (((fU ip ja (bn im i9 0)) /\ Ts 13 (K0 cm (aQ im i9 0) (aQ ip ja (bn im i9 0)))))))))))))))))))))
def O6 (cm:Bool) (im ip:Int) (ic:Bool) (i9 ja:Int) : Prop := (cond (jL cm ic) ((kG im i9 0) /\ (kG ip ja (fB im i9 0))) ((ahP im ip i9 ja) /\ (cond (ilt (Gq im ip i9 ja) 0) ((fU i9 im 0) /\ (fU ja ip (bn i9 im 0))) ((fU im i9 0) /\ (fU ip ja (bn im i9 0))))))
def wu (cm:Bool) (im ip:Int) (ic:Bool) (i9 ja:Int) : Bool := (cond (jL cm ic) cm (cond (ilt (Gq im ip i9 ja) 0) ic cm))
def uG (cm:Bool) (im ip:Int) (ic:Bool) (i9 ja:Int) : Int := (cond (jL cm ic) (fA im i9 0) (cond (ilt (Gq im ip i9 ja) 0) (aQ i9 im 0) (aQ im i9 0)))
def uH (cm:Bool) (im ip:Int) (ic:Bool) (i9 ja:Int) : Int := (cond (jL cm ic) (fA ip ja (fB im i9 0)) (cond (ilt (Gq im ip i9 ja) 0) (aQ ja ip (bn i9 im 0)) (aQ ip ja (bn im i9 0))))
theorem auG (cm:Bool) (im ip:Int) (ic:Bool) (i9 ja:Int) {K0 : Bool -> Int -> Int -> Prop} (h : O6 cm im ip ic i9 ja) (hK : K0 (wu cm im ip ic i9 ja) (uG cm im ip ic i9 ja) (uH cm im ip ic i9 ja)) : al5 cm im ip ic i9 ja K0  := by
 unfold al5 O6 wu uG uH at *
 simp only [aH, true_and]; try simp only [aH, true_and] at h
 repeat' first | exact hK | (refine aC (fun c => ?_) (fun c => ?_) <;> try simp only [c, cond_true, cond_false] at h hK ⊢) | refine ⟨rfl, ?_⟩ | refine ⟨trivial, ?_⟩ | refine ⟨by decide, ?_⟩ | (refine ⟨h.1, ?_⟩; replace h := h.2) | refine ⟨h, ?_⟩
theorem uT (v:Int) (f:Bool) : aZ v f = whole v := jQ v f
theorem GI (v:Int) (f:Bool) : fC v f = dP v f := rfl
theorem apQ (a:Int) : bM .u64 a = (-a) % 18446744073709551616 := by
  rw [Pj]
  show IntKind.u64.wrap (0 - a) = _
  rw [Kr, Int.zero_sub]
theorem Rn {v : Int} (hv : Num' v) : dh v = ilt v 0 /\ bg v = max v (-v) /\ dK v = 0 /\ VW (dh v) (dK v) (bg v) = v := by
  obtain ⟨h1, h2⟩ := hv
  have e0 : dh v = ilt v 0 := by unfold dh; cases ilt v 0 <;> rfl
  have e1 : bg v = max v (-v) := by
    unfold bg
    by_cases h : v < 0
    . rw [dY.2 h, cond_true, apQ, Lr]; omega
    . rw [fJ.2 (by omega), cond_false, Lr]; omega
  refine ⟨e0, e1, rfl, ?_⟩
  rw [e0, e1]
  show VW (ilt v 0) 0 (max v (-v)) = v
  by_cases h : v < 0
  . rw [dY.2 h, oH]; omega
  . rw [fJ.2 (by omega), pO]; omega
theorem Ro {a b : Int} (ha : Num' a) (hb : Num' b) : U64 (fO a b) /\ U64 (fH a b) /\ VW (eP a b) (fH a b) (fO a b) = a * b /\ fH a b < 4611686018427387904 := by
  obtain ⟨a0, a1, a2, a3⟩ := Rn ha
  obtain ⟨b0, b1, b2, b3⟩ := Rn hb
  have ua : U64 (max a (-a)) := by obtain ⟨_, _⟩ := ha; exact ⟨by omega, by omega⟩
  have ub : U64 (max b (-b)) := by obtain ⟨_, _⟩ := hb; exact ⟨by omega, by omega⟩
  have e2 : fH a b = max (a * b) (-(a * b)) / 18446744073709551616 := by
    unfold fH
    rw [a1, b1, XK ua ub, yD]
  have e1 : fO a b = max (a * b) (-(a * b)) % 18446744073709551616 := by
    unfold fO
    rw [a1, b1, XL, yD]
  have hle : max (a * b) (-(a * b)) <= 9223372036854775807 * 9223372036854775807 := by
    rw [yD]
    obtain ⟨_, _⟩ := ha
    obtain ⟨_, _⟩ := hb
    exact Int.mul_le_mul (by omega) (by omega) (by omega) (by omega)
  have e0 : eP a b = !(jL (ilt a 0) (ilt b 0)) := by unfold eP; rw [a0, b0]
  rw [e0, e1, e2]
  have hv : ∀ z : Int, z / 18446744073709551616 * 18446744073709551616 + z % 18446744073709551616 = z := fun z => by omega
  refine ⟨⟨by omega, by omega⟩, ⟨by omega, by omega⟩, ?_, by omega⟩
  unfold VW
  rw [hv]
  by_cases h1 : a < 0 <;> by_cases h2 : b < 0
  . rw [dY.2 h1, dY.2 h2, jU]
    have := Int.mul_pos_of_neg_of_neg h1 h2
    show max (a * b) (-(a * b)) = a * b
    omega
  . rw [dY.2 h1, fJ.2 (by omega), jU]
    have := Int.mul_nonpos_of_nonpos_of_nonneg (show a <= 0 by omega) (show 0 <= b by omega)
    show -(max (a * b) (-(a * b))) = a * b
    omega
  . rw [fJ.2 (by omega), dY.2 h2, jU]
    have := Int.mul_nonpos_of_nonneg_of_nonpos (show 0 <= a by omega) (show b <= 0 by omega)
    show -(max (a * b) (-(a * b))) = a * b
    omega
  . rw [fJ.2 (by omega), fJ.2 (by omega), jU]
    have := Int.mul_nonneg (show 0 <= a by omega) (show 0 <= b by omega)
    show max (a * b) (-(a * b)) = a * b
    omega
theorem apR (a b:Int) : lT a b = if a < b then -1 else if b < a then 1 else 0 := by
  unfold lT yZ
  rw [tZ.2 (rfl : a = a), tZ.2 (rfl : b = b)]
  simp only [cond_false]
  by_cases h : a < b
  . rw [dY.2 h, cond_true, if_pos h]
  . rw [fJ.2 (by omega), cond_false, if_neg h]
    by_cases g : b < a
    . rw [qY.2 g, cond_true, if_pos g]
    . rw [nV.2 (by omega), cond_false, if_neg g]
theorem Y6 {al ah bl bh : Int} (h1 : U64 al) (h2 : U64 bl) : ilt (Gq al ah bl bh) 0 = true ↔ ah * 18446744073709551616 + al < bh * 18446744073709551616 + bl := by
  obtain ⟨_, _⟩ := h1
  obtain ⟨_, _⟩ := h2
  unfold Gq QC
  have e : orN (ay 1 (fun _ => lT ah bh) (lT al bl)) 2 = if lT ah bh = 0 then lT al bl else lT ah bh := by
    show (if (if (0:Int) = 0 then lT ah bh else 0) = 0 then lT al bl else (if (0:Int) = 0 then lT ah bh else 0)) = _
    rw [if_pos rfl]
  rw [e, dY, apR, apR]
  split <;> split <;> (try split) <;> (try split) <;> omega
theorem C9 {a : Bool} {ah al : Int} {b : Bool} {bh bl : Int} (h1 : U64 al) (h2 : U64 ah) (h3 : U64 bl) (h4 : U64 bh) (ha : ah < 9223372036854775808) (hb : bh < 9223372036854775808) :
    O6 a al ah b bl bh /\ U64 (uG a al ah b bl bh) /\ U64 (uH a al ah b bl bh) /\ VW (wu a al ah b bl bh) (uH a al ah b bl bh) (uG a al ah b bl bh) = VW a ah al + VW b bh bl := by
  have hc := Y6 (ah := ah) (bh := bh) h1 h3
  obtain ⟨a1, a2⟩ := h1
  obtain ⟨a3, a4⟩ := h2
  obtain ⟨b1, b2⟩ := h3
  obtain ⟨b3, b4⟩ := h4
  have sub : ∀ {xl xh yl yh : Int}, U64 xl -> U64 xh -> U64 yl -> U64 yh -> (yh * 18446744073709551616 + yl <= xh * 18446744073709551616 + xl) -> fU xl yl 0 /\ fU xh yh (bn xl yl 0) /\ U64 (aQ xl yl 0) /\ U64 (aQ xh yh (bn xl yl 0)) /\ aQ xh yh (bn xl yl 0) * 18446744073709551616 + aQ xl yl 0 = xh * 18446744073709551616 + xl - (yh * 18446744073709551616 + yl) := by
    intro xl xh yl yh ⟨_, _⟩ ⟨_, _⟩ ⟨_, _⟩ ⟨_, _⟩ hle
    refine ⟨⟨by omega, by omega, by omega, by omega⟩, ⟨by omega, by omega, by omega, ?_, ?_⟩, ?_, ?_, ?_⟩
    . unfold bn; split <;> omega
    . unfold bn; split <;> omega
    . unfold aQ; exact ⟨by omega, by omega⟩
    . unfold aQ; exact ⟨by omega, by omega⟩
    . unfold aQ bn; split <;> omega
  unfold O6 wu uG uH
  cases hs : jL a b with
  | true =>
    have : a = b := by rw [jU] at hs; exact eq_of_beq hs
    subst this
    simp only [cond_true]
    have u1 : U64 (fA al bl 0) := by unfold fA; exact ⟨by omega, by omega⟩
    have u2 : U64 (fA ah bh (fB al bl 0)) := by unfold fA; exact ⟨by omega, by omega⟩
    refine ⟨⟨⟨a1, b1, by omega, by omega⟩, ⟨a3, b3, ?_, ?_⟩⟩, u1, u2, ?_⟩
    . unfold fB; omega
    . unfold fB; omega
    . unfold fA fB
      cases a
      . rw [pO, pO, pO]; omega
      . rw [oH, oH, oH]; omega
  | false =>
    have hne : a ≠ b := fun h => by subst h; rw [jU] at hs; simp at hs
    simp only [cond_false]
    cases hl : ilt (Gq al ah bl bh) 0 with
    | true =>
      obtain ⟨p1, p2, u1, u2, e⟩ := sub (xl := bl) (xh := bh) (yl := al) (yh := ah) ⟨b1, b2⟩ ⟨b3, b4⟩ ⟨a1, a2⟩ ⟨a3, a4⟩ (by have := hc.1 hl; omega)
      simp only [cond_true]
      refine ⟨⟨(by show 2 <= 1000000; decide), p1, p2⟩, u1, u2, ?_⟩
      cases a <;> cases b <;> first | exact absurd rfl hne | (simp only [oH, pO]; omega)
    | false =>
      obtain ⟨p1, p2, u1, u2, e⟩ := sub (xl := al) (xh := ah) (yl := bl) (yh := bh) ⟨a1, a2⟩ ⟨a3, a4⟩ ⟨b1, b2⟩ ⟨b3, b4⟩ (by
        rcases qG (ah * 18446744073709551616 + al) (bh * 18446744073709551616 + bl) with h | h
        . rw [hc.2 h] at hl; cases hl
        . exact h)
      simp only [cond_false]
      refine ⟨⟨(by show 2 <= 1000000; decide), p1, p2⟩, u1, u2, ?_⟩
      cases a <;> cases b <;> first | exact absurd rfl hne | (simp only [oH, pO]; omega)
theorem Rq {neg : Bool} {lo hi : Int} (h1 : U64 lo) (h2 : U64 hi) : U64 (IL neg lo hi) /\ U64 (IQ neg lo hi) /\ VW (F6 neg lo hi) (IQ neg lo hi) (IL neg lo hi) = tq (VW neg hi lo) := by
  obtain ⟨g1, g2, g3⟩ := Px (neg := neg) h2 h1
  refine ⟨g2, g1, ?_⟩
  show VW neg (tC neg hi lo) (yR neg hi lo) = _
  obtain ⟨_, _⟩ := h1
  obtain ⟨_, _⟩ := h2
  cases neg
  . rw [pO, pO, g3]
    unfold tq
    rw [if_neg (by omega)]
  . rw [oH, oH, g3]
    unfold tq
    by_cases h : -(hi * 18446744073709551616 + lo) < 0
    . rw [if_pos h, Int.neg_neg]
    . rw [if_neg h]; omega
theorem Rt {neg : Bool} {lo hi : Int} (h1 : U64 lo) (h2 : 0 <= hi /\ hi < 4294967296) : U64 (lV neg lo hi) /\ U64 (jH neg lo hi) /\ jH neg lo hi * 18446744073709551616 + lV neg lo hi = (hi * 18446744073709551616 + lo) * 4294967296 := by
  obtain ⟨g1, g2, g3⟩ := XM (neg := neg) h2 h1
  exact ⟨g2, g1, g3⟩
theorem uI {neg : Bool} {lo hi : Int} (h1 : U64 lo) (h2 : U64 hi) (f:Bool) : sD neg lo hi f = vK (VW neg hi lo) /\ sF neg lo hi f = (f || vM (VW neg hi lo)) := by
  obtain ⟨g1, g2⟩ := FV (neg := neg) h2 h1 f
  rw [<- g1, <- g2]
  unfold sD sF qQ qR
  by_cases h : hi = 0
  . rw [kE.2 h, tZ.2 h]
    simp only [cond_true, cond_false]
    by_cases g : lo <= 9223372036854775807
    . rw [Xy.2 g, nV.2 g]; exact ⟨rfl, rfl⟩
    . rw [Qh.2 (by omega), qY.2 (by omega)]; exact ⟨rfl, rfl⟩
  . rw [vI.2 h, tY.2 h]; exact ⟨rfl, rfl⟩
theorem XQ {v : Int} (hv : Num' v) : X6 v /\ qF v = vK (v * 4294967296) /\ oC v = vM (v * 4294967296) := by
  unfold qF oC
  obtain ⟨e0, e1, e2, e3⟩ := Rn hv
  have u1 : U64 (bg v) := by rw [e1]; obtain ⟨_, _⟩ := hv; exact ⟨by omega, by omega⟩
  obtain ⟨g1, g2, g3⟩ := Rt (neg := dh v) u1 (hi := dK v) (by rw [e2]; omega)
  obtain ⟨f1, f2⟩ := uI (neg := qA (dh v) (bg v) (dK v)) g1 g2 false
  have hv : VW (qA (dh v) (bg v) (dK v)) (jH (dh v) (bg v) (dK v)) (lV (dh v) (bg v) (dK v)) = v * 4294967296 := by
    have h0 : qA (dh v) (bg v) (dK v) = dh v := rfl
    unfold VW at e3 ⊢
    rw [g3, h0]
    cases hh : dh v <;> rw [hh] at e3
    . rw [aty] at e3 ⊢; omega
    . rw [atx] at e3 ⊢; omega
  rw [hv] at f1 f2
  rw [f1, f2, Bool.false_or]
  exact ⟨trivial, rfl, rfl⟩
theorem afn {v w : Int} {f g : Bool} (hv : Num' v) (hw : Num' w) : ae0 v f w g /\ Am v f w g = vK (tq (v * w)) /\ sV v f w g = (f || g || vM (tq (v * w))) := by
  unfold ae0 Am sV
  simp only [Ri, Rj, Rk, VB, VD, VE, VF, Za, Zb]
  simp only [uT, GI, eX hv, eX hw, dX hv, dX hw, Y3]
  obtain ⟨h1, h2, h3, h4⟩ := Ro hv hw
  obtain ⟨d1, d2, d3⟩ := Rq (neg := eP v w) h1 h2
  rw [h3] at d3
  obtain ⟨e1, e2⟩ := uI (neg := F6 (eP v w) (fO v w) (fH v w)) d1 d2 (f || g)
  rw [d3] at e1 e2
  exact ⟨(by show 2 <= 1000000; decide), e1, e2⟩
def IC (ig:Nat) (cm:Nat -> Int) (ge : Nat -> Bool) (kd:Int) (k8:Bool) (k9 lc:Int) (c x0 : Int -> Bool -> Int -> Int -> Prop)  : Prop := Ts 1 (cond (ilt kd (((nK ig cm ge):Nat):Int)) (((0 <= kd /\ kd < (((nK ig cm ge):Nat):Int)) /\ Ts 4 (((TQ ((jD ig cm ge) (Int.toNat kd))) /\ ((O6 k8 k9 lc (dh ((jD ig cm ge) (Int.toNat kd))) (bg ((jD ig cm ge) (Int.toNat kd))) (dK ((jD ig cm ge) (Int.toNat kd)))) /\ Ts 1 ((true = true /\ Ts 2 (c (au .i64 kd 1) (wu k8 k9 lc (dh ((jD ig cm ge) (Int.toNat kd))) (bg ((jD ig cm ge) (Int.toNat kd))) (dK ((jD ig cm ge) (Int.toNat kd)))) (uG k8 k9 lc (dh ((jD ig cm ge) (Int.toNat kd))) (bg ((jD ig cm ge) (Int.toNat kd))) (dK ((jD ig cm ge) (Int.toNat kd)))) (uH k8 k9 lc (dh ((jD ig cm ge) (Int.toNat kd))) (bg ((jD ig cm ge) (Int.toNat kd))) (dK ((jD ig cm ge) (Int.toNat kd)))))))))))) (x0 kd k8 k9 lc))
def yI (ig:Nat) (cm:Nat -> Int) (ge : Nat -> Bool) : Nat -> Int -> Bool -> Int -> Int -> (Int -> Bool -> Int -> Int -> Prop) -> Prop
  | 0, _, _, _, _, _ => False
  | f + 1, w0, w1, w2, w3, x0 => IC ig cm ge w0 w1 w2 w3 (fun u0 u1 u2 u3 => yI ig cm ge f u0 u1 u2 u3 x0) x0 
theorem abT (ig:Nat) (cm:Nat -> Int) (ge : Nat -> Bool) (kd:Int) (k8:Bool) (k9 lc:Int) {c c' : Int -> Bool -> Int -> Int -> Prop} {x0 y0 : Int -> Bool -> Int -> Int -> Prop} (hc : ∀ w0 w1 w2 w3, c w0 w1 w2 w3 -> c' w0 w1 w2 w3) (h0 : ∀ o0 o1 o2 o3, x0 o0 o1 o2 o3 -> y0 o0 o1 o2 o3) : IC ig cm ge kd k8 k9 lc c x0  -> IC ig cm ge kd k8 k9 lc c' y0  := by
  unfold IC
  repeat' first
    | exact hc _ _ _ _
    | exact h0 _ _ _ _
    | refine dU ?_
    | refine cO ?_ ?_
    | refine cZ ?_
theorem ab1 (ig:Nat) (cm:Nat -> Int) (ge : Nat -> Bool) {x0 y0 : Int -> Bool -> Int -> Int -> Prop} (h0 : ∀ o0 o1 o2 o3, x0 o0 o1 o2 o3 -> y0 o0 o1 o2 o3) : ∀ (f:Nat) (kd:Int) (k8:Bool) (k9:Int) (lc:Int), yI ig cm ge f kd k8 k9 lc x0 -> yI ig cm ge f kd k8 k9 lc y0
  | 0, w0, w1, w2, w3 => fun h => h
  | f + 1, w0, w1, w2, w3 => abT ig cm ge w0 w1 w2 w3 (fun u0 u1 u2 u3 => ab1 ig cm ge h0 f u0 u1 u2 u3) h0
def amx (ig:Nat) (cm:Nat -> Int) (ge : Nat -> Bool) (K0 : Int -> Bool -> Prop) (l0 : Int -> Bool -> Int -> Int -> (Int -> Bool -> Int -> Int -> Prop) -> Prop) : Prop := Ts 2 (((afk ig cm ge) /\ Ts 9 ((l0 0 false 0 0 (fun ol oo oq ot => Ts 2 (((TP oo oq ot (AP ig cm ge)) /\ Ts 2 (K0 (sD oo oq ot (AP ig cm ge)) (sF oo oq ot (AP ig cm ge))))))))))
def afK (n:Nat) (x:Nat -> Int) (y : Nat -> Bool) : Prop := n <= 1000000 /\ ∀ k, k < n -> TN (x k)
def sH (n:Nat) (x:Nat -> Int) (y : Nat -> Bool) : Int := vK (yH x n)
def uO (n:Nat) (x:Nat -> Int) (y : Nat -> Bool) : Bool := kR n x y || vM (yH x n)
theorem afo {neg : Bool} {hi lo : Int} (h1 : U64 hi) (h2 : U64 lo) {m : Int} (hm : 0 <= m) (hv : -(m * 18446744073709551616) <= VW neg hi lo /\ VW neg hi lo <= m * 18446744073709551616) : hi <= m := by
  obtain ⟨a1, a2⟩ := h1
  obtain ⟨b1, b2⟩ := h2
  cases neg
  . rw [pO] at hv; omega
  . rw [oH] at hv; omega
theorem ab2 {n : Nat} {x : Nat -> Int} {y : Nat -> Bool} (hp : afK n x y) {x0 : Int -> Bool -> Int -> Int -> Prop} (h3 : ∀ v neg lo hi, U64 lo -> U64 hi -> VW neg hi lo = yH x n -> x0 v neg lo hi) : ∀ (f i:Nat) (neg:Bool) (lo hi:Int), i <= n -> n < f + i -> U64 lo -> U64 hi -> VW neg hi lo = yH x i -> yI n x y f i neg lo hi x0
  | 0, i, _, _, _, h1, h2, _, _, _ => by omega
  | f + 1, i, neg, lo, hi, h1, h2, ul, uh, hv => by
    show IC n x y i _ _ _ _ _
    unfold IC
    simp only [aH, true_and, Int.toNat_natCast]
    refine aC (fun hc => ?_) (fun hc => ?_)
    . rw [dY] at hc
      have hin : i < n := by have : ((nK n x y:Nat):Int) = (n:Int) := rfl; omega
      have hn := hp.1
      have hb := Vq hp.2 (n := i) (by omega)
      have hs : hi <= 1000000 := afo uh ul (by omega) (by rw [hv]; omega)
      have hw := BN (hp.2 i hin)
      have ev : jD n x y i = whole (x i) := (Vz hin).trans (uT _ _)
      rw [ev]
      obtain ⟨e0, e1, e2, e3⟩ := Rn hw
      have u1 : U64 (bg (whole (x i))) := by rw [e1]; obtain ⟨_, _⟩ := hw; exact ⟨by omega, by omega⟩
      have u2 : U64 (dK (whole (x i))) := by rw [e2]; exact ⟨by omega, by omega⟩
      obtain ⟨p, q1, q2, q3⟩ := C9 (a := neg) (b := dh (whole (x i))) ul uh u1 u2 (by omega) (by rw [e2]; omega)
      refine ⟨⟨by omega, hc⟩, trivial, p, ?_⟩
      rw [fF (by omega) (by omega)]
      exact ab2 hp h3 f (i + 1) _ _ _ (by omega) (by omega) q1 q2 (by rw [q3, hv, e3]; rfl)
    . rw [fJ] at hc
      have : i = n := by have : ((nK n x y:Nat):Int) = (n:Int) := rfl; omega
      subst this
      exact h3 _ _ _ _ ul uh hv
theorem ava (ig:Nat) (cm:Nat -> Int) (ge : Nat -> Bool) {K0 : Int -> Bool -> Prop} (h : afK ig cm ge) (hK : K0 (sH ig cm ge) (uO ig cm ge)) : amx ig cm ge K0 (yI ig cm ge fuel) := by
  unfold amx
  simp only [aH]
  refine ⟨h.1, ab2 h (fun v neg lo hi ul uh hv => ?_) fuel 0 false 0 0 (Nat.zero_le _) (by rw [gW]; have := h.1; omega) ⟨by omega, by omega⟩ ⟨by omega, by omega⟩ rfl⟩
  obtain ⟨g1, g2⟩ := uI (neg := neg) ul uh (AP ig cm ge)
  rw [hv] at g1 g2
  refine ⟨trivial, ?_⟩
  rw [g1, g2]
  exact hK
def alB (cm:Int) (ge:Bool) (K0 : Int -> Bool -> Prop)  : Prop := Ts 3 (((Fh cm ge) /\ Ts 9 (K0 (bM .i64 (aZ cm ge)) (fC cm ge))))
def O1 (cm:Int) (ge:Bool) : Prop := True
def oD (cm:Int) (ge:Bool) : Int := (bM .i64 (aZ cm ge))
def oG (cm:Int) (ge:Bool) : Bool := (fC cm ge)
theorem atY (cm:Int) (ge:Bool) {K0 : Int -> Bool -> Prop} (h : O1 cm ge) (hK : K0 (oD cm ge) (oG cm ge)) : alB cm ge K0  := by
 unfold alB O1 oD oG at *
 simp only [aH, true_and]
 repeat' first | exact hK | refine ⟨rfl, ?_⟩ | refine ⟨trivial, ?_⟩ | refine ⟨by decide, ?_⟩ | (refine ⟨h.1, ?_⟩; replace h := h.2) | refine ⟨h, ?_⟩
theorem F7 {v : Int} {f : Bool} (hv : Num' v) : oD v f = -v /\ oG v f = f := by
  unfold oD oG
  rw [uT, GI, eX hv, dX hv, rF hv.1 hv.2]
  exact ⟨rfl, rfl⟩
theorem neg_num {v : Int} (hv : Num' v) : Num' (-v) := by obtain ⟨_, _⟩ := hv; exact ⟨by omega, by omega⟩
theorem afp {v : Int} (hv : Num' v) : TN v := by obtain ⟨_, _⟩ := hv; exact ⟨by omega, by omega⟩
theorem sJ (v:Int) : Num' (vK v) := pV v
theorem ahA {hi lo d : Int} (hd : 0 < d) (hl : U64 lo) : 0 <= ((hi - hi / d * d) * 18446744073709551616 + lo) / d /\ ((hi - hi / d * d) * 18446744073709551616 + lo) / d < 18446744073709551616 /\ hi / d * 18446744073709551616 + ((hi - hi / d * d) * 18446744073709551616 + lo) / d = (hi * 18446744073709551616 + lo) / d := by
  obtain ⟨l1, l2⟩ := hl
  obtain ⟨q1, q2⟩ := kF (x := hi) (y := d) hd
  rw [Int.add_mul, Int.one_mul] at q2
  generalize hi / d = q at *
  obtain ⟨c1, c2⟩ := kF (x := (hi - q * d) * 18446744073709551616 + lo) (y := d) hd
  rw [Int.add_mul, Int.one_mul] at c2
  refine ⟨Int.ediv_nonneg (by omega) (by omega), Int.ediv_lt_of_lt_mul hd (by omega), ?_⟩
  symm
  refine FU hd ?_ ?_
  . rw [Int.add_mul, Int.mul_right_comm]; omega
  . rw [Int.add_mul, Int.add_mul, Int.one_mul, Int.mul_right_comm]; omega
theorem Y7 {a b : Int} (ha : Num' a) (hb : Num' b) (h0 : b ≠ 0) : EM a b /\ iD a b = vK (dq a b) /\ mJ a b = vM (dq a b) := by
  unfold EM iD mJ
  rw [vI.2 h0]
  simp only [cond_false]
  obtain ⟨a0, a1, a2, a3⟩ := Rn ha
  obtain ⟨b0, b1, b2, b3⟩ := Rn hb
  have u1 : U64 (bg a) := by rw [a1]; obtain ⟨_, _⟩ := ha; exact ⟨by omega, by omega⟩
  have d0 : 1 <= bg b /\ bg b < 9223372036854775808 := by rw [b1]; obtain ⟨_, _⟩ := hb; omega
  obtain ⟨g1, g2, g3⟩ := Rt (neg := dh a) u1 (hi := dK a) (by rw [a2]; omega)
  have e0 : qA (dh a) (bg a) (dK a) = dh a := rfl
  rw [e0]
  have hd : dq a b = sg (!(jL (ilt a 0) (ilt b 0))) (bg a * 4294967296 / bg b) := by unfold dq; rw [a1, b1]
  have hz : dK a * 18446744073709551616 + bg a = bg a := by rw [a2]; omega
  rw [hz] at g3
  rw [hd, <- a0, <- b0]
  generalize lV (dh a) (bg a) (dK a) = lo at *
  generalize jH (dh a) (bg a) (dK a) = hi at *
  generalize bg b = d at *
  generalize bg a * 4294967296 = N at *
  obtain ⟨l1, l2⟩ := g1
  obtain ⟨r1, r2⟩ := g2
  obtain ⟨q1, q2⟩ := kF (x := hi) (y := d) (by omega)
  have q0 := Int.ediv_nonneg r1 (show 0 <= d by omega)
  have ql := Int.ediv_le_self d r1
  rw [aje r1, aeY ⟨r1, r2⟩ (by omega)]
  rw [Int.add_mul, Int.one_mul] at q2
  have hrem : 0 <= hi - hi / d * d /\ hi - hi / d * d < d := by omega
  have m0 := ahA (hi := hi) (lo := lo) (d := d) (by omega) ⟨l1, l2⟩
  unfold rZ
  obtain ⟨k1, k2, k3⟩ := m0
  rw [g3] at k3
  obtain ⟨f1, f2⟩ := uI (neg := !(jL (dh a) (dh b))) (lo := ((hi - hi / d * d) * 18446744073709551616 + lo) / d) (hi := hi / d) ⟨k1, k2⟩ ⟨q0, by omega⟩ false
  have hv : ∀ neg, VW neg (hi / d) (((hi - hi / d * d) * 18446744073709551616 + lo) / d) = sg neg (N / d) := fun neg => by
    unfold VW
    rw [k3]
  rw [hv] at f1 f2
  refine ⟨⟨by omega, by omega, ⟨hrem.1, by omega⟩, ⟨l1, l2⟩, ⟨by omega, by omega⟩, hrem.2⟩, f1, ?_⟩
  rw [f2, Bool.false_or]
theorem apS {v w : Int} (hv : Num' v) (hw : Num' w) : yH (ay 1 (fun _ => v) w) 2 = v + w := by
  show 0 + whole v + whole w = v + w
  rw [eX hv, eX hw]; omega
theorem XR {v w : Int} {f g : Bool} (hv : Num' v) (hw : Num' w) : kR 2 (ay 1 (fun _ => v) w) (ay 1 (fun _ => f) g) = (f || g) := by
  unfold kR
  rw [apP]
  show (dP v f || dP w g) = _
  rw [dX hv, dX hw]
theorem KE {v w : Int} (hv : Num' v) (hw : Num' w) : ∀ k, k < 2 -> TN (ay 1 (fun _ => v) w k) := fun k hk => by
  have : k = 0 \/ k = 1 := by omega
  rcases this with rfl | rfl
  . exact afp hv
  . exact afp hw
theorem adn {v w : Int} {f g : Bool} (hv : Num' v) (hw : Num' w) : afK 2 (ay 1 (fun _ => v) w) (ay 1 (fun _ => f) g) /\ sH 2 (ay 1 (fun _ => v) w) (ay 1 (fun _ => f) g) = vK (v + w) /\ uO 2 (ay 1 (fun _ => v) w) (ay 1 (fun _ => f) g) = (f || g || vM (v + w)) := by
  unfold sH uO
  rw [apS hv hw, XR hv hw]
  exact ⟨⟨by omega, KE hv hw⟩, rfl, rfl⟩
theorem afq {v w : Int} {f g : Bool} (hv : Num' v) (hw : Num' w) : O4 2 (ay 1 (fun _ => v) w) (ay 1 (fun _ => f) g) /\ rH 2 (ay 1 (fun _ => v) w) (ay 1 (fun _ => f) g) = vK (v + w) /\ pY 2 (ay 1 (fun _ => v) w) (ay 1 (fun _ => f) g) = (f || g || vM (v + w)) := by
  unfold rH pY
  rw [apS hv hw, XR hv hw]
  exact ⟨⟨by omega, KE hv hw⟩, rfl, rfl⟩
theorem afr {v : Int} (hv : Num' v) : X6 v /\ ac5 v /\ qF v = eG v /\ oC v = eH v /\ Num' (eG v) := by
  obtain ⟨p1, e1, e2⟩ := XQ hv
  obtain ⟨g1, g2⟩ := YT hv
  exact ⟨p1, trivial, by rw [e1, g1], by rw [e2, g2], by rw [g1]; exact sJ _⟩
theorem VH {v w : Int} {f g : Bool} (hv : Num' v) (hw : Num' w) : ae0 v f w g /\ XO v f w g /\ Am v f w g = bG v f w g /\ sV v f w g = bK v f w g /\ Num' (bG v f w g) := by
  obtain ⟨p1, e1, e2⟩ := afn (f := f) (g := g) hv hw
  obtain ⟨g1, g2⟩ := YS (f := f) (g := g) hv hw
  exact ⟨p1, trivial, by rw [e1, g1], by rw [e2, g2], by rw [g1]; exact sJ _⟩
theorem afs {v : Int} {f : Bool} (hv : Num' v) : oD v f = nJ v f /\ oG v f = gQ v f /\ Num' (nJ v f) := by
  obtain ⟨e1, e2⟩ := F7 (f := f) hv
  obtain ⟨g1, g2⟩ := QE (f := f) hv
  exact ⟨by rw [e1, g1], by rw [e2, g2], by rw [g1]; exact neg_num hv⟩
theorem al7 {v w : Int} {f g : Bool} (hv : Num' v) (hw : Num' w) : YW v f w g /\ Gu v f w g = vK (v - w) /\ O7 v f w g = (f || g || vM (v - w)) := by
  unfold YW Gu O7
  rw [(QE hw).1, (QE hw).2]
  have := afq (f := f) (g := g) hv (neg_num hw)
  rwa [<- Int.sub_eq_add_neg] at this
def aly (cm:Int) (ge:Bool) (ic:Int) (ie:Bool) (K0 : Int -> Bool -> Prop)  : Prop := Ts 5 (((O1 ic ie) /\ Ts 1 (((afK 2 (ay 1 (fun _ => cm) (oD ic ie)) (ay 1 (fun _ => ge) (oG ic ie))) /\ Ts 1 ((true = true /\ Ts 1 (K0 (sH 2 (ay 1 (fun _ => cm) (oD ic ie)) (ay 1 (fun _ => ge) (oG ic ie))) (uO 2 (ay 1 (fun _ => cm) (oD ic ie)) (ay 1 (fun _ => ge) (oG ic ie))))))))))
def ahv (cm:Int) (ge:Bool) (ic:Int) (ie:Bool) : Prop := (afK 2 (ay 1 (fun _ => cm) (oD ic ie)) (ay 1 (fun _ => ge) (oG ic ie)))
def rG (cm:Int) (ge:Bool) (ic:Int) (ie:Bool) : Int := (sH 2 (ay 1 (fun _ => cm) (oD ic ie)) (ay 1 (fun _ => ge) (oG ic ie)))
def FY (cm:Int) (ge:Bool) (ic:Int) (ie:Bool) : Bool := (uO 2 (ay 1 (fun _ => cm) (oD ic ie)) (ay 1 (fun _ => ge) (oG ic ie)))
theorem atV (cm:Int) (ge:Bool) (ic:Int) (ie:Bool) {K0 : Int -> Bool -> Prop} (h : ahv cm ge ic ie) (hK : K0 (rG cm ge ic ie) (FY cm ge ic ie)) : aly cm ge ic ie K0  := by
 unfold aly ahv rG FY at *
 simp only [aH, true_and]; try simp only [aH, true_and] at h
 repeat' first | exact hK | refine ⟨rfl, ?_⟩ | refine ⟨trivial, ?_⟩ | refine ⟨by decide, ?_⟩ | (refine ⟨h.1, ?_⟩; replace h := h.2) | refine ⟨h, ?_⟩
theorem aft {v w : Int} {f g : Bool} (hv : Num' v) (hw : Num' w) : ahv v f w g /\ rG v f w g = vK (v - w) /\ FY v f w g = (f || g || vM (v - w)) := by
  unfold ahv rG FY
  rw [(F7 hw).1, (F7 hw).2]
  have := adn (f := f) (g := g) hv (neg_num hw)
  rwa [<- Int.sub_eq_add_neg] at this
theorem afu {v w : Int} {f g : Bool} (hv : Num' v) (hw : Num' w) : ahv v f w g /\ YW v f w g /\ rG v f w g = Gu v f w g /\ FY v f w g = O7 v f w g /\ Num' (Gu v f w g) := by
  obtain ⟨p1, e1, e2⟩ := aft (f := f) (g := g) hv hw
  obtain ⟨p2, g1, g2⟩ := al7 (f := f) (g := g) hv hw
  exact ⟨p1, p2, by rw [e1, g1], by rw [e2, g2], by rw [g1]; exact sJ _⟩
def IV (cm ge ir:Int) (c : Int -> Prop) (x0 : Int -> Int -> Prop)  : Prop := ((0 <= (1:Int) /\ (1:Int) < ((2:Nat):Int)) /\ Ts 3 (cond (ige ge ir) (Ts 2 (x0 ir ir)) (((0 <= (1:Int) /\ (1:Int) < ((2:Nat):Int)) /\ Ts 1 (((0 <= (0:Int) /\ (0:Int) < ((2:Nat):Int)) /\ Ts 2 (((ae1 ge cm ir) /\ Ts 8 (cond (ige (rZ ge cm ir) ir) (Ts 2 (x0 ir ir)) (Ts 2 (((kG ir (rZ ge cm ir) 0) /\ Ts 6 (((0 <= (1:Int)) /\ Ts 1 (((0 <= (63:Int)) /\ Ts 2 (c (ior .u64 (bF .u64 (fA ir (rZ ge cm ir) 0) 1) (dL .u64 (fB ir (rZ ge cm ir) 0) 63)))))))))))))))))))
def sG (cm ge:Int) : Nat -> Int -> (Int -> Int -> Prop) -> Prop
  | 0, _, _ => False
  | f + 1, w0, x0 => IV cm ge w0 (fun u0 => sG cm ge f u0 x0) x0 
theorem abK (cm ge ir:Int) {c c' : Int -> Prop} {x0 y0 : Int -> Int -> Prop} (hc : ∀ w0, c w0 -> c' w0) (h0 : ∀ o0 o1, x0 o0 o1 -> y0 o0 o1) : IV cm ge ir c x0  -> IV cm ge ir c' y0  := by
  unfold IV
  repeat' first
    | exact hc _
    | exact h0 _ _
    | refine dU ?_
    | refine cO ?_ ?_
    | refine cZ ?_
theorem abL (cm ge:Int) {x0 y0 : Int -> Int -> Prop} (h0 : ∀ o0 o1, x0 o0 o1 -> y0 o0 o1) : ∀ (f:Nat) (ir:Int), sG cm ge f ir x0 -> sG cm ge f ir y0
  | 0, w0 => fun h => h
  | f + 1, w0 => abK cm ge w0 (fun u0 => abL cm ge h0 f u0) h0
def ado (cm ge:Int) (K0 : Int -> Prop) (l0 : Int -> (Int -> Int -> Prop) -> Prop) : Prop := Ts 2 (((0 <= (1:Int) /\ (1:Int) < ((2:Nat):Int)) /\ Ts 3 (cond (ieq ge 0) (((0 <= (0:Int) /\ (0:Int) < ((2:Nat):Int)) /\ Ts 3 (cond (ieq cm 0) (Ts 1 (K0 0)) (((0 <= (0:Int) /\ (0:Int) < ((2:Nat):Int)) /\ Ts 1 (((X4 cm) /\ Ts 1 (((0 <= (1:Int) /\ (1:Int) < ((2:Nat):Int)) /\ Ts 2 (cond (ine ge 0) (((0 <= (1:Int) /\ (1:Int) < ((2:Nat):Int)) /\ Ts 1 (((X4 ge) /\ Ts 5 ((((2:Int) ≠ 0) /\ Ts 3 (cond (ilt (gG .i64 (au .i64 (au .i64 64 (Sr ge)) 1) 2) 64) (Ts 1 (((0 <= (gG .i64 (au .i64 (au .i64 64 (Sr ge)) 1) 2)) /\ Ts 1 ((l0 (dL .u64 1 (gG .i64 (au .i64 (au .i64 64 (Sr ge)) 1) 2)) (fun l6 oe => K0 l6)))))) ((l0 18446744073709551615 (fun l6 oe => K0 l6)))))))))) (Ts 3 ((((2:Int) ≠ 0) /\ Ts 3 (cond (ilt (gG .i64 (au .i64 (Sr cm) 1) 2) 64) (Ts 1 (((0 <= (gG .i64 (au .i64 (Sr cm) 1) 2)) /\ Ts 1 ((l0 (dL .u64 1 (gG .i64 (au .i64 (Sr cm) 1) 2)) (fun l6 oe => K0 l6)))))) ((l0 18446744073709551615 (fun l6 oe => K0 l6))))))))))))))))) (Ts 1 (((0 <= (0:Int) /\ (0:Int) < ((2:Nat):Int)) /\ Ts 1 (((X4 cm) /\ Ts 1 (((0 <= (1:Int) /\ (1:Int) < ((2:Nat):Int)) /\ Ts 2 (cond (ine ge 0) (((0 <= (1:Int) /\ (1:Int) < ((2:Nat):Int)) /\ Ts 1 (((X4 ge) /\ Ts 5 ((((2:Int) ≠ 0) /\ Ts 3 (cond (ilt (gG .i64 (au .i64 (au .i64 64 (Sr ge)) 1) 2) 64) (Ts 1 (((0 <= (gG .i64 (au .i64 (au .i64 64 (Sr ge)) 1) 2)) /\ Ts 1 ((l0 (dL .u64 1 (gG .i64 (au .i64 (au .i64 64 (Sr ge)) 1) 2)) (fun l6 oe => K0 l6)))))) ((l0 18446744073709551615 (fun l6 oe => K0 l6)))))))))) (Ts 3 ((((2:Int) ≠ 0) /\ Ts 3 (cond (ilt (gG .i64 (au .i64 (Sr cm) 1) 2) 64) (Ts 1 (((0 <= (gG .i64 (au .i64 (Sr cm) 1) 2)) /\ Ts 1 ((l0 (dL .u64 1 (gG .i64 (au .i64 (Sr cm) 1) 2)) (fun l6 oe => K0 l6)))))) ((l0 18446744073709551615 (fun l6 oe => K0 l6))))))))))))))))))
theorem auK (a b:Int) : ior .u64 a b = ior .u64 b a := by
  rw [Yk]
  show IntKind.u64.wrap _ = IntKind.u64.wrap _
  rw [BitVec.or_comm]
theorem ahB {L : Nat} (hL : L <= 128) : gG .i64 (au .i64 (L:Int) 1) 2 = (((L + 1) / 2:Nat):Int) := by
  rw [fF (by omega) (by omega), Pg]
  show IntKind.i64.wrap (((L:Int) + 1).tdiv 2) = _
  rw [Int.tdiv_eq_ediv_of_nonneg (by omega), IntWalk.i64_in _ ⟨by omega, by omega⟩]
  omega
def adp (a b:Int) : Prop := U64 a /\ U64 b
def IW (a b:Int) : Int := Qv (b * 18446744073709551616 + a)
theorem abM {a b n s : Int} (ha : U64 a) (hb : U64 b) (hn : n = b * 18446744073709551616 + a) (hs : isR n s) (s1 : 1 <= s) {x0 : Int -> Int -> Prop} (hx : ∀ v, x0 s v) : ∀ (f:Nat) (r:Int), s <= r -> 1 <= r -> r < 18446744073709551616 -> r - s < 2 ^ f -> sG a b (f + 1) r x0
  | f, r, h1, h2, h3, h4 => by
    show IV a b r _ _
    unfold IV
    simp only [aH]
    obtain ⟨a1, a2⟩ := ha
    obtain ⟨b1, b2⟩ := hb
    have stop : r * r <= n -> ∀ v, x0 r v := fun h => by
      have := acS (by omega) hs h
      rw [show r = s by omega]
      exact hx
    refine ⟨by omega, aC (fun hc => ?_) (fun hc => ?_)⟩
    . rw [mD] at hc
      refine stop ?_ _
      have := Int.mul_le_mul (show r <= b by omega) (show r <= 18446744073709551616 by omega) (by omega) (by omega)
      omega
    . rw [pU] at hc
      refine ⟨by omega, by omega, ⟨⟨b1, b2⟩, ⟨a1, a2⟩, ⟨by omega, by omega⟩, hc⟩, ?_⟩
      have eq : rZ b a r = n / r := by rw [hn]; rfl
      rw [eq]
      refine aC (fun hd => ?_) (fun hd => ?_)
      . rw [mD] at hd
        refine stop ?_ _
        have := (kF (x := n) (y := r) (by omega)).1
        have := qZ hd (show 0 <= r by omega)
        omega
      . rw [pU] at hd
        obtain ⟨n1, n2, n3⟩ := ak7 hs h1 h2 hd
        have q0 : 0 <= n / r := Int.ediv_nonneg (by have := hs.2.1; have := Int.mul_nonneg hs.1 hs.1; omega) (by omega)
        have es : ior .u64 (bF .u64 (fA r (n / r) 0) 1) (dL .u64 (fB r (n / r) 0) 63) = (r + n / r) / 2 := by
          generalize n / r = q at *
          unfold fA fB
          have e1 : ∀ z, bF .u64 z 1 = z / 2 := fun z => Kt z 1 (by decide)
          have e2 : ∀ z, dL .u64 z 63 = z * 9223372036854775808 % 18446744073709551616 := fun z => Qr z 63 (by decide)
          rw [e1, e2, auK, show (r + q + 0) / 18446744073709551616 * 9223372036854775808 % 18446744073709551616 = (r + q) / 18446744073709551616 * 2 ^ 63 by rw [show (2:Int) ^ 63 = 9223372036854775808 by decide]; omega]
          rw [BJ 63 (by decide) ⟨by rw [show (2:Int) ^ 63 = 9223372036854775808 by decide]; omega, by rw [show (2:Int) ^ 63 = 9223372036854775808 by decide]; omega⟩ (by omega) ⟨by omega, by rw [show (2:Int) ^ 63 = 9223372036854775808 by decide]; omega⟩]
          rw [show (2:Int) ^ 63 = 9223372036854775808 by decide]
          omega
        rw [es]
        refine ⟨⟨by omega, by omega, by omega, by omega⟩, by omega, by omega, ?_⟩
        cases f with
        | zero => rw [Int.pow_zero] at h4; omega
        | succ f =>
          refine abM ⟨a1, a2⟩ ⟨b1, b2⟩ hn hs s1 hx f _ n1 ?_ (by omega) ?_
          . omega
          . rw [Int.pow_succ] at h4; omega
theorem auL (cm ge:Int) {K0 : Int -> Prop} (h : adp cm ge) (hK : K0 (IW cm ge)) : ado cm ge K0 (sG cm ge fuel) := by
  obtain ⟨ha, hb⟩ := h
  obtain ⟨n, hn⟩ : ∃ n, n = ge * 18446744073709551616 + cm := ⟨_, rfl⟩
  have n0 : 0 <= n := by obtain ⟨_, _⟩ := ha; obtain ⟨_, _⟩ := hb; omega
  have n1 : n < 340282366920938463463374607431768211456 := by obtain ⟨_, _⟩ := ha; obtain ⟨_, _⟩ := hb; omega
  have hs := XE n0 n1
  unfold IW at hK
  rw [<- hn] at hK
  obtain ⟨f, hf, hf64⟩ : ∃ f : Nat, fuel = f + 1 /\ 64 <= f := ⟨1999999, by rw [gW], by omega⟩
  have go : n ≠ 0 -> ∀ r, Qv n <= r -> 1 <= r -> r < 18446744073709551616 -> sG cm ge fuel r (fun l6 oe => K0 l6) := fun hne r h1 h2 h3 => by
    rw [hf]
    refine abM ha hb hn hs (aeQ hs (by omega)) (fun v => hK) f r h1 h2 h3 ?_
    have := Ku hf64
    have e : (2:Int) ^ 64 = 18446744073709551616 := by decide
    have := hs.1
    omega
  have start : n ≠ 0 -> ∀ L : Nat, L <= 128 -> n < 2 ^ L -> (2:Int) ≠ 0 /\ cond (ilt (gG .i64 (au .i64 (L:Int) 1) 2) 64) (0 <= gG .i64 (au .i64 (L:Int) 1) 2 /\ sG cm ge fuel (dL .u64 1 (gG .i64 (au .i64 (L:Int) 1) 2)) (fun l6 oe => K0 l6)) (sG cm ge fuel 18446744073709551615 (fun l6 oe => K0 l6)) := fun hne L hL hlt => by
    refine ⟨by decide, ?_⟩
    rw [ahB hL]
    have hr := root_lt hs (k := (L + 1) / 2) (Int.lt_of_lt_of_le hlt (Ku (by omega)))
    refine aC (fun hc => ?_) (fun hc => ?_)
    . rw [dY] at hc
      have hp := Ku (show (L + 1) / 2 <= 63 by omega)
      rw [show (2:Int) ^ 63 = 9223372036854775808 by decide] at hp
      have h1 := Cj ((L + 1) / 2)
      rw [Qr 1 _ (by omega), Int.one_mul, Int.emod_eq_of_lt (by omega) (by omega)]
      exact ⟨by omega, go hne _ (by omega) h1 (by omega)⟩
    . have hp := Ku (show (L + 1) / 2 <= 64 by omega)
      rw [show (2:Int) ^ 64 = 18446744073709551616 by decide] at hp
      exact go hne _ (by omega) (by omega) (by omega)
  have hlo : ge = 0 -> ∀ k : Nat, isLen cm k -> n < 2 ^ k := fun h k hk => by rw [hn, h, Int.zero_mul, Int.zero_add]; exact hk.1
  have hhi : ∀ k : Nat, isLen ge k -> n < 2 ^ (64 + k) := fun k hk => by
    obtain ⟨_, _⟩ := ha
    rw [Nat.add_comm, rP, show (2:Int) ^ 64 = 18446744073709551616 by decide]
    have := qZ (show ge + 1 <= 2 ^ k from hk.1) (show (0:Int) <= 18446744073709551616 by decide)
    omega
  obtain ⟨pa, ka, ea, ka64, la⟩ := QB ha
  obtain ⟨pb, kb, eb, kb64, lb⟩ := QB hb
  have e64 : au .i64 64 (kb:Int) = ((64 + kb:Nat):Int) := by rw [fF (by omega) (by omega)]; omega
  unfold ado
  simp only [aH, ea, eb, e64]
  refine ⟨by omega, aC (fun hc => ?_) (fun hc => ?_)⟩
  . rw [kE] at hc
    refine ⟨by omega, aC (fun hd => ?_) (fun hd => ?_)⟩
    . rw [kE] at hd
      have : Qv n = 0 := by
        have h0 : n = 0 := by rw [hn, hc, hd]; decide
        rw [h0] at hs ⊢
        exact hs.unique ⟨by omega, by omega, by omega⟩
      rw [this] at hK
      exact hK
    . refine ⟨by omega, pa, by omega, ?_⟩
      rw [tZ.2 hc, cond_false]
      exact start (by rw [vI] at hd; omega) ka (by omega) (hlo hc ka la)
  . rw [vI] at hc
    refine ⟨by omega, pa, by omega, ?_⟩
    rw [tY.2 hc, cond_true]
    exact ⟨by omega, pb, start (by obtain ⟨_, _⟩ := ha; obtain ⟨_, _⟩ := hb; omega) (64 + kb) (by omega) (hhi kb lb)⟩
theorem afv {neg : Bool} {hi lo z : Int} (h1 : U64 hi) (h2 : U64 lo) (h : VW neg hi lo = z) (h0 : 0 <= z) : hi * 18446744073709551616 + lo = z := by
  obtain ⟨_, _⟩ := h1
  obtain ⟨_, _⟩ := h2
  cases neg
  . rw [pO] at h; omega
  . rw [oH] at h; omega
theorem abN {n : Int} (h0 : 0 <= n) (h1 : n < 340282366920938463463374607431768211456) : U64 (Qv n) := by
  have hs := XE h0 h1
  exact ⟨hs.1, root_lt hs (k := 64) (by rw [show (2:Int) ^ (64 + 64) = 340282366920938463463374607431768211456 by decide]; exact h1)⟩
def Ru (cm:Int) (ge:Bool) : Bool := (eP (aZ cm ge) (aZ cm ge))
def Rw (cm:Int) (ge:Bool) : Int := (fO (aZ cm ge) (aZ cm ge))
def Rx (cm:Int) (ge:Bool) : Int := (fH (aZ cm ge) (aZ cm ge))
def Ry (ic:Int) (ie:Bool) : Bool := (eP (aZ ic ie) (aZ ic ie))
def Rz (ic:Int) (ie:Bool) : Int := (fO (aZ ic ie) (aZ ic ie))
def RD (ic:Int) (ie:Bool) : Int := (fH (aZ ic ie) (aZ ic ie))
def VI (cm:Int) (ge:Bool) (ic:Int) (ie:Bool) : Int := (uG (Ru cm ge) (Rw cm ge) (Rx cm ge) (Ry ic ie) (Rz ic ie) (RD ic ie))
def VJ (cm:Int) (ge:Bool) (ic:Int) (ie:Bool) : Int := (uH (Ru cm ge) (Rw cm ge) (Rx cm ge) (Ry ic ie) (Rz ic ie) (RD ic ie))
def VK (cm:Int) (ge:Bool) (ic:Int) (ie:Bool) : Int := (IW (VI cm ge ic ie) (VJ cm ge ic ie))
def Py (cm:Int) (ge:Bool) (ic:Int) (ie:Bool) : Bool := (CZ 2 (ay 1 (fun _ => (aZ cm ge)) (aZ ic ie)) (ay 1 (fun _ => (fC cm ge)) (fC ic ie)))
def VL (cm:Int) (ge:Bool) (ic:Int) (ie:Bool) : Int := (sD false (VK cm ge ic ie) 0 (Py cm ge ic ie))
def VN (cm:Int) (ge:Bool) (ic:Int) (ie:Bool) : Bool := (sF false (VK cm ge ic ie) 0 (Py cm ge ic ie))
def al9 (cm:Int) (ge:Bool) (ic:Int) (ie:Bool) (K0 : Int -> Bool -> Prop)  : Prop := Ts 4 (((Fh cm ge) /\ Ts 1 (((Fh ic ie) /\ Ts 2 ((true = true /\ Ts 4 (((TR (aZ cm ge) (aZ cm ge)) /\ Ts 4 (((TR (aZ ic ie) (aZ ic ie)) /\ ((O6 (Ru cm ge) (Rw cm ge) (Rx cm ge) (Ry ic ie) (Rz ic ie) (RD ic ie)) /\ Ts 1 (((adp (VI cm ge ic ie) (VJ cm ge ic ie)) /\ Ts 5 (((O5 2 (ay 1 (fun _ => (aZ cm ge)) (aZ ic ie)) (ay 1 (fun _ => (fC cm ge)) (fC ic ie))) /\ ((TP false (VK cm ge ic ie) 0 (Py cm ge ic ie)) /\ Ts 1 ((true = true /\ Ts 1 (K0 (VL cm ge ic ie) (VN cm ge ic ie))))))))))))))))))))
def Y8 (cm:Int) (ge:Bool) (ic:Int) (ie:Bool) : Prop := ((O6 (Ru cm ge) (Rw cm ge) (Rx cm ge) (Ry ic ie) (Rz ic ie) (RD ic ie)) /\ ((adp (VI cm ge ic ie) (VJ cm ge ic ie)) /\ (O5 2 (ay 1 (fun _ => (aZ cm ge)) (aZ ic ie)) (ay 1 (fun _ => (fC cm ge)) (fC ic ie)))))
def IX (cm:Int) (ge:Bool) (ic:Int) (ie:Bool) : Int := (VL cm ge ic ie)
def IY (cm:Int) (ge:Bool) (ic:Int) (ie:Bool) : Bool := (VN cm ge ic ie)
theorem auM (cm:Int) (ge:Bool) (ic:Int) (ie:Bool) {K0 : Int -> Bool -> Prop} (h : Y8 cm ge ic ie) (hK : K0 (IX cm ge ic ie) (IY cm ge ic ie)) : al9 cm ge ic ie K0  := by
 unfold al9 Y8 IX IY at *
 simp only [aH, true_and]; try simp only [aH, true_and] at h
 repeat' first | exact hK | refine ⟨rfl, ?_⟩ | refine ⟨trivial, ?_⟩ | refine ⟨by decide, ?_⟩ | (refine ⟨h.1, ?_⟩; replace h := h.2) | refine ⟨h, ?_⟩
theorem XT {v : Int} (hv : Num' v) : 0 <= v * v /\ v * v <= 9223372036854775807 * 9223372036854775807 := by
  have h := yD v v
  obtain ⟨h1, h2⟩ := hv
  have h3 := Int.mul_le_mul (show max v (-v) <= 9223372036854775807 by omega) (show max v (-v) <= 9223372036854775807 by omega) (show 0 <= max v (-v) by omega) (by omega)
  have h4 : 0 <= v * v := by
    rcases Int.le_total 0 v with h | h
    . exact Int.mul_nonneg h h
    . exact Int.mul_nonneg_of_nonpos_of_nonpos h h
  omega
theorem afw {v w : Int} {f g : Bool} (hv : Num' v) (hw : Num' w) : Y8 v f w g /\ alO v f w g /\ IX v f w g = Vw v f w g /\ IY v f w g = YV v f w g /\ Num' (Vw v f w g) := by
  unfold Y8 alO IX IY Vw YV
  simp only [QS, QT, QU, QV, QW, QX, QY, QZ, Q5, Q7, KA, KD, abq, abr, abt, abu, Ru, Rw, Rx, Ry, Rz, RD, VI, VJ, VK, Py, VL, VN]
  simp only [uT, GI, jQ, eX hv, eX hw, dX hv, dX hw, Y3]
  obtain ⟨h1, h2, h3, h4⟩ := Ro hv hv
  obtain ⟨j1, j2, j3, j4⟩ := Ro hw hw
  obtain ⟨p, q1, q2, q3⟩ := C9 (a := eP v v) (b := eP w w) h1 h2 j1 j2 (by omega) (by omega)
  obtain ⟨t1, t2, t3⟩ := yE hv hv
  obtain ⟨s1, s2, s3⟩ := yE hw hw
  obtain ⟨u1, u2⟩ := Vm t1 s1 (by omega) (by omega)
  have pp := MG (a := fZ v v) (b := fZ w w) t1.uh t1.ul s1.uh s1.ul
  have b1 := XT hv
  have b2 := XT hw
  rw [h3, j3] at q3
  rw [t2, s2] at u2
  have n1 := afv q2 q1 q3 (by omega)
  have n2 := afv u1.uh u1.ul u2 (by omega)
  have hU := abN (n := v * v + w * w) (by omega) (by omega)
  unfold IW V7 Zf Vu
  rw [n1, n2]
  have hF := fun x => uI (neg := false) hU (hi := 0) ⟨by omega, by omega⟩ x
  have hR := fun x => FV (neg := false) (hi := 0) ⟨by omega, by omega⟩ hU x
  refine ⟨⟨p, ⟨q1, q2⟩, (by show 2 <= 1000000; decide)⟩, ⟨pp, u1.uh, u1.ul⟩, ?_, ?_, ?_⟩
  . rw [(hF _).1]
    cases f <;> simp only [cond_true, cond_false, (hR _).1]
  . rw [(hF _).2]
    cases f <;> simp only [cond_true, cond_false, (hR _).2] <;> rfl
  . cases f <;> simp only [cond_true, cond_false, (hR _).1] <;> exact sJ _
def alo (cm:Int) (ge:Bool) (ic:Int) (ie:Bool) (K0 : Int -> Bool -> Prop)  : Prop := Ts 4 (((Fh cm ge) /\ Ts 1 (((Fh ic ie) /\ Ts 2 ((true = true /\ Ts 4 (((EM (aZ cm ge) (aZ ic ie)) /\ Ts 5 (cond (mJ (aZ cm ge) (aZ ic ie)) (Ts 6 (K0 (iD (aZ cm ge) (aZ ic ie)) true)) (Ts 3 (((O5 2 (ay 1 (fun _ => (aZ cm ge)) (aZ ic ie)) (ay 1 (fun _ => (fC cm ge)) (fC ic ie))) /\ Ts 6 (K0 (iD (aZ cm ge) (aZ ic ie)) (CZ 2 (ay 1 (fun _ => (aZ cm ge)) (aZ ic ie)) (ay 1 (fun _ => (fC cm ge)) (fC ic ie))))))))))))))))
def aeZ (cm:Int) (ge:Bool) (ic:Int) (ie:Bool) : Prop := ((EM (aZ cm ge) (aZ ic ie)) /\ (cond (mJ (aZ cm ge) (aZ ic ie)) True (O5 2 (ay 1 (fun _ => (aZ cm ge)) (aZ ic ie)) (ay 1 (fun _ => (fC cm ge)) (fC ic ie)))))
def Aj (cm:Int) (ge:Bool) (ic:Int) (ie:Bool) : Int := (iD (aZ cm ge) (aZ ic ie))
def Ak (cm:Int) (ge:Bool) (ic:Int) (ie:Bool) : Bool := (cond (mJ (aZ cm ge) (aZ ic ie)) true (CZ 2 (ay 1 (fun _ => (aZ cm ge)) (aZ ic ie)) (ay 1 (fun _ => (fC cm ge)) (fC ic ie))))
theorem atK (cm:Int) (ge:Bool) (ic:Int) (ie:Bool) {K0 : Int -> Bool -> Prop} (h : aeZ cm ge ic ie) (hK : K0 (Aj cm ge ic ie) (Ak cm ge ic ie)) : alo cm ge ic ie K0  := by
 unfold alo aeZ Aj Ak at *
 simp only [aH, true_and]; try simp only [aH, true_and] at h
 repeat' first | exact hK | (refine aC (fun c => ?_) (fun c => ?_) <;> try simp only [c, cond_true, cond_false] at h hK ⊢) | refine ⟨rfl, ?_⟩ | refine ⟨trivial, ?_⟩ | refine ⟨by decide, ?_⟩ | (refine ⟨h.1, ?_⟩; replace h := h.2) | refine ⟨h, ?_⟩
def IZ (a0 a1:Int) (jp:Nat) (a2:Nat -> Int) (nr mq:Int) (c x0 : Int -> Int -> Prop)  : Prop := Ts 1 (cond (ilt mq (jp:Int)) (((0 <= mq /\ mq < (jp:Int)) /\ Ts 4 (((acY (a2 (Int.toNat mq)) nr) /\ Ts 3 (cond (ilt (aI .i64 (Ap (a2 (Int.toNat mq)) nr) a0) 0) (Ts 4 (c (a2 (Int.toNat mq)) (au .i64 mq 1))) (Ts 2 (c nr (au .i64 mq 1)))))))) (x0 nr mq))
def yP (a0 a1:Int) (jp:Nat) (a2:Nat -> Int) : Nat -> Int -> Int -> (Int -> Int -> Prop) -> Prop
  | 0, _, _, _ => False
  | f + 1, w0, w1, x0 => IZ a0 a1 jp a2 w0 w1 (fun u0 u1 => yP a0 a1 jp a2 f u0 u1 x0) x0 
theorem abO (a0 a1:Int) (jp:Nat) (a2:Nat -> Int) (nr mq:Int) {c c' : Int -> Int -> Prop} {x0 y0 : Int -> Int -> Prop} (hc : ∀ w0 w1, c w0 w1 -> c' w0 w1) (h0 : ∀ o0 o1, x0 o0 o1 -> y0 o0 o1) : IZ a0 a1 jp a2 nr mq c x0  -> IZ a0 a1 jp a2 nr mq c' y0  := by
  unfold IZ
  repeat' first
    | exact hc _ _
    | exact h0 _ _
    | refine dU ?_
    | refine cO ?_ ?_
    | refine cZ ?_
theorem abP (a0 a1:Int) (jp:Nat) (a2:Nat -> Int) {x0 y0 : Int -> Int -> Prop} (h0 : ∀ o0 o1, x0 o0 o1 -> y0 o0 o1) : ∀ (f:Nat) (nr:Int) (mq:Int), yP a0 a1 jp a2 f nr mq x0 -> yP a0 a1 jp a2 f nr mq y0
  | 0, w0, w1 => fun h => h
  | f + 1, w0, w1 => abO a0 a1 jp a2 w0 w1 (fun u0 u1 => abP a0 a1 jp a2 h0 f u0 u1) h0
def adq (a0 a1:Int) (jp:Nat) (a2:Nat -> Int) (K0 : Int -> Prop) (l0 : Int -> Int -> (Int -> Int -> Prop) -> Prop) : Prop := Ts 4 ((l0 a1 0 (fun q9 rn => Ts 2 (K0 q9))))
def MR (o first:Int) (l:Nat -> Int) : Nat -> Int
  | 0 => first
  | n + 1 => if o = 1 then min (MR o first l n) (l n) else max (MR o first l n) (l n)
def ahC (o first:Int) (n:Nat) (l:Nat -> Int) : Prop := (o = 1 \/ o = -1) /\ n <= 1000000
def RF (o first:Int) (n:Nat) (l:Nat -> Int) : Int := MR o first l n
theorem afx (a b:Int) : Ap a b = if a < b then -1 else if b < a then 1 else 0 := by
  unfold Ap Gt
  rw [tZ.2 (rfl : a = a), tZ.2 (rfl : b = b)]
  simp only [cond_false]
  by_cases h : a < b
  . rw [dY.2 h, cond_true, if_pos h]
  . rw [fJ.2 (by omega), cond_false, if_neg h]
    by_cases g : b < a
    . rw [qY.2 g, cond_true, if_pos g]
    . rw [nV.2 (by omega), cond_false, if_neg g]
theorem Fa {o first : Int} {n : Nat} {l : Nat -> Int} (ho : o = 1 \/ o = -1) (hp : n <= 1000000) {x0 : Int -> Int -> Prop} (h3 : ∀ v, x0 (MR o first l n) v) : ∀ (f i:Nat), i <= n -> n < f + i -> yP o first n l f (MR o first l i) i x0
  | 0, i, h1, h2 => by omega
  | f + 1, i, h1, h2 => by
    show IZ o first n l _ i _ _
    unfold IZ
    simp only [aH, true_and, Int.toNat_natCast]
    refine aC (fun hc => ?_) (fun hc => ?_)
    . rw [dY] at hc
      rw [fF (by omega) (by omega)]
      have hr := Fa ho hp h3 f (i + 1) (by omega) (by omega)
      have e : MR o first l (i + 1) = if o = 1 then min (MR o first l i) (l i) else max (MR o first l i) (l i) := rfl
      rw [e] at hr
      generalize MR o first l i = m at *
      rw [afx]
      refine ⟨⟨by omega, hc⟩, trivial, ?_⟩
      have em : aI .i64 (if l i < m then -1 else if m < l i then 1 else 0) o = (if l i < m then -1 else if m < l i then 1 else 0) * o := by
        rcases ho with rfl | rfl <;> split <;> first | (rw [kQ] <;> omega) | (split <;> (rw [kQ] <;> omega))
      rw [em]
      refine aC (fun hd => ?_) (fun hd => ?_)
      . rw [dY] at hd
        have : (if o = 1 then min m (l i) else max m (l i)) = l i := by
          rcases ho with rfl | rfl
          . rw [if_pos rfl]; split at hd <;> (try split at hd) <;> omega
          . rw [if_neg (by decide)]; split at hd <;> (try split at hd) <;> omega
        rw [this] at hr
        exact hr
      . rw [fJ] at hd
        have : (if o = 1 then min m (l i) else max m (l i)) = m := by
          rcases ho with rfl | rfl
          . rw [if_pos rfl]; split at hd <;> (try split at hd) <;> omega
          . rw [if_neg (by decide)]; split at hd <;> (try split at hd) <;> omega
        rw [this] at hr
        exact hr
    . rw [fJ] at hc
      have : i = n := by omega
      subst this
      exact h3 _
theorem auO (a0 a1:Int) (jp:Nat) (a2:Nat -> Int) {K0 : Int -> Prop} (h : ahC a0 a1 jp a2) (hK : K0 (RF a0 a1 jp a2)) : adq a0 a1 jp a2 K0 (yP a0 a1 jp a2 fuel) := by
  unfold adq
  simp only [aH]
  exact Fa h.1 h.2 (fun v => hK) fuel 0 (Nat.zero_le _) (by rw [gW]; have := h.2; omega)
theorem yQ {a b : Int} (ha : Num' a) (hb : Num' b) : EM a b /\ Hl a b /\ iD a b = jG a b /\ mJ a b = jW a b /\ Num' (jG a b) := by
  by_cases h : b = 0
  . subst h
    unfold EM Hl iD mJ jG jW Dl yX
    rw [kE.2 rfl, afx]
    simp only [cond_true]
    have en : bM .i64 9223372036854775807 = -9223372036854775807 := rF (by omega) (by omega)
    by_cases h1 : a < 0
    . rw [if_pos h1, nV.2 (by omega), dY.2 h1, kQ (by omega) (by omega)]
      refine ⟨trivial, trivial, ?_, ?_, by decide, by decide⟩ <;> first | rfl | trivial
    . rw [if_neg h1, fJ.2 (by omega)]
      by_cases h2 : 0 < a
      . rw [if_pos h2, qY.2 h2, kQ (by omega) (by omega)]
        refine ⟨trivial, trivial, ?_, ?_, by decide, by decide⟩ <;> first | rfl | trivial
      . rw [if_neg h2, nV.2 (by omega), kQ (by omega) (by omega)]
        refine ⟨trivial, trivial, ?_, ?_, by decide, by decide⟩ <;> first | rfl | trivial
  . obtain ⟨p1, e1, e2⟩ := Y7 ha hb h
    obtain ⟨p2, g1, g2⟩ := QL ha hb h
    exact ⟨p1, p2, by rw [e1, g1], by rw [e2, g2], by rw [g1]; exact sJ _⟩
theorem Y9 {v w : Int} {f g : Bool} (hv : Num' v) (hw : Num' w) : aeZ v f w g /\ MQ v f w g /\ Aj v f w g = oI v f w g /\ Ak v f w g = uF v f w g /\ Num' (oI v f w g) := by
  obtain ⟨p1, p2, e1, e2, hn⟩ := yQ hv hw
  unfold aeZ Aj Ak
  simp only [uT, GI, eX hv, eX hw, dX hv, dX hw, Y3, e1, e2]
  have hF : O5 2 (ay 1 (fun _ => v) w) (ay 1 (fun _ => f) g) := (by show 2 <= 1000000; decide)
  have hP : cond (jW v w) True (O5 2 (ay 1 (fun _ => v) w) (ay 1 (fun _ => f) g)) := by cases jW v w <;> first | exact hF | trivial
  refine ⟨⟨p1, hP⟩, ?_⟩
  by_cases h : w = 0
  . subst h
    unfold MQ oI uF
    simp only [jQ, eX hv, eX hw, dX hv, dX hw, kE.2 (rfl : (0:Int) = 0), cond_true]
    unfold jG at hn ⊢
    unfold jW
    rw [kE.2 (rfl : (0:Int) = 0)] at hn ⊢
    simp only [cond_true] at hn ⊢
    have : yX v = true := by
      unfold yX
      cases igt v 0 <;> cases ilt v 0 <;> rfl
    rw [this]
    refine ⟨trivial, ?_, ?_, hn⟩ <;> first | rfl | trivial
  . obtain ⟨q1, q2, q3⟩ := afc (f := f) (g := g) hv hw h
    obtain ⟨r1, r2, r3⟩ := QL hv hw h
    refine ⟨q1, by rw [q2, r2], ?_, by rw [q2]; exact sJ _⟩
    rw [q3, r3]
    cases vM (dq v w) <;> cases f <;> cases g <;> rfl
def amf (a0:Int) (lf:Nat) (ic:Nat -> Int) (ie : Nat -> Bool) (K0 : Int -> Bool -> Prop)  : Prop := Ts 4 (cond (ieq (lf:Int) 0) (Ts 3 (K0 0 false)) (Ts 1 (((afk lf ic ie) /\ Ts 7 (((0 <= (0:Int) /\ (0:Int) < (((nK lf ic ie):Nat):Int)) /\ Ts 2 (((0 <= (1:Int) /\ (1:Int) <= (((nK lf ic ie):Nat):Int)) /\ ((ahC a0 ((jD lf ic ie) 0) ((nK lf ic ie) - 1) (Oo 1 (jD lf ic ie))) /\ Ts 3 ((true = true /\ Ts 1 (K0 (RF a0 ((jD lf ic ie) 0) ((nK lf ic ie) - 1) (Oo 1 (jD lf ic ie))) (AP lf ic ie)))))))))))))
def VP (a0:Int) (lf:Nat) (ic:Nat -> Int) (ie : Nat -> Bool) : Prop := (cond (ieq (lf:Int) 0) True ((afk lf ic ie) /\ ((0 <= (0:Int) /\ (0:Int) < (((nK lf ic ie):Nat):Int)) /\ ((0 <= (1:Int) /\ (1:Int) <= (((nK lf ic ie):Nat):Int)) /\ (ahC a0 ((jD lf ic ie) 0) ((nK lf ic ie) - 1) (Oo 1 (jD lf ic ie)))))))
def MS (a0:Int) (lf:Nat) (ic:Nat -> Int) (ie : Nat -> Bool) : Int := (cond (ieq (lf:Int) 0) 0 (RF a0 ((jD lf ic ie) 0) ((nK lf ic ie) - 1) (Oo 1 (jD lf ic ie))))
def MV (a0:Int) (lf:Nat) (ic:Nat -> Int) (ie : Nat -> Bool) : Bool := (cond (ieq (lf:Int) 0) false (AP lf ic ie))
theorem auS (a0:Int) (lf:Nat) (ic:Nat -> Int) (ie : Nat -> Bool) {K0 : Int -> Bool -> Prop} (h : VP a0 lf ic ie) (hK : K0 (MS a0 lf ic ie) (MV a0 lf ic ie)) : amf a0 lf ic ie K0  := by
 unfold amf VP MS MV at *
 simp only [aH, true_and]; try simp only [aH, true_and] at h
 repeat' first | exact hK | (refine aC (fun c => ?_) (fun c => ?_) <;> try simp only [c, cond_true, cond_false] at h hK ⊢) | refine ⟨rfl, ?_⟩ | refine ⟨trivial, ?_⟩ | refine ⟨by decide, ?_⟩ | (refine ⟨h.1, ?_⟩; replace h := h.2) | refine ⟨h, ?_⟩
theorem XU {x : Nat -> Int} : ∀ n, MR 1 (x 0) (Oo 1 x) n = BK x (n + 1)
  | 0 => rfl
  | n + 1 => by
    show (if (1:Int) = 1 then min (MR 1 (x 0) (Oo 1 x) n) (x (1 + n)) else _) = _
    rw [if_pos rfl, XU n, Uz x (by omega : n + 1 ≠ 0), Nat.add_comm 1 n]
theorem XV {x : Nat -> Int} : ∀ n, MR (-1) (x 0) (Oo 1 x) n = BL x (n + 1)
  | 0 => rfl
  | n + 1 => by
    show (if (-1:Int) = 1 then _ else max (MR (-1) (x 0) (Oo 1 x) n) (x (1 + n))) = _
    rw [if_neg (by decide), XV n, UA x (by omega : n + 1 ≠ 0), Nat.add_comm 1 n]
theorem abQ {o : Int} (ho : o = 1 \/ o = -1) {n : Nat} {x : Nat -> Int} {y : Nat -> Bool} (hn : n <= 1000000) : VP o n x y /\ MS o n x y = (if o = 1 then BK (fun k => whole (x k)) n else BL (fun k => whole (x k)) n) /\ MV o n x y = kR n x y := by
  unfold VP MS MV nK
  by_cases h : n = 0
  . subst h
    rw [kE.2 (by omega)]
    refine ⟨trivial, ?_, rfl⟩
    split <;> rfl
  . rw [vI.2 (by omega)]
    simp only [cond_false]
    refine ⟨⟨hn, ⟨by omega, by omega⟩, ⟨by omega, by omega⟩, ho, by omega⟩, ?_, rfl⟩
    have e : ∀ k, k < n -> jD n x y k = whole (x k) := fun k hk => (Vz hk).trans (uT _ _)
    unfold RF
    rcases ho with rfl | rfl
    . rw [XU, if_pos rfl, show n - 1 + 1 = n by omega, Qs n e]
    . rw [XV, if_neg (by decide), show n - 1 + 1 = n by omega, Qu n e]
theorem XW {x : Nat -> Int} : ∀ {n : Nat}, (∀ k, k < n -> Num' (x k)) -> Num' (BK x n)
  | 0, _ => (show Num' 0 from ⟨by decide, by decide⟩)
  | n + 1, h => by
    unfold BK
    by_cases h0 : n = 0
    . rw [if_pos h0]; exact h 0 (by omega)
    . rw [if_neg h0]
      obtain ⟨_, _⟩ := XW (n := n) (fun k hk => h k (by omega))
      obtain ⟨_, _⟩ := h n (by omega)
      exact ⟨by omega, by omega⟩
theorem XY {x : Nat -> Int} : ∀ {n : Nat}, (∀ k, k < n -> Num' (x k)) -> Num' (BL x n)
  | 0, _ => (show Num' 0 from ⟨by decide, by decide⟩)
  | n + 1, h => by
    unfold BL
    by_cases h0 : n = 0
    . rw [if_pos h0]; exact h 0 (by omega)
    . rw [if_neg h0]
      obtain ⟨_, _⟩ := XY (n := n) (fun k hk => h k (by omega))
      obtain ⟨_, _⟩ := h n (by omega)
      exact ⟨by omega, by omega⟩
def amO (ig:Nat) (cm:Nat -> Int) (ge : Nat -> Bool) (K0 : Int -> Bool -> Prop)  : Prop := Ts 2 (((VP (-1) ig cm ge) /\ Ts 2 (K0 (MS (-1) ig cm ge) (MV (-1) ig cm ge))))
def ahL (ig:Nat) (cm:Nat -> Int) (ge : Nat -> Bool) : Prop := (VP (-1) ig cm ge)
def Jm (ig:Nat) (cm:Nat -> Int) (ge : Nat -> Bool) : Int := (MS (-1) ig cm ge)
def Gg (ig:Nat) (cm:Nat -> Int) (ge : Nat -> Bool) : Bool := (MV (-1) ig cm ge)
theorem avt (ig:Nat) (cm:Nat -> Int) (ge : Nat -> Bool) {K0 : Int -> Bool -> Prop} (h : ahL ig cm ge) (hK : K0 (Jm ig cm ge) (Gg ig cm ge)) : amO ig cm ge K0  := by
 unfold amO ahL Jm Gg at *
 simp only [aH, true_and]; try simp only [aH, true_and] at h
 repeat' first | exact hK | refine ⟨rfl, ?_⟩ | refine ⟨trivial, ?_⟩ | refine ⟨by decide, ?_⟩ | (refine ⟨h.1, ?_⟩; replace h := h.2) | refine ⟨h, ?_⟩
theorem afy {n : Nat} {x : Nat -> Int} {y : Nat -> Bool} (hn : n <= 1000000) (hx : ∀ k, k < n -> TN (x k)) : ahL n x y /\ Fj n x y /\ Jm n x y = vZ n x y /\ Gg n x y = wo n x y /\ Num' (vZ n x y) := by
  obtain ⟨p, e1, e2⟩ := abQ (o := -1) (.inr rfl) (x := x) (y := y) hn
  rw [if_neg (by decide)] at e1
  exact ⟨p, hn, e1, e2, XY fun k hk => BN (hx k hk)⟩
def amo (ig:Nat) (cm:Nat -> Int) (ge : Nat -> Bool) (K0 : Int -> Bool -> Prop)  : Prop := Ts 2 (((VP 1 ig cm ge) /\ Ts 2 (K0 (MS 1 ig cm ge) (MV 1 ig cm ge))))
def afG (ig:Nat) (cm:Nat -> Int) (ge : Nat -> Bool) : Prop := (VP 1 ig cm ge)
def yS (ig:Nat) (cm:Nat -> Int) (ge : Nat -> Bool) : Int := (MS 1 ig cm ge)
def Az (ig:Nat) (cm:Nat -> Int) (ge : Nat -> Bool) : Bool := (MV 1 ig cm ge)
theorem au2 (ig:Nat) (cm:Nat -> Int) (ge : Nat -> Bool) {K0 : Int -> Bool -> Prop} (h : afG ig cm ge) (hK : K0 (yS ig cm ge) (Az ig cm ge)) : amo ig cm ge K0  := by
 unfold amo afG yS Az at *
 simp only [aH, true_and]; try simp only [aH, true_and] at h
 repeat' first | exact hK | refine ⟨rfl, ?_⟩ | refine ⟨trivial, ?_⟩ | refine ⟨by decide, ?_⟩ | (refine ⟨h.1, ?_⟩; replace h := h.2) | refine ⟨h, ?_⟩
theorem ame {n : Nat} {x : Nat -> Int} {y : Nat -> Bool} (hn : n <= 1000000) (hx : ∀ k, k < n -> TN (x k)) : afG n x y /\ afH n x y /\ yS n x y = iL n x y /\ Az n x y = Aw n x y /\ Num' (iL n x y) := by
  obtain ⟨p, e1, e2⟩ := abQ (o := 1) (.inl rfl) (x := x) (y := y) hn
  rw [if_pos rfl] at e1
  exact ⟨p, hn, e1, e2, XW fun k hk => BN (hx k hk)⟩
def amQ (cm:Int) (ge:Bool) (ic:Int) (ie:Bool) (il:Int) (io:Bool) (K0 : Int -> Bool -> Prop)  : Prop := Ts 8 (((afG 2 (ay 1 (fun _ => cm) il) (ay 1 (fun _ => ge) io)) /\ Ts 1 (((ahL 2 (ay 1 (fun _ => ic) (yS 2 (ay 1 (fun _ => cm) il) (ay 1 (fun _ => ge) io))) (ay 1 (fun _ => ie) (Az 2 (ay 1 (fun _ => cm) il) (ay 1 (fun _ => ge) io)))) /\ Ts 1 ((true = true /\ Ts 1 (K0 (Jm 2 (ay 1 (fun _ => ic) (yS 2 (ay 1 (fun _ => cm) il) (ay 1 (fun _ => ge) io))) (ay 1 (fun _ => ie) (Az 2 (ay 1 (fun _ => cm) il) (ay 1 (fun _ => ge) io)))) (Gg 2 (ay 1 (fun _ => ic) (yS 2 (ay 1 (fun _ => cm) il) (ay 1 (fun _ => ge) io))) (ay 1 (fun _ => ie) (Az 2 (ay 1 (fun _ => cm) il) (ay 1 (fun _ => ge) io)))))))))))
def ahy (cm:Int) (ge:Bool) (ic:Int) (ie:Bool) (il:Int) (io:Bool) : Prop := ((afG 2 (ay 1 (fun _ => cm) il) (ay 1 (fun _ => ge) io)) /\ (ahL 2 (ay 1 (fun _ => ic) (yS 2 (ay 1 (fun _ => cm) il) (ay 1 (fun _ => ge) io))) (ay 1 (fun _ => ie) (Az 2 (ay 1 (fun _ => cm) il) (ay 1 (fun _ => ge) io)))))
def Vy (cm:Int) (ge:Bool) (ic:Int) (ie:Bool) (il:Int) (io:Bool) : Int := (Jm 2 (ay 1 (fun _ => ic) (yS 2 (ay 1 (fun _ => cm) il) (ay 1 (fun _ => ge) io))) (ay 1 (fun _ => ie) (Az 2 (ay 1 (fun _ => cm) il) (ay 1 (fun _ => ge) io))))
def Y2 (cm:Int) (ge:Bool) (ic:Int) (ie:Bool) (il:Int) (io:Bool) : Bool := (Gg 2 (ay 1 (fun _ => ic) (yS 2 (ay 1 (fun _ => cm) il) (ay 1 (fun _ => ge) io))) (ay 1 (fun _ => ie) (Az 2 (ay 1 (fun _ => cm) il) (ay 1 (fun _ => ge) io))))
theorem avf (cm:Int) (ge:Bool) (ic:Int) (ie:Bool) (il:Int) (io:Bool) {K0 : Int -> Bool -> Prop} (h : ahy cm ge ic ie il io) (hK : K0 (Vy cm ge ic ie il io) (Y2 cm ge ic ie il io)) : amQ cm ge ic ie il io K0  := by
 unfold amQ ahy Vy Y2 at *
 simp only [aH, true_and]; try simp only [aH, true_and] at h
 repeat' first | exact hK | refine ⟨rfl, ?_⟩ | refine ⟨trivial, ?_⟩ | refine ⟨by decide, ?_⟩ | (refine ⟨h.1, ?_⟩; replace h := h.2) | refine ⟨h, ?_⟩
theorem afz {a b c : Int} {f g h : Bool} (ha : Num' a) (hb : Num' b) (hc : Num' c) : ahy a f b g c h /\ ae6 a f b g c h /\ Vy a f b g c h = iY a f b g c h /\ Y2 a f b g c h = iC a f b g c h /\ Num' (iY a f b g c h) := by
  unfold ahy ae6 Vy Y2 iY iC
  obtain ⟨p1, p2, e1, e2, hn⟩ := ame (n := 2) (y := ay 1 (fun _ => f) h) (by decide) (KE ha hc)
  rw [e1, e2]
  obtain ⟨q1, q2, g1, g2, hm⟩ := afy (n := 2) (y := ay 1 (fun _ => g) (Aw 2 (ay 1 (fun _ => a) c) (ay 1 (fun _ => f) h))) (by decide) (KE hb hn)
  exact ⟨⟨p1, q1⟩, ⟨p2, q2⟩, g1, g2, hm⟩
def MW (cm:Int) (ge:Bool) (ic:Int) (ie:Bool) : Bool := (eP (aZ cm ge) (aZ ic ie))
def MX (cm:Int) (ge:Bool) (ic:Int) (ie:Bool) : Int := (fO (aZ cm ge) (aZ ic ie))
def MZ (cm:Int) (ge:Bool) (ic:Int) (ie:Bool) : Int := (fH (aZ cm ge) (aZ ic ie))
def Na (il:Int) (io:Bool) (je:Int) (jf:Bool) : Bool := (eP (aZ il io) (aZ je jf))
def Nb (il:Int) (io:Bool) (je:Int) (jf:Bool) : Int := (fO (aZ il io) (aZ je jf))
def Nc (il:Int) (io:Bool) (je:Int) (jf:Bool) : Int := (fH (aZ il io) (aZ je jf))
def RG (cm:Int) (ge:Bool) (ic:Int) (ie:Bool) (il:Int) (io:Bool) (je:Int) (jf:Bool) : Bool := (wu (MW cm ge ic ie) (MX cm ge ic ie) (MZ cm ge ic ie) (Na il io je jf) (Nb il io je jf) (Nc il io je jf))
def RH (cm:Int) (ge:Bool) (ic:Int) (ie:Bool) (il:Int) (io:Bool) (je:Int) (jf:Bool) : Int := (uG (MW cm ge ic ie) (MX cm ge ic ie) (MZ cm ge ic ie) (Na il io je jf) (Nb il io je jf) (Nc il io je jf))
def RI (cm:Int) (ge:Bool) (ic:Int) (ie:Bool) (il:Int) (io:Bool) (je:Int) (jf:Bool) : Int := (uH (MW cm ge ic ie) (MX cm ge ic ie) (MZ cm ge ic ie) (Na il io je jf) (Nb il io je jf) (Nc il io je jf))
def VQ (cm:Int) (ge:Bool) (ic:Int) (ie:Bool) (il:Int) (io:Bool) (je:Int) (jf:Bool) : Bool := (F6 (RG cm ge ic ie il io je jf) (RH cm ge ic ie il io je jf) (RI cm ge ic ie il io je jf))
def Pz (cm:Int) (ge:Bool) (ic:Int) (ie:Bool) (il:Int) (io:Bool) (je:Int) (jf:Bool) : Int := (IL (RG cm ge ic ie il io je jf) (RH cm ge ic ie il io je jf) (RI cm ge ic ie il io je jf))
def PD (cm:Int) (ge:Bool) (ic:Int) (ie:Bool) (il:Int) (io:Bool) (je:Int) (jf:Bool) : Int := (IQ (RG cm ge ic ie il io je jf) (RH cm ge ic ie il io je jf) (RI cm ge ic ie il io je jf))
def PE (cm:Int) (ge:Bool) (ic:Int) (ie:Bool) (il:Int) (io:Bool) (je:Int) (jf:Bool) : Bool := (CZ 4 (dO 1 (fun _ => (aZ cm ge)) (dO 1 (fun _ => (aZ ic ie)) (ay 1 (fun _ => (aZ il io)) (aZ je jf)))) (dO 1 (fun _ => (fC cm ge)) (dO 1 (fun _ => (fC ic ie)) (ay 1 (fun _ => (fC il io)) (fC je jf)))))
def VT (cm:Int) (ge:Bool) (ic:Int) (ie:Bool) (il:Int) (io:Bool) (je:Int) (jf:Bool) : Int := (sD (VQ cm ge ic ie il io je jf) (Pz cm ge ic ie il io je jf) (PD cm ge ic ie il io je jf) (PE cm ge ic ie il io je jf))
def VU (cm:Int) (ge:Bool) (ic:Int) (ie:Bool) (il:Int) (io:Bool) (je:Int) (jf:Bool) : Bool := (sF (VQ cm ge ic ie il io je jf) (Pz cm ge ic ie il io je jf) (PD cm ge ic ie il io je jf) (PE cm ge ic ie il io je jf))
def amg (cm:Int) (ge:Bool) (ic:Int) (ie:Bool) (il:Int) (io:Bool) (je:Int) (jf:Bool) (K0 : Int -> Bool -> Prop)  : Prop := Ts 6 (((Fh cm ge) /\ Ts 1 (((Fh ic ie) /\ Ts 1 (((Fh il io) /\ Ts 1 (((Fh je jf) /\ Ts 4 ((true = true /\ Ts 4 (((TR (aZ cm ge) (aZ ic ie)) /\ Ts 4 (((TR (aZ il io) (aZ je jf)) /\ ((O6 (MW cm ge ic ie) (MX cm ge ic ie) (MZ cm ge ic ie) (Na il io je jf) (Nb il io je jf) (Nc il io je jf)) /\ ((afl (RG cm ge ic ie il io je jf) (RH cm ge ic ie il io je jf) (RI cm ge ic ie il io je jf)) /\ Ts 5 (((O5 4 (dO 1 (fun _ => (aZ cm ge)) (dO 1 (fun _ => (aZ ic ie)) (ay 1 (fun _ => (aZ il io)) (aZ je jf)))) (dO 1 (fun _ => (fC cm ge)) (dO 1 (fun _ => (fC ic ie)) (ay 1 (fun _ => (fC il io)) (fC je jf))))) /\ ((TP (VQ cm ge ic ie il io je jf) (Pz cm ge ic ie il io je jf) (PD cm ge ic ie il io je jf) (PE cm ge ic ie il io je jf)) /\ Ts 1 ((true = true /\ Ts 1 (K0 (VT cm ge ic ie il io je jf) (VU cm ge ic ie il io je jf)))))))))))))))))))))))
def VX (cm:Int) (ge:Bool) (ic:Int) (ie:Bool) (il:Int) (io:Bool) (je:Int) (jf:Bool) : Prop := ((O6 (MW cm ge ic ie) (MX cm ge ic ie) (MZ cm ge ic ie) (Na il io je jf) (Nb il io je jf) (Nc il io je jf)) /\ (O5 4 (dO 1 (fun _ => (aZ cm ge)) (dO 1 (fun _ => (aZ ic ie)) (ay 1 (fun _ => (aZ il io)) (aZ je jf)))) (dO 1 (fun _ => (fC cm ge)) (dO 1 (fun _ => (fC ic ie)) (ay 1 (fun _ => (fC il io)) (fC je jf))))))
def Di (cm:Int) (ge:Bool) (ic:Int) (ie:Bool) (il:Int) (io:Bool) (je:Int) (jf:Bool) : Int := (VT cm ge ic ie il io je jf)
def Dj (cm:Int) (ge:Bool) (ic:Int) (ie:Bool) (il:Int) (io:Bool) (je:Int) (jf:Bool) : Bool := (VU cm ge ic ie il io je jf)
theorem auT (cm:Int) (ge:Bool) (ic:Int) (ie:Bool) (il:Int) (io:Bool) (je:Int) (jf:Bool) {K0 : Int -> Bool -> Prop} (h : VX cm ge ic ie il io je jf) (hK : K0 (Di cm ge ic ie il io je jf) (Dj cm ge ic ie il io je jf)) : amg cm ge ic ie il io je jf K0  := by
 unfold amg VX Di Dj at *
 simp only [aH, true_and]; try simp only [aH, true_and] at h
 repeat' first | exact hK | refine ⟨rfl, ?_⟩ | refine ⟨trivial, ?_⟩ | refine ⟨by decide, ?_⟩ | (refine ⟨h.1, ?_⟩; replace h := h.2) | refine ⟨h, ?_⟩
theorem afA {a b c d : Int} {e f g h : Bool} (ha : Num' a) (hb : Num' b) (hc : Num' c) (hd : Num' d) : VX a e b f c g d h /\ Kz a e b f c g d h /\ Di a e b f c g d h = pX a e b f c g d h /\ Dj a e b f c g d h = vU a e b f c g d h /\ Num' (pX a e b f c g d h) := by
  obtain ⟨p2, g1, g2⟩ := MO (e := e) (f := f) (g := g) (h := h) ha hb hc hd
  rw [g1, g2]
  unfold VX Di Dj
  simp only [MW, MX, MZ, Na, Nb, Nc, RG, RH, RI, VQ, Pz, PD, PE, VT, VU]
  simp only [uT, GI, eX ha, eX hb, eX hc, eX hd, dX ha, dX hb, dX hc, dX hd, alU]
  obtain ⟨h1, h2, h3, h4⟩ := Ro ha hb
  obtain ⟨j1, j2, j3, j4⟩ := Ro hc hd
  obtain ⟨p, q1, q2, q3⟩ := C9 (a := eP a b) (b := eP c d) h1 h2 j1 j2 (by omega) (by omega)
  obtain ⟨d1, d2, d3⟩ := Rq (neg := wu (eP a b) (fO a b) (fH a b) (eP c d) (fO c d) (fH c d)) q1 q2
  rw [q3, h3, j3] at d3
  obtain ⟨e1, e2⟩ := uI (neg := F6 (wu (eP a b) (fO a b) (fH a b) (eP c d) (fO c d) (fH c d)) (uG (eP a b) (fO a b) (fH a b) (eP c d) (fO c d) (fH c d)) (uH (eP a b) (fO a b) (fH a b) (eP c d) (fO c d) (fH c d))) d1 d2 (e || f || g || h)
  rw [d3] at e1 e2
  exact ⟨⟨p, (by show 4 <= 1000000; decide)⟩, p2, e1, e2, sJ _⟩
def alL (a0 a1 a2 a3:Int) (K0 : Int -> Prop)  : Prop := Ts 3 (((TR a0 a1) /\ Ts 4 (((TR a2 a3) /\ Ts 9 (((O6 (eP a0 a1) (fO a0 a1) (fH a0 a1) (!(eP a2 a3)) (fO a2 a3) (fH a2 a3)) /\ Ts 7 (cond ((ieq (uG (eP a0 a1) (fO a0 a1) (fH a0 a1) (!(eP a2 a3)) (fO a2 a3) (fH a2 a3)) 0) && (ieq (uH (eP a0 a1) (fO a0 a1) (fH a0 a1) (!(eP a2 a3)) (fO a2 a3) (fH a2 a3)) 0)) (Ts 1 (K0 0)) (Ts 3 (cond (wu (eP a0 a1) (fO a0 a1) (fH a0 a1) (!(eP a2 a3)) (fO a2 a3) (fH a2 a3)) (Ts 1 (K0 (-1))) (Ts 1 (K0 1)))))))))))
def afb (a0 a1 a2 a3:Int) : Prop := (O6 (eP a0 a1) (fO a0 a1) (fH a0 a1) (!(eP a2 a3)) (fO a2 a3) (fH a2 a3))
def FX (a0 a1 a2 a3:Int) : Int := (cond ((ieq (uG (eP a0 a1) (fO a0 a1) (fH a0 a1) (!(eP a2 a3)) (fO a2 a3) (fH a2 a3)) 0) && (ieq (uH (eP a0 a1) (fO a0 a1) (fH a0 a1) (!(eP a2 a3)) (fO a2 a3) (fH a2 a3)) 0)) 0 (cond (wu (eP a0 a1) (fO a0 a1) (fH a0 a1) (!(eP a2 a3)) (fO a2 a3) (fH a2 a3)) (-1) 1))
theorem aud (a0 a1 a2 a3:Int) {K0 : Int -> Prop} (h : afb a0 a1 a2 a3) (hK : K0 (FX a0 a1 a2 a3)) : alL a0 a1 a2 a3 K0  := by
 unfold alL afb FX at *
 simp only [aH, true_and]; try simp only [aH, true_and] at h
 repeat' first | exact hK | (refine aC (fun c => ?_) (fun c => ?_) <;> try simp only [c, cond_true, cond_false] at h hK ⊢) | refine ⟨rfl, ?_⟩ | refine ⟨trivial, ?_⟩ | refine ⟨by decide, ?_⟩ | (refine ⟨h.1, ?_⟩; replace h := h.2) | refine ⟨h, ?_⟩
def AX (x y:Int) : Int := if x = y then 0 else if x < y then -1 else 1
theorem VZ {x y : Int} (h : x = y) : AX x y = 0 := if_pos h
theorem Nh {x y : Int} (h : x < y) : AX x y = -1 := by unfold AX; rw [if_neg (by omega), if_pos h]
theorem Nj {x y : Int} (h : y < x) : AX x y = 1 := by unfold AX; rw [if_neg (by omega), if_neg (by omega)]
theorem Dk {a b c d : Int} (ha : Num' a) (hb : Num' b) (hc : Num' c) (hd : Num' d) : afb a b c d /\ FX a b c d = AX (a * b) (c * d) := by
  unfold afb FX
  obtain ⟨h1, h2, h3, h4⟩ := Ro ha hb
  obtain ⟨j1, j2, j3, j4⟩ := Ro hc hd
  obtain ⟨p, q1, q2, q3⟩ := C9 (a := eP a b) (b := !(eP c d)) h1 h2 j1 j2 (by omega) (by omega)
  have e : VW (!(eP c d)) (fH c d) (fO c d) = -(c * d) := by
    rw [<- j3]
    cases eP c d
    . rw [Bool.not_false, oH, pO]
    . rw [Bool.not_true, oH, pO]; omega
  rw [h3, e] at q3
  refine ⟨p, ?_⟩
  generalize wu (eP a b) (fO a b) (fH a b) (!(eP c d)) (fO c d) (fH c d) = neg at *
  generalize uG (eP a b) (fO a b) (fH a b) (!(eP c d)) (fO c d) (fH c d) = lo at *
  generalize uH (eP a b) (fO a b) (fH a b) (!(eP c d)) (fO c d) (fH c d) = hi at *
  obtain ⟨_, _⟩ := q1
  obtain ⟨_, _⟩ := q2
  unfold AX
  cases hz : (ieq lo 0 && ieq hi 0) with
  | true =>
    rw [Bool.and_eq_true, kE, kE] at hz
    obtain ⟨rfl, rfl⟩ := hz
    have : VW neg 0 0 = 0 := by cases neg <;> rfl
    rw [if_pos (by omega)]
    rfl
  | false =>
    have hne : lo ≠ 0 \/ hi ≠ 0 := by
      by_cases h : lo = 0
      . right
        intro h'
        rw [kE.2 h, kE.2 h'] at hz
        cases hz
      . exact .inl h
    simp only [cond_false]
    cases neg
    . rw [pO] at q3
      rw [if_neg (by omega), if_neg (by omega)]; rfl
    . rw [oH] at q3
      rw [if_neg (by omega), if_pos (by omega)]; rfl
theorem afB {a b c d : Int} (ha : Num' a) (hb : Num' b) (hc : Num' c) (hd : Num' d) : NY a b c d = AX (a * b) (c * d) := by
  unfold NY
  obtain ⟨t1, t2, t3⟩ := yE ha hb
  obtain ⟨s1, s2, s3⟩ := yE hc hd
  rw [<- t2, <- s2]
  have hl := ahx (fZ a b) (iH a b) (iK a b) (fZ c d) (iH c d) (iK c d) t1.ul s1.ul
  generalize AQ (fZ a b) (iH a b) (iK a b) (fZ c d) (iH c d) (iK c d) = L at *
  obtain ⟨⟨_, _⟩, ⟨_, _⟩, c1⟩ := t1
  obtain ⟨⟨_, _⟩, ⟨_, _⟩, c2⟩ := s1
  clear t2 s2
  generalize fZ a b = n1 at *
  generalize iH a b = h1 at *
  generalize iK a b = l1 at *
  generalize fZ c d = n2 at *
  generalize iH c d = h2 at *
  generalize iK c d = l2 at *
  cases n1 <;> cases n2 <;> simp only [jU, oH, pO] <;> simp only [BEq.rfl, Bool.true_and, Bool.false_and, Bool.not_true, cond_false, cond_true, show (false == true) = false from rfl, show (true == false) = false from rfl, Bool.not_false]
  . cases hz : (ieq h1 h2 && ieq l1 l2) with
    | true =>
      rw [Bool.and_eq_true, kE, kE] at hz
      rw [cond_true, VZ (by omega)]
    | false =>
      have hne : h1 ≠ h2 \/ l1 ≠ l2 := by
        by_cases h : h1 = h2
        . right; intro h'; rw [kE.2 h, kE.2 h'] at hz; cases hz
        . exact .inl h
      rw [cond_false]
      cases L with
      | true => have := hl.1 rfl; rw [Nh (by omega)]; rfl
      | false =>
        have : ¬ (h1 * 18446744073709551616 + l1 < h2 * 18446744073709551616 + l2) := fun h => by cases hl.2 h
        rw [Nj (by omega)]; rfl
  . have := c2 rfl
    rw [Nj (by omega)]
  . have := c1 rfl
    rw [Nh (by omega)]
  . cases hz : (ieq h1 h2 && ieq l1 l2) with
    | true =>
      rw [Bool.and_eq_true, kE, kE] at hz
      rw [cond_true, VZ (by omega)]
    | false =>
      have hne : h1 ≠ h2 \/ l1 ≠ l2 := by
        by_cases h : h1 = h2
        . right; intro h'; rw [kE.2 h, kE.2 h'] at hz; cases hz
        . exact .inl h
      rw [cond_false]
      cases L with
      | true => have := hl.1 rfl; rw [Nj (by omega)]; rfl
      | false =>
        have : ¬ (h1 * 18446744073709551616 + l1 < h2 * 18446744073709551616 + l2) := fun h => by cases hl.2 h
        rw [Nh (by omega)]; rfl
def V3 (cm:Int) (ge:Bool) : Int := (lV (dh (aZ cm ge)) (bg (aZ cm ge)) (dK (aZ cm ge)))
def V4 (cm:Int) (ge:Bool) : Int := (jH (dh (aZ cm ge)) (bg (aZ cm ge)) (dK (aZ cm ge)))
def V5 (cm:Int) (ge:Bool) : Int := (IW (V3 cm ge) (V4 cm ge))
def Zl (cm:Int) (ge:Bool) : Int := (sD false (V5 cm ge) 0 (fC cm ge))
def Zm (cm:Int) (ge:Bool) : Bool := (sF false (V5 cm ge) 0 (fC cm ge))
def alz (cm:Int) (ge:Bool) (K0 : Int -> Bool -> Prop)  : Prop := Ts 3 (((Fh cm ge) /\ Ts 4 (cond (ilt (aZ cm ge) 0) (Ts 3 (K0 0 true)) (Ts 2 (((TQ (aZ cm ge)) /\ ((adk (dh (aZ cm ge)) (bg (aZ cm ge)) (dK (aZ cm ge))) /\ Ts 1 (((adp (V3 cm ge) (V4 cm ge)) /\ Ts 4 (((TP false (V5 cm ge) 0 (fC cm ge)) /\ Ts 1 ((true = true /\ Ts 1 (K0 (Zl cm ge) (Zm cm ge)))))))))))))))
def Vl (cm:Int) (ge:Bool) : Prop := (cond (ilt (aZ cm ge) 0) True (adp (V3 cm ge) (V4 cm ge)))
def yC (cm:Int) (ge:Bool) : Int := (cond (ilt (aZ cm ge) 0) 0 (Zl cm ge))
def Au (cm:Int) (ge:Bool) : Bool := (cond (ilt (aZ cm ge) 0) true (Zm cm ge))
theorem atW (cm:Int) (ge:Bool) {K0 : Int -> Bool -> Prop} (h : Vl cm ge) (hK : K0 (yC cm ge) (Au cm ge)) : alz cm ge K0  := by
 unfold alz Vl yC Au at *
 simp only [aH, true_and]; try simp only [aH, true_and] at h
 repeat' first | exact hK | (refine aC (fun c => ?_) (fun c => ?_) <;> try simp only [c, cond_true, cond_false] at h hK ⊢) | refine ⟨rfl, ?_⟩ | refine ⟨trivial, ?_⟩ | refine ⟨by decide, ?_⟩ | (refine ⟨h.1, ?_⟩; replace h := h.2) | refine ⟨h, ?_⟩
theorem ahD {v : Int} {f : Bool} (hv : Num' v) : Vl v f /\ WA v f /\ yC v f = A8 v f /\ Au v f = Y5 v f /\ Num' (A8 v f) := by
  unfold Vl WA yC Au A8 Y5
  simp only [Q8, Q9, Rf, YX, YZ, Y4, afU, af5, V3, V4, V5, Zl, Zm]
  simp only [uT, GI, jQ, eX hv, dX hv]
  by_cases h : v < 0
  . rw [dY.2 h]
    exact ⟨trivial, trivial, rfl, rfl, (show Num' 0 from ⟨by decide, by decide⟩)⟩
  . rw [fJ.2 (by omega)]
    simp only [cond_false]
    obtain ⟨e0, e1, e2, e3⟩ := Rn hv
    have u1 : U64 (bg v) := by rw [e1]; obtain ⟨_, _⟩ := hv; exact ⟨by omega, by omega⟩
    obtain ⟨g1, g2, g3⟩ := Rt (neg := dh v) u1 (hi := dK v) (by rw [e2]; omega)
    obtain ⟨x1, x2⟩ := Ky hv
    have xs : bJ v = 0 := rfl
    have xl : bU v = max v (-v) := size_eq hv
    obtain ⟨y1, y2, y3⟩ := XM (neg := bW v) (hi := bJ v) (lo := bU v) (by rw [xs]; omega) x1.ul
    rw [e1, e2] at g3
    rw [xl, xs] at y3
    have n1 : jH (dh v) (bg v) (dK v) * 18446744073709551616 + lV (dh v) (bg v) (dK v) = v * 4294967296 := by rw [e1, e2, g3]; omega
    have n2 : SS (bW v) (bJ v) (bU v) * 18446744073709551616 + fQ (bW v) (bJ v) (bU v) = v * 4294967296 := by rw [xl, xs, y3]; omega
    have hU := abN (n := v * 4294967296) (by omega) (by obtain ⟨_, _⟩ := hv; omega)
    unfold IW V7 Zf Vu
    rw [n1, n2]
    obtain ⟨q1, q2⟩ := uI (neg := false) hU (hi := 0) ⟨by omega, by omega⟩ f
    obtain ⟨r1, r2⟩ := FV (neg := false) (hi := 0) ⟨by omega, by omega⟩ hU f
    exact ⟨⟨g1, g2⟩, ⟨y1, y2⟩, by rw [q1, r1], by rw [q2, r2], by rw [r1]; exact sJ _⟩
def amR (cm:Int) (ge:Bool) (ic:Int) (ie:Bool) (K0 : Int -> Prop)  : Prop := Ts 4 (((Fh cm ge) /\ Ts 2 (((Fh ic ie) /\ Ts 1 (((acY (aZ cm ge) (aZ ic ie)) /\ Ts 1 ((true = true /\ K0 (Ap (aZ cm ge) (aZ ic ie))))))))))
def aiQ (cm:Int) (ge:Bool) (ic:Int) (ie:Bool) : Prop := True
def Js (cm:Int) (ge:Bool) (ic:Int) (ie:Bool) : Int := (Ap (aZ cm ge) (aZ ic ie))
theorem avm (cm:Int) (ge:Bool) (ic:Int) (ie:Bool) {K0 : Int -> Prop} (h : aiQ cm ge ic ie) (hK : K0 (Js cm ge ic ie)) : amR cm ge ic ie K0  := by
 unfold amR aiQ Js at *
 simp only [aH, true_and]
 repeat' first | exact hK | refine ⟨rfl, ?_⟩ | refine ⟨trivial, ?_⟩ | refine ⟨by decide, ?_⟩ | (refine ⟨h.1, ?_⟩; replace h := h.2) | refine ⟨h, ?_⟩
def acU (ii:Int) (ik:Bool) (im:Int) (ip:Bool) : Prop := (alO ii ik im ip)
def CB (ii:Int) (ik:Bool) (im:Int) (ip:Bool) : Int := (Vw ii ik im ip)
def CG (ii:Int) (ik:Bool) (im:Int) (ip:Bool) : Bool := (YV ii ik im ip)
def amk (cm ge:Int) (K0 : Int -> Bool -> Int -> Bool -> Prop)  : Prop := Ts 4 (((Hl cm 256) /\ Ts 2 (((Hl ge 256) /\ Ts 2 ((true = true /\ Ts 1 (K0 (jG cm 256) (jW cm 256) (jG ge 256) (jW ge 256))))))))
def TT (cm ge:Int) : Prop := ((Hl cm 256) /\ (Hl ge 256))
def iT (cm ge:Int) : Int := (jG cm 256)
def iZ (cm ge:Int) : Bool := (jW cm 256)
def iU (cm ge:Int) : Int := (jG ge 256)
def jA (cm ge:Int) : Bool := (jW ge 256)
theorem auX (cm ge:Int) {K0 : Int -> Bool -> Int -> Bool -> Prop} (h : TT cm ge) (hK : K0 (iT cm ge) (iZ cm ge) (iU cm ge) (jA cm ge)) : amk cm ge K0  := by
 unfold amk TT iT iZ iU jA at *
 simp only [aH, true_and]; try simp only [aH, true_and] at h
 repeat' first | exact hK | refine ⟨rfl, ?_⟩ | refine ⟨trivial, ?_⟩ | refine ⟨by decide, ?_⟩ | (refine ⟨h.1, ?_⟩; replace h := h.2) | refine ⟨h, ?_⟩
def IE (ig:Nat) (ii:Nat -> Int) (ik : Nat -> Bool) (im:Nat -> Int) (ip : Nat -> Bool) (oa ob:Bool) (j5:Int) (m9:Nat) (ll : (Nat -> Int)) (lm : (Nat -> Bool)) (k6:Nat) (ky : (Nat -> Int)) (kz : (Nat -> Bool)) (c x0 : Bool -> Bool -> Int -> Nat -> (Nat -> Int) -> (Nat -> Bool) -> Nat -> (Nat -> Int) -> (Nat -> Bool) -> Prop)  : Prop := Ts 4 (cond (ilt j5 (ig:Int)) (Ts 3 (((0 <= j5 /\ j5 < (ig:Int)) /\ Ts 3 ((((m9 + 1) * 16 <= 1000000000000 /\ (m9 + 1) <= 1000000000000) /\ Ts 3 (((0 <= j5 /\ j5 < (ig:Int)) /\ Ts 3 ((((k6 + 1) * 16 <= 1000000000000 /\ (k6 + 1) <= 1000000000000) /\ Ts 2 ((true = true /\ Ts 3 (c false false (au .i64 j5 1) (m9 + 1) (ay m9 ll (ii (Int.toNat j5))) (ay m9 lm (ik (Int.toNat j5))) (k6 + 1) (ay k6 ky (im (Int.toNat j5))) (ay k6 kz (ip (Int.toNat j5))))))))))))))) (x0 oa ob j5 m9 ll lm k6 ky kz))
def yK (ig:Nat) (ii:Nat -> Int) (ik : Nat -> Bool) (im:Nat -> Int) (ip : Nat -> Bool) : Nat -> Bool -> Bool -> Int -> Nat -> (Nat -> Int) -> (Nat -> Bool) -> Nat -> (Nat -> Int) -> (Nat -> Bool) -> (Bool -> Bool -> Int -> Nat -> (Nat -> Int) -> (Nat -> Bool) -> Nat -> (Nat -> Int) -> (Nat -> Bool) -> Prop) -> Prop
  | 0, _, _, _, _, _, _, _, _, _, _ => False
  | f + 1, w0, w1, w2, w3, w4, w5, w6, w7, w8, x0 => IE ig ii ik im ip w0 w1 w2 w3 w4 w5 w6 w7 w8 (fun u0 u1 u2 u3 u4 u5 u6 u7 u8 => yK ig ii ik im ip f u0 u1 u2 u3 u4 u5 u6 u7 u8 x0) x0 
theorem ab3 (ig:Nat) (ii:Nat -> Int) (ik : Nat -> Bool) (im:Nat -> Int) (ip : Nat -> Bool) (oa ob:Bool) (j5:Int) (m9:Nat) (ll : (Nat -> Int)) (lm : (Nat -> Bool)) (k6:Nat) (ky : (Nat -> Int)) (kz : (Nat -> Bool)) {c c' : Bool -> Bool -> Int -> Nat -> (Nat -> Int) -> (Nat -> Bool) -> Nat -> (Nat -> Int) -> (Nat -> Bool) -> Prop} {x0 y0 : Bool -> Bool -> Int -> Nat -> (Nat -> Int) -> (Nat -> Bool) -> Nat -> (Nat -> Int) -> (Nat -> Bool) -> Prop} (hc : ∀ w0 w1 w2 w3 w4 w5 w6 w7 w8, c w0 w1 w2 w3 w4 w5 w6 w7 w8 -> c' w0 w1 w2 w3 w4 w5 w6 w7 w8) (h0 : ∀ o0 o1 o2 o3 o4 o5 o6 o7 o8, x0 o0 o1 o2 o3 o4 o5 o6 o7 o8 -> y0 o0 o1 o2 o3 o4 o5 o6 o7 o8) : IE ig ii ik im ip oa ob j5 m9 ll lm k6 ky kz c x0  -> IE ig ii ik im ip oa ob j5 m9 ll lm k6 ky kz c' y0  := by
  unfold IE
  repeat' first
    | exact hc _ _ _ _ _ _ _ _ _
    | exact h0 _ _ _ _ _ _ _ _ _
    | refine dU ?_
    | refine cO ?_ ?_
    | refine cZ ?_
theorem ae9 (ig:Nat) (ii:Nat -> Int) (ik : Nat -> Bool) (im:Nat -> Int) (ip : Nat -> Bool) {x0 y0 : Bool -> Bool -> Int -> Nat -> (Nat -> Int) -> (Nat -> Bool) -> Nat -> (Nat -> Int) -> (Nat -> Bool) -> Prop} (h0 : ∀ o0 o1 o2 o3 o4 o5 o6 o7 o8, x0 o0 o1 o2 o3 o4 o5 o6 o7 o8 -> y0 o0 o1 o2 o3 o4 o5 o6 o7 o8) : ∀ (f:Nat) (oa:Bool) (ob:Bool) (j5:Int) (m9:Nat) (ll : (Nat -> Int)) (lm : (Nat -> Bool)) (k6:Nat) (ky : (Nat -> Int)) (kz : (Nat -> Bool)), yK ig ii ik im ip f oa ob j5 m9 ll lm k6 ky kz x0 -> yK ig ii ik im ip f oa ob j5 m9 ll lm k6 ky kz y0
  | 0, w0, w1, w2, w3, w4, w5, w6, w7, w8 => fun h => h
  | f + 1, w0, w1, w2, w3, w4, w5, w6, w7, w8 => ab3 ig ii ik im ip w0 w1 w2 w3 w4 w5 w6 w7 w8 (fun u0 u1 u2 u3 u4 u5 u6 u7 u8 => ae9 ig ii ik im ip h0 f u0 u1 u2 u3 u4 u5 u6 u7 u8) h0
def alr (ig:Nat) (ii:Nat -> Int) (ik : Nat -> Bool) (im:Nat -> Int) (ip : Nat -> Bool) (K0 : Int -> Bool -> Int -> Bool -> Prop) (l0 : Bool -> Bool -> Int -> Nat -> (Nat -> Int) -> (Nat -> Bool) -> Nat -> (Nat -> Int) -> (Nat -> Bool) -> (Bool -> Bool -> Int -> Nat -> (Nat -> Int) -> (Nat -> Bool) -> Nat -> (Nat -> Int) -> (Nat -> Bool) -> Prop) -> Prop) : Prop := Ts 4 ((l0 true true 0 0 (fun _ => 0) (fun _ => false) 0 (fun _ => 0) (fun _ => false) (fun rq ru qg qj ou ov jl jc jd => Ts 1 (((O4 qj ou ov) /\ Ts 1 (((O4 jl jc jd) /\ Ts 3 (K0 (rH qj ou ov) (pY qj ou ov) (rH jl jc jd) (pY jl jc jd)))))))))
theorem RJ {f g : Nat -> Int} : ∀ (n:Nat), (∀ k, k < n -> f k = g k) -> yH f n = yH g n
  | 0, _ => rfl
  | n + 1, h => by unfold yH; rw [RJ n (fun k hk => h k (by omega)), h n (by omega)]
theorem RN {f g : Nat -> Bool} : ∀ (n:Nat), (∀ k, k < n -> f k = g k) -> vN f n = vN g n
  | 0, _ => rfl
  | n + 1, h => by unfold vN; rw [RN n (fun k hk => h k (by omega)), h n (by omega)]
theorem UH {n : Nat} {x x' : Nat -> Int} {y y' : Nat -> Bool} (h1 : ∀ k, k < n -> x k = x' k) (h2 : ∀ k, k < n -> y k = y' k) : rH n x y = rH n x' y' /\ pY n x y = pY n x' y' := by
  unfold rH pY kR
  rw [RJ n h1, RN n (fun k hk => by show dP (x k) (y k) = dP (x' k) (y' k); rw [h1 k hk, h2 k hk])]
  exact ⟨rfl, rfl⟩
def ae2 (n:Nat) (xa:Nat -> Int) (xb : Nat -> Bool) (ya:Nat -> Int) (yb : Nat -> Bool) : Prop := n <= 1000000 /\ ∀ k, k < n -> TN (xa k) /\ TN (ya k)
def Aq (n:Nat) (xa:Nat -> Int) (xb : Nat -> Bool) (ya:Nat -> Int) (yb : Nat -> Bool) : Int := rH n xa xb
def Jl (n:Nat) (xa:Nat -> Int) (xb : Nat -> Bool) (ya:Nat -> Int) (yb : Nat -> Bool) : Bool := pY n xa xb
def IG (n:Nat) (xa:Nat -> Int) (xb : Nat -> Bool) (ya:Nat -> Int) (yb : Nat -> Bool) : Int := rH n ya yb
def Nl (n:Nat) (xa:Nat -> Int) (xb : Nat -> Bool) (ya:Nat -> Int) (yb : Nat -> Bool) : Bool := pY n ya yb
theorem GK {α : Type} {i : Nat} {c a : Nat -> α} (h : ∀ k, k < i -> c k = a k) : ∀ k, k < i + 1 -> ay i c (a i) k = a k := fun k hk => by
  unfold ay
  cases hb : Nat.blt k i with
  | true => rw [Nat.blt_eq] at hb; exact h k hb
  | false =>
    have : ¬ k < i := fun e => by rw [<- Nat.blt_eq, hb] at e; cases e
    rw [show k = i by omega]
    rfl
theorem afd {n : Nat} {xa : Nat -> Int} {xb : Nat -> Bool} {ya : Nat -> Int} {yb : Nat -> Bool} (hn : n <= 1000000) {x0 : Bool -> Bool -> Int -> Nat -> (Nat -> Int) -> (Nat -> Bool) -> Nat -> (Nat -> Int) -> (Nat -> Bool) -> Prop}
    (h3 : ∀ q1 q2 v c0 c1 d0 d1, (∀ k, k < n -> c0 k = xa k) -> (∀ k, k < n -> c1 k = xb k) -> (∀ k, k < n -> d0 k = ya k) -> (∀ k, k < n -> d1 k = yb k) -> x0 q1 q2 v n c0 c1 n d0 d1) : ∀ (f i:Nat) (q1 q2:Bool) (c0:Nat -> Int) (c1 : Nat -> Bool) (d0:Nat -> Int) (d1 : Nat -> Bool), i <= n -> n < f + i -> (∀ k, k < i -> c0 k = xa k) -> (∀ k, k < i -> c1 k = xb k) -> (∀ k, k < i -> d0 k = ya k) -> (∀ k, k < i -> d1 k = yb k) -> yK n xa xb ya yb f q1 q2 i i c0 c1 i d0 d1 x0
  | 0, i, _, _, _, _, _, _, h1, h2, _, _, _, _ => by omega
  | f + 1, i, q1, q2, c0, c1, d0, d1, h1, h2, g1, g2, g3, g4 => by
    show IE n xa xb ya yb _ _ i _ _ _ _ _ _ _ _
    unfold IE
    simp only [aH, true_and, Int.toNat_natCast, Nat.zero_add]
    refine aC (fun hc => ?_) (fun hc => ?_)
    . rw [dY] at hc
      refine ⟨⟨by omega, hc⟩, ⟨by omega, by omega⟩, ⟨by omega, hc⟩, ⟨by omega, by omega⟩, ?_⟩
      rw [fF (by omega) (by omega)]
      exact afd hn h3 f (i + 1) _ _ _ _ _ _ (by omega) (by omega) (GK g1) (GK g2) (GK g3) (GK g4)
    . rw [fJ] at hc
      have : i = n := by omega
      subst this
      exact h3 _ _ _ _ _ _ _ g1 g2 g3 g4
theorem atP (ig:Nat) (ii:Nat -> Int) (ik : Nat -> Bool) (im:Nat -> Int) (ip : Nat -> Bool) {K0 : Int -> Bool -> Int -> Bool -> Prop} (h : ae2 ig ii ik im ip) (hK : K0 (Aq ig ii ik im ip) (Jl ig ii ik im ip) (IG ig ii ik im ip) (Nl ig ii ik im ip)) : alr ig ii ik im ip K0 (yK ig ii ik im ip fuel) := by
  unfold alr
  simp only [aH, true_and]
  obtain ⟨hn, hx⟩ := h
  refine afd hn (fun q1 q2 v c0 c1 d0 d1 g1 g2 g3 g4 => ?_) fuel 0 _ _ _ _ _ _ (Nat.zero_le _) (by rw [gW]; omega) (fun k hk => by omega) (fun k hk => by omega) (fun k hk => by omega) (fun k hk => by omega)
  obtain ⟨s1, s2⟩ := UH g1 g2
  obtain ⟨s3, s4⟩ := UH g3 g4
  refine ⟨⟨hn, fun k hk => by rw [g1 k hk]; exact (hx k hk).1⟩, ⟨hn, fun k hk => by rw [g3 k hk]; exact (hx k hk).2⟩, ?_⟩
  rw [s1, s2, s3, s4]
  exact hK
def ami (cm:Int) (ge:Bool) (K0 : Bool -> Prop)  : Prop := Ts 4 (((O4 1 (fun _ => cm) (fun _ => ge)) /\ Ts 2 (K0 (pY 1 (fun _ => cm) (fun _ => ge)))))
def V6 (cm:Int) (ge:Bool) : Prop := (O4 1 (fun _ => cm) (fun _ => ge))
def Nk (cm:Int) (ge:Bool) : Bool := (pY 1 (fun _ => cm) (fun _ => ge))
theorem auV (cm:Int) (ge:Bool) {K0 : Bool -> Prop} (h : V6 cm ge) (hK : K0 (Nk cm ge)) : ami cm ge K0  := by
 unfold ami V6 Nk at *
 simp only [aH, true_and]; try simp only [aH, true_and] at h
 repeat' first | exact hK | refine ⟨rfl, ?_⟩ | refine ⟨trivial, ?_⟩ | refine ⟨by decide, ?_⟩ | (refine ⟨h.1, ?_⟩; replace h := h.2) | refine ⟨h, ?_⟩
def amm (n:Nat) (a:Nat -> Int) (b : Nat -> Bool) (c:Nat -> Int) (d : Nat -> Bool) : Prop := n <= 1000000 /\ ∀ k, k < n -> V6 (a k) (b k) /\ V6 (c k) (d k)
def Zg (n:Nat) (a:Nat -> Int) (b : Nat -> Bool) (c:Nat -> Int) (d : Nat -> Bool) : Bool := vN (fun k => Nk (a k) (b k) || Nk (c k) (d k)) n
def afR (ii:Int) (ik:Bool) (im:Int) (ip:Bool) : Prop := ((amm 1 (fun _ => ii) (fun _ => ik) (fun _ => im) (fun _ => ip)) /\ (cond (Zg 1 (fun _ => ii) (fun _ => ik) (fun _ => im) (fun _ => ip)) True (cond (ilt (F8 ii ik) 16777216) (cond (ilt (F8 im ip) 16777216) ((acU (jC (aI .i64 ii 16777216)) (jF (aI .i64 ii 16777216)) (jC (aI .i64 im 16777216)) (jF (aI .i64 im 16777216))) /\ (cond (CG (jC (aI .i64 ii 16777216)) (jF (aI .i64 ii 16777216)) (jC (aI .i64 im 16777216)) (jF (aI .i64 im 16777216))) True (cond (ieq (CB (jC (aI .i64 ii 16777216)) (jF (aI .i64 ii 16777216)) (jC (aI .i64 im 16777216)) (jF (aI .i64 im 16777216))) 0) True ((MQ (jC (aI .i64 ii 16777216)) (jF (aI .i64 ii 16777216)) (CB (jC (aI .i64 ii 16777216)) (jF (aI .i64 ii 16777216)) (jC (aI .i64 im 16777216)) (jF (aI .i64 im 16777216))) (CG (jC (aI .i64 ii 16777216)) (jF (aI .i64 ii 16777216)) (jC (aI .i64 im 16777216)) (jF (aI .i64 im 16777216)))) /\ (MQ (jC (aI .i64 im 16777216)) (jF (aI .i64 im 16777216)) (CB (jC (aI .i64 ii 16777216)) (jF (aI .i64 ii 16777216)) (jC (aI .i64 im 16777216)) (jF (aI .i64 im 16777216))) (CG (jC (aI .i64 ii 16777216)) (jF (aI .i64 ii 16777216)) (jC (aI .i64 im 16777216)) (jF (aI .i64 im 16777216)))))))) ((acU ii ik im ip) /\ (cond (CG ii ik im ip) True (cond (ieq (CB ii ik im ip) 0) True ((MQ ii ik (CB ii ik im ip) (CG ii ik im ip)) /\ (MQ im ip (CB ii ik im ip) (CG ii ik im ip))))))) ((acU ii ik im ip) /\ (cond (CG ii ik im ip) True (cond (ieq (CB ii ik im ip) 0) True ((MQ ii ik (CB ii ik im ip) (CG ii ik im ip)) /\ (MQ im ip (CB ii ik im ip) (CG ii ik im ip)))))))))
def Gn (ii:Int) (ik:Bool) (im:Int) (ip:Bool) : Int := (cond (Zg 1 (fun _ => ii) (fun _ => ik) (fun _ => im) (fun _ => ip)) 0 (cond (ilt (F8 ii ik) 16777216) (cond (ilt (F8 im ip) 16777216) (cond (CG (jC (aI .i64 ii 16777216)) (jF (aI .i64 ii 16777216)) (jC (aI .i64 im 16777216)) (jF (aI .i64 im 16777216))) 0 (cond (ieq (CB (jC (aI .i64 ii 16777216)) (jF (aI .i64 ii 16777216)) (jC (aI .i64 im 16777216)) (jF (aI .i64 im 16777216))) 0) 0 (oI (jC (aI .i64 ii 16777216)) (jF (aI .i64 ii 16777216)) (CB (jC (aI .i64 ii 16777216)) (jF (aI .i64 ii 16777216)) (jC (aI .i64 im 16777216)) (jF (aI .i64 im 16777216))) (CG (jC (aI .i64 ii 16777216)) (jF (aI .i64 ii 16777216)) (jC (aI .i64 im 16777216)) (jF (aI .i64 im 16777216)))))) (cond (CG ii ik im ip) 0 (cond (ieq (CB ii ik im ip) 0) 0 (oI ii ik (CB ii ik im ip) (CG ii ik im ip))))) (cond (CG ii ik im ip) 0 (cond (ieq (CB ii ik im ip) 0) 0 (oI ii ik (CB ii ik im ip) (CG ii ik im ip))))))
def Rl (ii:Int) (ik:Bool) (im:Int) (ip:Bool) : Bool := (cond (Zg 1 (fun _ => ii) (fun _ => ik) (fun _ => im) (fun _ => ip)) false (cond (ilt (F8 ii ik) 16777216) (cond (ilt (F8 im ip) 16777216) (cond (CG (jC (aI .i64 ii 16777216)) (jF (aI .i64 ii 16777216)) (jC (aI .i64 im 16777216)) (jF (aI .i64 im 16777216))) false (cond (ieq (CB (jC (aI .i64 ii 16777216)) (jF (aI .i64 ii 16777216)) (jC (aI .i64 im 16777216)) (jF (aI .i64 im 16777216))) 0) false (uF (jC (aI .i64 ii 16777216)) (jF (aI .i64 ii 16777216)) (CB (jC (aI .i64 ii 16777216)) (jF (aI .i64 ii 16777216)) (jC (aI .i64 im 16777216)) (jF (aI .i64 im 16777216))) (CG (jC (aI .i64 ii 16777216)) (jF (aI .i64 ii 16777216)) (jC (aI .i64 im 16777216)) (jF (aI .i64 im 16777216)))))) (cond (CG ii ik im ip) false (cond (ieq (CB ii ik im ip) 0) false (uF ii ik (CB ii ik im ip) (CG ii ik im ip))))) (cond (CG ii ik im ip) false (cond (ieq (CB ii ik im ip) 0) false (uF ii ik (CB ii ik im ip) (CG ii ik im ip))))))
def Nu (ii:Int) (ik:Bool) (im:Int) (ip:Bool) : Int := (cond (Zg 1 (fun _ => ii) (fun _ => ik) (fun _ => im) (fun _ => ip)) 0 (cond (ilt (F8 ii ik) 16777216) (cond (ilt (F8 im ip) 16777216) (cond (CG (jC (aI .i64 ii 16777216)) (jF (aI .i64 ii 16777216)) (jC (aI .i64 im 16777216)) (jF (aI .i64 im 16777216))) 0 (cond (ieq (CB (jC (aI .i64 ii 16777216)) (jF (aI .i64 ii 16777216)) (jC (aI .i64 im 16777216)) (jF (aI .i64 im 16777216))) 0) 0 (oI (jC (aI .i64 im 16777216)) (jF (aI .i64 im 16777216)) (CB (jC (aI .i64 ii 16777216)) (jF (aI .i64 ii 16777216)) (jC (aI .i64 im 16777216)) (jF (aI .i64 im 16777216))) (CG (jC (aI .i64 ii 16777216)) (jF (aI .i64 ii 16777216)) (jC (aI .i64 im 16777216)) (jF (aI .i64 im 16777216)))))) (cond (CG ii ik im ip) 0 (cond (ieq (CB ii ik im ip) 0) 0 (oI im ip (CB ii ik im ip) (CG ii ik im ip))))) (cond (CG ii ik im ip) 0 (cond (ieq (CB ii ik im ip) 0) 0 (oI im ip (CB ii ik im ip) (CG ii ik im ip))))))
def RQ (ii:Int) (ik:Bool) (im:Int) (ip:Bool) : Bool := (cond (Zg 1 (fun _ => ii) (fun _ => ik) (fun _ => im) (fun _ => ip)) false (cond (ilt (F8 ii ik) 16777216) (cond (ilt (F8 im ip) 16777216) (cond (CG (jC (aI .i64 ii 16777216)) (jF (aI .i64 ii 16777216)) (jC (aI .i64 im 16777216)) (jF (aI .i64 im 16777216))) false (cond (ieq (CB (jC (aI .i64 ii 16777216)) (jF (aI .i64 ii 16777216)) (jC (aI .i64 im 16777216)) (jF (aI .i64 im 16777216))) 0) false (uF (jC (aI .i64 im 16777216)) (jF (aI .i64 im 16777216)) (CB (jC (aI .i64 ii 16777216)) (jF (aI .i64 ii 16777216)) (jC (aI .i64 im 16777216)) (jF (aI .i64 im 16777216))) (CG (jC (aI .i64 ii 16777216)) (jF (aI .i64 ii 16777216)) (jC (aI .i64 im 16777216)) (jF (aI .i64 im 16777216)))))) (cond (CG ii ik im ip) false (cond (ieq (CB ii ik im ip) 0) false (uF im ip (CB ii ik im ip) (CG ii ik im ip))))) (cond (CG ii ik im ip) false (cond (ieq (CB ii ik im ip) 0) false (uF im ip (CB ii ik im ip) (CG ii ik im ip))))))
def af6 (ii:Int) (ik:Bool) (im:Int) (ip:Bool) : Bool := (cond (Zg 1 (fun _ => ii) (fun _ => ik) (fun _ => im) (fun _ => ip)) false (cond (ilt (F8 ii ik) 16777216) (cond (ilt (F8 im ip) 16777216) (cond (CG (jC (aI .i64 ii 16777216)) (jF (aI .i64 ii 16777216)) (jC (aI .i64 im 16777216)) (jF (aI .i64 im 16777216))) false (cond (ieq (CB (jC (aI .i64 ii 16777216)) (jF (aI .i64 ii 16777216)) (jC (aI .i64 im 16777216)) (jF (aI .i64 im 16777216))) 0) false true)) (cond (CG ii ik im ip) false (cond (ieq (CB ii ik im ip) 0) false true))) (cond (CG ii ik im ip) false (cond (ieq (CB ii ik im ip) 0) false true))))
def aiW (ii:Int) (ik:Bool) (im:Int) (ip:Bool) (jn:Int) (jo:Bool) (i9:Int) (ja:Bool) : Prop := (Kz ii ik i9 ja (nJ im ip) (gQ im ip) jn jo)
def wG (ii:Int) (ik:Bool) (im:Int) (ip:Bool) (jn:Int) (jo:Bool) (i9:Int) (ja:Bool) : Int := (pX ii ik i9 ja (nJ im ip) (gQ im ip) jn jo)
def abk (ii:Int) (ik:Bool) (im:Int) (ip:Bool) (jn:Int) (jo:Bool) (i9:Int) (ja:Bool) : Bool := (vU ii ik i9 ja (nJ im ip) (gQ im ip) jn jo)
def amW (ii:Int) (ik:Bool) (im:Int) (ip:Bool) (jn:Int) (jo:Bool) (i9:Int) (ja:Bool) : Prop := (Kz ii ik jn jo im ip i9 ja)
def WS (ii:Int) (ik:Bool) (im:Int) (ip:Bool) (jn:Int) (jo:Bool) (i9:Int) (ja:Bool) : Int := (pX ii ik jn jo im ip i9 ja)
def af7 (ii:Int) (ik:Bool) (im:Int) (ip:Bool) (jn:Int) (jo:Bool) (i9:Int) (ja:Bool) : Bool := (vU ii ik jn jo im ip i9 ja)
def YU (ii:Int) (ik:Bool) (im:Int) (ip:Bool) (ic:Int) (ie:Bool) : Prop := True
def MP (ii:Int) (ik:Bool) (im:Int) (ip:Bool) (ic:Int) (ie:Bool) : Int := (bG ii ik ic ie)
def QO (ii:Int) (ik:Bool) (im:Int) (ip:Bool) (ic:Int) (ie:Bool) : Bool := (bK ii ik ic ie)
def abl (ii:Int) (ik:Bool) (im:Int) (ip:Bool) (ic:Int) (ie:Bool) : Int := (bG im ip ic ie)
def ahR (ii:Int) (ik:Bool) (im:Int) (ip:Bool) (ic:Int) (ie:Bool) : Bool := (bK im ip ic ie)
def am4 (a0:Int) (K0 : Bool -> Prop)  : Prop := Ts 4 (cond (ige a0 16) (Ts 4 (K0 (ile a0 4096))) (Ts 2 (K0 false)))
def afC (a0:Int) : Prop := True
def CJ (a0:Int) : Bool := (cond (ige a0 16) (ile a0 4096) false)
theorem avv (a0:Int) {K0 : Bool -> Prop} (h : afC a0) (hK : K0 (CJ a0)) : am4 a0 K0  := by
 unfold am4 afC CJ at *
 simp only [aH, true_and]
 repeat' first | exact hK | (refine aC (fun c => ?_) (fun c => ?_) <;> try simp only [c, cond_true, cond_false] at h hK ⊢)
def anx (a0:Int) (K0 : Bool -> Prop)  : Prop := Ts 4 (cond (ige a0 (-4096)) (Ts 4 (K0 (ile a0 4096))) (Ts 2 (K0 false)))
def Ze (a0:Int) : Prop := True
def Ns (a0:Int) : Bool := (cond (ige a0 (-4096)) (ile a0 4096) false)
theorem avw (a0:Int) {K0 : Bool -> Prop} (h : Ze a0) (hK : K0 (Ns a0)) : anx a0 K0  := by
 unfold anx Ze Ns at *
 simp only [aH, true_and]
 repeat' first | exact hK | (refine aC (fun c => ?_) (fun c => ?_) <;> try simp only [c, cond_true, cond_false] at h hK ⊢)
def ak9 (cm ge ic ie:Int) (K0 : Int -> Prop)  : Prop := Ts 15 (K0 (bQ .i64 (aI .i64 cm ie) (aI .i64 ge ic)))
def Qy (cm ge ic ie:Int) : Prop := True
def mF (cm ge ic ie:Int) : Int := (bQ .i64 (aI .i64 cm ie) (aI .i64 ge ic))
theorem atA (cm ge ic ie:Int) {K0 : Int -> Prop} (h : Qy cm ge ic ie) (hK : K0 (mF cm ge ic ie)) : ak9 cm ge ic ie K0  := by
 unfold ak9 Qy mF at *
 exact aH.2 hK
def amr (cm ge ic ie:Int) (K0 : Int -> Int -> Prop)  : Prop := Ts 16 (K0 (bQ .i64 cm ic) (bQ .i64 ge ie))
def V8 (cm ge ic ie:Int) : Prop := True
def dH (cm ge ic ie:Int) : Int := (bQ .i64 cm ic)
def dI (cm ge ic ie:Int) : Int := (bQ .i64 ge ie)
theorem au4 (cm ge ic ie:Int) {K0 : Int -> Int -> Prop} (h : V8 cm ge ic ie) (hK : K0 (dH cm ge ic ie) (dI cm ge ic ie)) : amr cm ge ic ie K0  := by
 unfold amr V8 dH dI at *
 exact aH.2 hK
def adx (cm ge:Int) (K0 : Int -> Prop)  : Prop := Ts 16 (K0 (au .i64 (imax cm (bM .i64 cm)) (imax ge (bM .i64 ge))))
def Zk (cm ge:Int) : Prop := True
def Wi (cm ge:Int) : Int := (au .i64 (imax cm (bM .i64 cm)) (imax ge (bM .i64 ge)))
theorem ave (cm ge:Int) {K0 : Int -> Prop} (h : Zk cm ge) (hK : K0 (Wi cm ge)) : adx cm ge K0  := by
 unfold adx Zk Wi at *
 exact aH.2 hK

end
end Go.Ag
