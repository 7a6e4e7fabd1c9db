import Derived.Test.YtbcegholicnflaaGreatBgY
set_option linter.unusedVariables false
set_option linter.unusedSimpArgs false
namespace Go.Ag
open Go.RowKit
theorem qG (a b:Int) : a < b \/ b <= a := by omega
theorem FU {x y q : Int} (hy : 0 < y) (h1 : q * y <= x) (h2 : x < (q + 1) * y) : x / y = q := by
  refine Int.le_antisymm ?_ ?_
  . have : x / y < q + 1 := Int.ediv_lt_of_lt_mul hy h2
    omega
  . exact (Int.le_ediv_iff_mul_le hy).2 h1
theorem kF {x y : Int} (hy : 0 < y) : x / y * y <= x /\ x < (x / y + 1) * y := by
  have h1 := Int.ediv_mul_le x (show y ≠ 0 by omega)
  have h2 := Int.lt_ediv_add_one_mul_self x hy
  exact ⟨h1, h2⟩
structure KnG (u un1 yn1 yn0 q r:Int) : Prop where
  q0 : 0 <= q
  r0 : 0 <= r
  eq : q * yn1 + r = u
  up : (u * 4294967296 + un1) < (q + 1) * (yn1 * 4294967296 + yn0)
  qm : q <= 4294967297
theorem aeP {a b : Int} (ha : 0 <= a) (hb : 0 <= b) : 0 <= a * b := Int.mul_nonneg ha hb
theorem qZ {a b c : Int} (h : a <= b) (hc : 0 <= c) : a * c <= b * c := Int.mul_le_mul_of_nonneg_right h hc
theorem KnG.first {u un1 yn1 yn0 : Int} (hu : 0 <= u) (hn : 0 <= un1 /\ un1 < 4294967296) (hy : 2147483648 <= yn1 /\ yn1 < 4294967296) (h0 : 0 <= yn0 /\ yn0 < 4294967296) (hlt : u < yn1 * 4294967296 + yn0) :
    KnG u un1 yn1 yn0 (u / yn1) (u - u / yn1 * yn1) := by
  obtain ⟨b1, b2⟩ := kF (x := u) (y := yn1) (by omega)
  have hq := Int.ediv_nonneg hu (show 0 <= yn1 by omega)
  generalize u / yn1 = q at *
  rw [Int.add_mul, Int.one_mul] at b2
  have hm : q <= 4294967297 := by
    rcases qG 4294967297 q with h | h
    . exfalso
      have := qZ (show (4294967298:Int) <= q by omega) (show 0 <= yn1 by omega)
      omega
    . exact h
  refine ⟨hq, by omega, by omega, ?_, hm⟩
  rw [Int.add_mul, Int.mul_add, <- Int.mul_assoc]
  have := aeP hq h0.1
  omega
theorem KnG.gt {u un1 yn1 yn0 q r : Int} (h : KnG u un1 yn1 yn0 q r) (hn : 0 <= un1 /\ un1 < 4294967296) (hy : 2147483648 <= yn1 /\ yn1 < 4294967296) (h0 : 0 <= yn0 /\ yn0 < 4294967296) (hlt : u < yn1 * 4294967296 + yn0)
    (ht : 4294967296 <= q \/ r * 4294967296 + un1 < q * yn0) : KnG u un1 yn1 yn0 (q - 1) (r + yn1) := by
  obtain ⟨q0, r0, eq, up, qm⟩ := h
  have hpos : 1 <= q := by
    rcases ht with ht | ht
    . omega
    . rcases qG 0 q with h | h
      . omega
      . have : q = 0 := by omega
        subst this
        omega
  refine ⟨by omega, by omega, ?_, ?_, by omega⟩
  . rw [Int.sub_mul, Int.one_mul]; omega
  . rw [show q - 1 + 1 = q by omega, Int.mul_add, <- Int.mul_assoc]
    rcases ht with ht | ht
    . have := qZ ht (show 0 <= yn1 by omega)
      have h2 := qZ ht h0.1
      omega
    . omega
theorem KnG.le {u un1 yn1 yn0 q r : Int} (h : KnG u un1 yn1 yn0 q r) (hn : 0 <= un1 /\ un1 < 4294967296) (hy : 2147483648 <= yn1 /\ yn1 < 4294967296) (h0 : 0 <= yn0 /\ yn0 < 4294967296)
    (ht : q * yn0 <= r * 4294967296 + un1) : q * (yn1 * 4294967296 + yn0) <= u * 4294967296 + un1 := by
  rw [Int.mul_add, <- Int.mul_assoc]
  have := h.eq
  omega
theorem KnG.big {u un1 yn1 yn0 q r : Int} (h : KnG u un1 yn1 yn0 q r) (hn : 0 <= un1 /\ un1 < 4294967296) (hy : 2147483648 <= yn1 /\ yn1 < 4294967296) (h0 : 0 <= yn0 /\ yn0 < 4294967296)
    (hr : 4294967296 <= r) (hq : q <= 4294967296) : q * (yn1 * 4294967296 + yn0) <= u * 4294967296 + un1 := by
  refine h.le hn hy h0 ?_
  have := Int.mul_le_mul hq (show yn0 <= 4294967295 by omega) h0.1 (by omega)
  omega
theorem XD {u un1 Y : Int} (hu : 0 <= u) (hn : 0 <= un1 /\ un1 < 4294967296) (hY : u < Y) : 0 <= (u * 4294967296 + un1) / Y /\ (u * 4294967296 + un1) / Y < 4294967296 /\ 0 <= u * 4294967296 + un1 - (u * 4294967296 + un1) / Y * Y /\ u * 4294967296 + un1 - (u * 4294967296 + un1) / Y * Y < Y := by
  obtain ⟨b1, b2⟩ := kF (x := u * 4294967296 + un1) (y := Y) (by omega)
  refine ⟨Int.ediv_nonneg (by omega) (by omega), Int.ediv_lt_of_lt_mul (by omega) (by omega), by omega, ?_⟩
  rw [Int.add_mul, Int.one_mul] at b2
  omega
theorem YJ {u a b Y : Int} (hY : 0 < Y) (hb : 0 <= b /\ b < 4294967296) :
    (u * 18446744073709551616 + (a * 4294967296 + b)) / Y = (u * 4294967296 + a) / Y * 4294967296 + ((u * 4294967296 + a - (u * 4294967296 + a) / Y * Y) * 4294967296 + b) / Y /\
    u * 18446744073709551616 + (a * 4294967296 + b) - (u * 18446744073709551616 + (a * 4294967296 + b)) / Y * Y = (u * 4294967296 + a - (u * 4294967296 + a) / Y * Y) * 4294967296 + b - ((u * 4294967296 + a - (u * 4294967296 + a) / Y * Y) * 4294967296 + b) / Y * Y := by
  generalize (u * 4294967296 + a) / Y = q1
  obtain ⟨c1, c2⟩ := kF (x := (u * 4294967296 + a - q1 * Y) * 4294967296 + b) (y := Y) hY
  generalize ((u * 4294967296 + a - q1 * Y) * 4294967296 + b) / Y = q0 at *
  have e : (u * 18446744073709551616 + (a * 4294967296 + b)) / Y = q1 * 4294967296 + q0 := by
    refine FU hY ?_ ?_
    . rw [Int.add_mul, Int.mul_right_comm]
      rw [Int.add_mul, Int.one_mul] at c2
      omega
    . rw [Int.add_mul, Int.one_mul] at c2
      rw [Int.add_mul, Int.add_mul, Int.one_mul, Int.mul_right_comm]
      omega
  refine ⟨e, ?_⟩
  rw [e, Int.add_mul, Int.mul_right_comm]
  omega
def isR (n r:Int) : Prop := 0 <= r /\ r * r <= n /\ n < (r + 1) * (r + 1)
theorem isR.unique {n r s : Int} (h : isR n r) (g : isR n s) : r = s := by
  obtain ⟨h0, h1, h2⟩ := h
  obtain ⟨g0, g1, g2⟩ := g
  rcases Int.lt_trichotomy r s with hl | he | hl
  . exfalso
    have := Int.mul_le_mul (show r + 1 <= s by omega) (show r + 1 <= s by omega) (by omega) (by omega)
    omega
  . exact he
  . exfalso
    have := Int.mul_le_mul (show s + 1 <= r by omega) (show s + 1 <= r by omega) (by omega) (by omega)
    omega
def Ci (n:Nat) : Nat -> Nat -> Nat
  | 0, r => r
  | k + 1, r => if (r + 2 ^ k) * (r + 2 ^ k) <= n then Ci n k (r + 2 ^ k) else Ci n k r
theorem Ls (n:Nat) : ∀ (k r:Nat), r * r <= n -> n < (r + 2 ^ k) * (r + 2 ^ k) -> (Ci n k r) * (Ci n k r) <= n /\ n < (Ci n k r + 1) * (Ci n k r + 1)
  | 0, r, h1, h2 => ⟨h1, h2⟩
  | k + 1, r, h1, h2 => by
    unfold Ci
    have e : 2 ^ (k + 1) = 2 ^ k + 2 ^ k := by rw [Nat.pow_succ]; omega
    split
    . rename_i h
      refine Ls n k _ h ?_
      rw [Nat.add_assoc, <- e]
      exact h2
    . rename_i h
      exact Ls n k _ h1 (by omega)
def Qv (n:Int) : Int := (Ci n.toNat 64 0:Nat)
theorem XE {n : Int} (h0 : 0 <= n) (h1 : n < 340282366920938463463374607431768211456) : isR n (Qv n) := by
  have := Ls n.toNat 64 0 (by omega) (by omega)
  obtain ⟨a, b⟩ := this
  unfold Qv isR
  generalize Ci n.toNat 64 0 = r at *
  have e1 : ((r * r:Nat):Int) = (r:Int) * r := Int.natCast_mul r r
  have e2 : (((r + 1) * (r + 1):Nat):Int) = ((r:Int) + 1) * (r + 1) := by rw [Int.natCast_mul]; rfl
  exact ⟨by omega, by omega, by omega⟩
theorem acS {n r s : Int} (hr : 0 <= r) (hs : isR n s) (h : r * r <= n) : r <= s := by
  rcases qG s r with hl | hl
  . exfalso
    have := Int.mul_le_mul (show s + 1 <= r by omega) (show s + 1 <= r by omega) (by have := hs.1; omega) (by omega)
    have := hs.2.2
    omega
  . exact hl
theorem ak7 {n r s : Int} (hs : isR n s) (hr : s <= r) (h1 : 1 <= r) (hq : n / r < r) : s <= (r + n / r) / 2 /\ (r + n / r) / 2 < r /\ n / r <= s := by
  obtain ⟨s0, s1, s2⟩ := hs
  obtain ⟨b1, b2⟩ := kF (x := n) (y := r) (by omega)
  have hq0 : 0 <= n / r := Int.ediv_nonneg (by have := Int.mul_nonneg s0 s0; omega) (by omega)
  generalize n / r = q at *
  have hne : s < r := by
    rcases qG s r with h | h
    . exact h
    . exfalso
      have : s = r := by omega
      subst this
      have := qZ (show q + 1 <= s by omega) (show 0 <= s by omega)
      omega
  have hqs : q <= s := by
    rcases qG s q with h | h
    . exfalso
      have := Int.mul_le_mul (show s + 1 <= q by omega) (show s + 1 <= r by omega) (by omega) (by omega)
      omega
    . exact h
  refine ⟨?_, by omega, hqs⟩
  -- 4 s^2 <= 4 n < 4 (q + 1) r <= (r + q + 1)^2
  rcases qG ((r + q) / 2) s with h | h
  . exfalso
    have g : r + q + 1 <= 2 * s := by omega
    -- let d = s - q > 0 and r <= 2 s - q - 1 = s + d - 1
    have hd : r <= 2 * s - q - 1 := by omega
    have k1 := qZ hd (show 0 <= q + 1 by omega)
    rw [Int.mul_comm r] at k1
    -- (q+1)(2s-q-1) <= s^2
    have k2 : 0 <= (s - (q + 1)) * (s - (q + 1)) := by
      rcases Int.le_total 0 (s - (q + 1)) with h | h
      . exact Int.mul_nonneg h h
      . exact Int.mul_nonneg_of_nonpos_of_nonpos h h
    have e1 : (s - (q + 1)) * (s - (q + 1)) = s * s - 2 * (s * (q + 1)) + (q + 1) * (q + 1) := by
      rw [Int.sub_mul, Int.mul_sub, Int.mul_sub, Int.mul_comm (q + 1) s]; omega
    have e2 : (2 * s - q - 1) * (q + 1) = 2 * (s * (q + 1)) - (q + 1) * (q + 1) := by
      rw [show 2 * s - q - 1 = 2 * s - (q + 1) by omega, Int.sub_mul, Int.mul_assoc]
    omega
  . exact h
theorem rP (a b:Nat) : (2:Int) ^ (a + b) = 2 ^ a * 2 ^ b := Int.pow_add 2 a b
theorem Cj (g:Nat) : (1:Int) <= 2 ^ g := Int.pow_pos (by decide)
theorem Ku {a b : Nat} (h : a <= b) : (2:Int) ^ a <= 2 ^ b := by
  rw [show b = a + (b - a) by omega, rP]
  have h1 := Cj (b - a)
  have h2 := Cj a
  have := Int.mul_le_mul_of_nonneg_left h1 (show (0:Int) <= 2 ^ a by omega)
  omega
theorem root_lt {n s : Int} {k : Nat} (hs : isR n s) (hn : n < 2 ^ (k + k)) : s < 2 ^ k := by
  rcases qG s (2 ^ k) with h | h
  . exact h
  . exfalso
    have := Int.mul_le_mul h h (by have := Cj k; omega) hs.1
    rw [<- rP] at this
    have := hs.2.1
    omega
theorem aeQ {n s : Int} (hs : isR n s) (h : 1 <= n) : 1 <= s := by
  rcases qG s 1 with h1 | h1
  . have h0 : s = 0 := by have := hs.1; omega
    have h2 := hs.2.2
    rw [h0] at h2
    omega
  . exact h1
theorem dW {α : Type} {b : Bool} {x : Option α} {y : α} (h : cond b x none = some y) : b = true /\ x = some y := by
  cases b
  . cases h
  . exact ⟨rfl, h⟩
theorem aG {α β : Type} {a c : α} {b d : β} (h : some (a, b) = some (c, d)) : a = c /\ b = d := by
  cases h
  exact ⟨rfl, rfl⟩
theorem dF {P : Program} {T : Tab} {G : List (Nat × Spec)} {f : FuncId} {fn : Func} {c : Code} {rs : List ResultVar} {nt : Nat} {ys : List AV} {r : AV} {B : (AV -> Prop) -> Prop} (hT : kP P T) (hG : aO P G) (hf : P.funcs[f]? = some fn) (hb : fn.body = some c) (hnm : (fn.name == "runtime.NumGoroutine") = false) (hrs : fn.results = rs.toArray) (hlen : rs.length <= 4)
    (hnt : fn.ntmps = nt) (hN : ∀ K, vwp T (bC G) (fun _ _ _ => False) 0 c (Ag.entry ys nt) (aV T rs fun v s => K (v.frz s.mem)) = B K) (hB : B (fun x => x = r)) : ∀ E w vs, OJ E w -> VRs E.bare ys vs -> Lc P f vs.toArray w (J4 E w r) := by
  refine eF hT (gB hG) hf hb hnm hrs hlen (fun X hX _ => ?_)
  rw [hnt]
  exact dG hX rfl (tr := fun _ _ _ => False) (fun _ _ _ h => h.elim) (Eq.mpr (hN (fun x => x = r)) hB)
end Go.Ag
