import Derived.Test.YtbcegholicnflaaGreatCastPA
set_option linter.unusedVariables false
set_option linter.unusedSimpArgs false
set_option maxRecDepth 100000
namespace Go.Ag
open Go.RowKit
noncomputable section
def B_ek (gk : Int) (gn : Bool) (ge : Int) (gg : Bool) (K0 : Bool -> Prop)  : Prop := Ts 4 (((P_ed gk gn) /\ Ts 2 (cond (F_ed_1 gk gn) (Ts 2 (K0 true)) (Ts 2 (((P_ed ge gg) /\ Ts 3 (K0 (F_ed_1 ge gg))))))))
def P_ek (gk : Int) (gn : Bool) (ge : Int) (gg : Bool) : Prop := True
def F_ek_0 (gk : Int) (gn : Bool) (ge : Int) (gg : Bool) : Bool := (cond (F_ed_1 gk gn) true (F_ed_1 ge gg))
theorem H_ek (gk : Int) (gn : Bool) (ge : Int) (gg : Bool) {K0 : Bool -> Prop} (h : P_ek gk gn ge gg) (hK : K0 (F_ek_0 gk gn ge gg)) : B_ek gk gn ge gg K0  := by
 unfold B_ek P_ek F_ek_0 at *
 simp only [Ts_iff, true_and]
 repeat' first | exact hK | (refine cond_intro (fun c => ?_) (fun c => ?_) <;> try simp only [c, cond_true, cond_false] at h hK ⊢) | refine ⟨rfl, ?_⟩ | refine ⟨trivial, ?_⟩ | refine ⟨by decide, ?_⟩ | (refine ⟨h.1, ?_⟩; replace h := h.2) | refine ⟨h, ?_⟩
def B_ab_0 (gp : Nat) (gk : Nat -> Int) (gn : Nat -> Bool) (ge : Nat -> Int) (gg : Nat -> Bool) (ik : Int) (c x0 : Int -> Prop) (x1 : Int -> Int -> Prop)  : Prop := Ts 1 (cond (ilt ik ((gp : Nat) : Int)) (Ts 5 (((0 <= ik /\ ik < ((gp : Nat) : Int)) /\ Ts 1 (((P_ek (gk (Int.toNat ik)) (gn (Int.toNat ik)) (ge (Int.toNat ik)) (gg (Int.toNat ik))) /\ cond (F_ek_0 (gk (Int.toNat ik)) (gn (Int.toNat ik)) (ge (Int.toNat ik)) (gg (Int.toNat ik))) (Ts 2 (x1 ik ik)) (Ts 2 (c (iadd .i64 ik 1)))))))) (x0 ik))
def W_ab_0 (gp : Nat) (gk : Nat -> Int) (gn : Nat -> Bool) (ge : Nat -> Int) (gg : Nat -> Bool) : Nat -> Int -> (Int -> Prop) -> (Int -> Int -> Prop) -> Prop
  | 0, _, _, _ => False
  | f + 1, w0, x0, x1 => B_ab_0 gp gk gn ge gg w0 (fun u0 => W_ab_0 gp gk gn ge gg f u0 x0 x1) x0 x1 
theorem BM_ab_0 (gp : Nat) (gk : Nat -> Int) (gn : Nat -> Bool) (ge : Nat -> Int) (gg : Nat -> Bool) (ik : Int) {c c' : Int -> Prop} {x0 y0 : Int -> Prop} {x1 y1 : Int -> Int -> Prop} (hc : ∀ w0, c w0 -> c' w0) (h0 : ∀ o0, x0 o0 -> y0 o0) (h1 : ∀ o0 o1, x1 o0 o1 -> y1 o0 o1) : B_ab_0 gp gk gn ge gg ik c x0 x1  -> B_ab_0 gp gk gn ge gg ik c' y0 y1  := by
  unfold B_ab_0
  repeat' first
    | exact hc _
    | exact h0 _
    | exact h1 _ _
    | refine Ts_imp ?_
    | refine cond_imp ?_ ?_
    | refine and_imp' ?_
theorem WM_ab_0 (gp : Nat) (gk : Nat -> Int) (gn : Nat -> Bool) (ge : Nat -> Int) (gg : Nat -> Bool) {x0 y0 : Int -> Prop} {x1 y1 : Int -> Int -> Prop} (h0 : ∀ o0, x0 o0 -> y0 o0) (h1 : ∀ o0 o1, x1 o0 o1 -> y1 o0 o1) : ∀ (f : Nat) (ik : Int), W_ab_0 gp gk gn ge gg f ik x0 x1 -> W_ab_0 gp gk gn ge gg f ik y0 y1
  | 0, w0 => fun h => h
  | f + 1, w0 => BM_ab_0 gp gk gn ge gg w0 (fun u0 => WM_ab_0 gp gk gn ge gg h0 h1 f u0) h0 h1
def B_ab (gp : Nat) (gk : Nat -> Int) (gn : Nat -> Bool) (ge : Nat -> Int) (gg : Nat -> Bool) (K0 : Int -> Prop) (l0 : Int -> (Int -> Prop) -> (Int -> Int -> Prop) -> Prop) : Prop := Ts 4 ((l0 0 (fun kj => Ts 1 (K0 (-1))) (fun ke kj => K0 ke)))
def ixF (p : Nat -> Bool) : Nat -> Int
  | 0 => -1
  | n + 1 => if ixF p n < 0 then (if p n = true then (n : Int) else -1) else ixF p n
theorem ixF_none {p : Nat -> Bool} : ∀ {n : Nat}, (∀ k, k < n -> p k = false) -> ixF p n = -1
  | 0, _ => rfl
  | n + 1, h => by
    unfold ixF
    rw [ixF_none (fun k hk => h k (by omega)), h n (by omega)]
    rfl
theorem ixF_first {p : Nat -> Bool} {i : Nat} (h0 : ∀ k, k < i -> p k = false) (hi : p i = true) : ∀ {n : Nat}, i < n -> ixF p n = (i : Int)
  | 0, h => by omega
  | n + 1, h => by
    unfold ixF
    by_cases e : i = n
    · subst e; rw [ixF_none h0, if_pos (by decide), if_pos hi]
    · rw [ixF_first h0 hi (by omega), if_neg (by omega)]
theorem ixF_any {p : Nat -> Bool} : ∀ {n : Nat}, ige (ixF p n) 0 = anyN p n
  | 0 => by unfold ixF anyN; rw [ige_f]; omega
  | n + 1 => by
    have ih := ixF_any (p := p) (n := n)
    unfold ixF anyN
    by_cases h : ixF p n < 0
    · rw [if_pos h, ← ih, ige_f.2 h, Bool.false_or]
      cases hp : p n with
      | true => rw [if_pos rfl, ige_t]; omega
      | false => rw [if_neg (by decide), ige_f]; omega
    · rw [if_neg h, ← ih, ige_t.2 (by omega), Bool.true_or]
def P_ab (n : Nat) (a : Nat -> Int) (b : Nat -> Bool) (c : Nat -> Int) (d : Nat -> Bool) : Prop := n <= 1000000
def F_ab_0 (n : Nat) (a : Nat -> Int) (b : Nat -> Bool) (c : Nat -> Int) (d : Nat -> Bool) : Int := ixF (fun k => F_ek_0 (a k) (b k) (c k) (d k)) n
theorem W_IndexFuncV_ok {n : Nat} {a : Nat -> Int} {b : Nat -> Bool} {c : Nat -> Int} {d : Nat -> Bool} (hp : n <= 1000000) {x0 : Int -> Prop} {x1 : Int -> Int -> Prop} (h3 : (∀ k, k < n -> F_ek_0 (a k) (b k) (c k) (d k) = false) -> ∀ v, x0 v) (h4 : ∀ i : Nat, i < n -> (∀ k, k < i -> F_ek_0 (a k) (b k) (c k) (d k) = false) -> F_ek_0 (a i) (b i) (c i) (d i) = true -> ∀ v, x1 (i : Int) v) : ∀ (f i : Nat), i <= n -> n < f + i -> (∀ k, k < i -> F_ek_0 (a k) (b k) (c k) (d k) = false) -> W_ab_0 n a b c d f i x0 x1
  | 0, i, h1, h2, _ => by omega
  | f + 1, i, h1, h2, g => by
    show B_ab_0 n a b c d i _ _ _
    unfold B_ab_0
    simp only [Ts_iff, true_and, Int.toNat_natCast]
    refine cond_intro (fun hc => ?_) (fun hc => ?_)
    · rw [ilt_t] at hc
      refine ⟨⟨by omega, hc⟩, trivial, cond_intro (fun hd => h4 i (by omega) g hd _) (fun hd => ?_)⟩
      rw [iadd64 (by omega) (by omega)]
      exact W_IndexFuncV_ok hp h3 h4 f (i + 1) (by omega) (by omega) (fun k hk => if e : k = i then by subst e; exact hd else g k (by omega))
    · rw [ilt_f] at hc
      exact h3 (fun k hk => g k (by omega)) _
theorem H_ab (gp : Nat) (gk : Nat -> Int) (gn : Nat -> Bool) (ge : Nat -> Int) (gg : Nat -> Bool) {K0 : Int -> Prop} (h : P_ab gp gk gn ge gg) (hK : K0 (F_ab_0 gp gk gn ge gg)) : B_ab gp gk gn ge gg K0 (W_ab_0 gp gk gn ge gg fuel) := by
  unfold B_ab
  simp only [Ts_iff]
  have hp : gp <= 1000000 := h
  unfold F_ab_0 at hK
  refine W_IndexFuncV_ok hp (fun g v => ?_) (fun i hi g hs v => ?_) fuel 0 (Nat.zero_le _) (by rw [fuel_eq]; omega) (fun k hk => by omega)
  · rw [ixF_none g] at hK; exact hK
  · rw [ixF_first g hs hi] at hK; exact hK
def B_am (gp : Nat) (gk : Nat -> Int) (gn : Nat -> Bool) (ge : Nat -> Int) (gg : Nat -> Bool) (K0 : Bool -> Prop)  : Prop := Ts 3 (((P_ab gp gk gn ge gg) /\ Ts 2 (K0 (ige (F_ab_0 gp gk gn ge gg) 0))))
def P_am (gp : Nat) (gk : Nat -> Int) (gn : Nat -> Bool) (ge : Nat -> Int) (gg : Nat -> Bool) : Prop := (P_ab gp gk gn ge gg)
def F_am_0 (gp : Nat) (gk : Nat -> Int) (gn : Nat -> Bool) (ge : Nat -> Int) (gg : Nat -> Bool) : Bool := (ige (F_ab_0 gp gk gn ge gg) 0)
theorem H_am (gp : Nat) (gk : Nat -> Int) (gn : Nat -> Bool) (ge : Nat -> Int) (gg : Nat -> Bool) {K0 : Bool -> Prop} (h : P_am gp gk gn ge gg) (hK : K0 (F_am_0 gp gk gn ge gg)) : B_am gp gk gn ge gg K0  := by
 unfold B_am P_am F_am_0 at *
 simp only [Ts_iff, true_and]; try simp only [Ts_iff, true_and] at h
 repeat' first | exact hK | refine ⟨rfl, ?_⟩ | refine ⟨trivial, ?_⟩ | refine ⟨by decide, ?_⟩ | (refine ⟨h.1, ?_⟩; replace h := h.2) | refine ⟨h, ?_⟩
def B_cu (gp : Nat) (gk : Nat -> Int) (gn : Nat -> Bool) (ge : Nat -> Int) (gg : Nat -> Bool) (K0 : Bool -> Prop)  : Prop := Ts 2 (((P_am gp gk gn ge gg) /\ Ts 1 (K0 (F_am_0 gp gk gn ge gg))))
def P_cu (gp : Nat) (gk : Nat -> Int) (gn : Nat -> Bool) (ge : Nat -> Int) (gg : Nat -> Bool) : Prop := (P_am gp gk gn ge gg)
def F_cu_0 (gp : Nat) (gk : Nat -> Int) (gn : Nat -> Bool) (ge : Nat -> Int) (gg : Nat -> Bool) : Bool := (F_am_0 gp gk gn ge gg)
theorem H_cu (gp : Nat) (gk : Nat -> Int) (gn : Nat -> Bool) (ge : Nat -> Int) (gg : Nat -> Bool) {K0 : Bool -> Prop} (h : P_cu gp gk gn ge gg) (hK : K0 (F_cu_0 gp gk gn ge gg)) : B_cu gp gk gn ge gg K0  := by
 unfold B_cu P_cu F_cu_0 at *
 simp only [Ts_iff, true_and]; try simp only [Ts_iff, true_and] at h
 repeat' first | exact hK | refine ⟨rfl, ?_⟩ | refine ⟨trivial, ?_⟩ | refine ⟨by decide, ?_⟩ | (refine ⟨h.1, ?_⟩; replace h := h.2) | refine ⟨h, ?_⟩
def B_dk (gk : Int) (gn : Bool) (ge : Int) (gg : Bool) (K0 : Int -> Bool -> Int -> Bool -> Bool -> Prop)  : Prop := Ts 5 (((P_cu 1 (fun _ => gk) (fun _ => gn) (fun _ => ge) (fun _ => gg)) /\ cond (F_cu_0 1 (fun _ => gk) (fun _ => gn) (fun _ => ge) (fun _ => gg)) (Ts 4 (K0 0 false 0 false false)) (Ts 16 (cond (ilt (imax (imax (imax gk (ineg .i64 gk)) ge) (ineg .i64 ge)) 16777216) (Ts 15 (((P_cq (imul .i64 gk 16777216) gn (imul .i64 ge 16777216) gg) /\ Ts 5 (cond (F_cq_1 (imul .i64 gk 16777216) gn (imul .i64 ge 16777216) gg) (Ts 5 (K0 0 false 0 false false)) (Ts 4 (cond (ieq (F_cq_0 (imul .i64 gk 16777216) gn (imul .i64 ge 16777216) gg) 0) (Ts 4 (K0 0 false 0 false false)) (Ts 3 (((P_ej (imul .i64 gk 16777216) gn (F_cq_0 (imul .i64 gk 16777216) gn (imul .i64 ge 16777216) gg) (F_cq_1 (imul .i64 gk 16777216) gn (imul .i64 ge 16777216) gg)) /\ Ts 3 (((P_ej (imul .i64 ge 16777216) gg (F_cq_0 (imul .i64 gk 16777216) gn (imul .i64 ge 16777216) gg) (F_cq_1 (imul .i64 gk 16777216) gn (imul .i64 ge 16777216) gg)) /\ Ts 3 ((true = true /\ Ts 1 (K0 (F_ej_0 (imul .i64 gk 16777216) gn (F_cq_0 (imul .i64 gk 16777216) gn (imul .i64 ge 16777216) gg) (F_cq_1 (imul .i64 gk 16777216) gn (imul .i64 ge 16777216) gg)) (F_ej_1 (imul .i64 gk 16777216) gn (F_cq_0 (imul .i64 gk 16777216) gn (imul .i64 ge 16777216) gg) (F_cq_1 (imul .i64 gk 16777216) gn (imul .i64 ge 16777216) gg)) (F_ej_0 (imul .i64 ge 16777216) gg (F_cq_0 (imul .i64 gk 16777216) gn (imul .i64 ge 16777216) gg) (F_cq_1 (imul .i64 gk 16777216) gn (imul .i64 ge 16777216) gg)) (F_ej_1 (imul .i64 ge 16777216) gg (F_cq_0 (imul .i64 gk 16777216) gn (imul .i64 ge 16777216) gg) (F_cq_1 (imul .i64 gk 16777216) gn (imul .i64 ge 16777216) gg)) true)))))))))))))) (Ts 1 (((P_cq gk gn ge gg) /\ Ts 5 (cond (F_cq_1 gk gn ge gg) (Ts 5 (K0 0 false 0 false false)) (Ts 4 (cond (ieq (F_cq_0 gk gn ge gg) 0) (Ts 4 (K0 0 false 0 false false)) (Ts 3 (((P_ej gk gn (F_cq_0 gk gn ge gg) (F_cq_1 gk gn ge gg)) /\ Ts 3 (((P_ej ge gg (F_cq_0 gk gn ge gg) (F_cq_1 gk gn ge gg)) /\ Ts 3 ((true = true /\ Ts 1 (K0 (F_ej_0 gk gn (F_cq_0 gk gn ge gg) (F_cq_1 gk gn ge gg)) (F_ej_1 gk gn (F_cq_0 gk gn ge gg) (F_cq_1 gk gn ge gg)) (F_ej_0 ge gg (F_cq_0 gk gn ge gg) (F_cq_1 gk gn ge gg)) (F_ej_1 ge gg (F_cq_0 gk gn ge gg) (F_cq_1 gk gn ge gg)) true))))))))))))))))))
def P_dk (gk : Int) (gn : Bool) (ge : Int) (gg : Bool) : Prop := ((P_cu 1 (fun _ => gk) (fun _ => gn) (fun _ => ge) (fun _ => gg)) /\ (cond (F_cu_0 1 (fun _ => gk) (fun _ => gn) (fun _ => ge) (fun _ => gg)) True (cond (ilt (imax (imax (imax gk (ineg .i64 gk)) ge) (ineg .i64 ge)) 16777216) ((P_cq (imul .i64 gk 16777216) gn (imul .i64 ge 16777216) gg) /\ (cond (F_cq_1 (imul .i64 gk 16777216) gn (imul .i64 ge 16777216) gg) True (cond (ieq (F_cq_0 (imul .i64 gk 16777216) gn (imul .i64 ge 16777216) gg) 0) True ((P_ej (imul .i64 gk 16777216) gn (F_cq_0 (imul .i64 gk 16777216) gn (imul .i64 ge 16777216) gg) (F_cq_1 (imul .i64 gk 16777216) gn (imul .i64 ge 16777216) gg)) /\ (P_ej (imul .i64 ge 16777216) gg (F_cq_0 (imul .i64 gk 16777216) gn (imul .i64 ge 16777216) gg) (F_cq_1 (imul .i64 gk 16777216) gn (imul .i64 ge 16777216) gg)))))) ((P_cq gk gn ge gg) /\ (cond (F_cq_1 gk gn ge gg) True (cond (ieq (F_cq_0 gk gn ge gg) 0) True ((P_ej gk gn (F_cq_0 gk gn ge gg) (F_cq_1 gk gn ge gg)) /\ (P_ej ge gg (F_cq_0 gk gn ge gg) (F_cq_1 gk gn ge gg)))))))))
def F_dk_0 (gk : Int) (gn : Bool) (ge : Int) (gg : Bool) : Int := (cond (F_cu_0 1 (fun _ => gk) (fun _ => gn) (fun _ => ge) (fun _ => gg)) 0 (cond (ilt (imax (imax (imax gk (ineg .i64 gk)) ge) (ineg .i64 ge)) 16777216) (cond (F_cq_1 (imul .i64 gk 16777216) gn (imul .i64 ge 16777216) gg) 0 (cond (ieq (F_cq_0 (imul .i64 gk 16777216) gn (imul .i64 ge 16777216) gg) 0) 0 (F_ej_0 (imul .i64 gk 16777216) gn (F_cq_0 (imul .i64 gk 16777216) gn (imul .i64 ge 16777216) gg) (F_cq_1 (imul .i64 gk 16777216) gn (imul .i64 ge 16777216) gg)))) (cond (F_cq_1 gk gn ge gg) 0 (cond (ieq (F_cq_0 gk gn ge gg) 0) 0 (F_ej_0 gk gn (F_cq_0 gk gn ge gg) (F_cq_1 gk gn ge gg))))))
def F_dk_1 (gk : Int) (gn : Bool) (ge : Int) (gg : Bool) : Bool := (cond (F_cu_0 1 (fun _ => gk) (fun _ => gn) (fun _ => ge) (fun _ => gg)) false (cond (ilt (imax (imax (imax gk (ineg .i64 gk)) ge) (ineg .i64 ge)) 16777216) (cond (F_cq_1 (imul .i64 gk 16777216) gn (imul .i64 ge 16777216) gg) false (cond (ieq (F_cq_0 (imul .i64 gk 16777216) gn (imul .i64 ge 16777216) gg) 0) false (F_ej_1 (imul .i64 gk 16777216) gn (F_cq_0 (imul .i64 gk 16777216) gn (imul .i64 ge 16777216) gg) (F_cq_1 (imul .i64 gk 16777216) gn (imul .i64 ge 16777216) gg)))) (cond (F_cq_1 gk gn ge gg) false (cond (ieq (F_cq_0 gk gn ge gg) 0) false (F_ej_1 gk gn (F_cq_0 gk gn ge gg) (F_cq_1 gk gn ge gg))))))
def F_dk_2 (gk : Int) (gn : Bool) (ge : Int) (gg : Bool) : Int := (cond (F_cu_0 1 (fun _ => gk) (fun _ => gn) (fun _ => ge) (fun _ => gg)) 0 (cond (ilt (imax (imax (imax gk (ineg .i64 gk)) ge) (ineg .i64 ge)) 16777216) (cond (F_cq_1 (imul .i64 gk 16777216) gn (imul .i64 ge 16777216) gg) 0 (cond (ieq (F_cq_0 (imul .i64 gk 16777216) gn (imul .i64 ge 16777216) gg) 0) 0 (F_ej_0 (imul .i64 ge 16777216) gg (F_cq_0 (imul .i64 gk 16777216) gn (imul .i64 ge 16777216) gg) (F_cq_1 (imul .i64 gk 16777216) gn (imul .i64 ge 16777216) gg)))) (cond (F_cq_1 gk gn ge gg) 0 (cond (ieq (F_cq_0 gk gn ge gg) 0) 0 (F_ej_0 ge gg (F_cq_0 gk gn ge gg) (F_cq_1 gk gn ge gg))))))
def F_dk_3 (gk : Int) (gn : Bool) (ge : Int) (gg : Bool) : Bool := (cond (F_cu_0 1 (fun _ => gk) (fun _ => gn) (fun _ => ge) (fun _ => gg)) false (cond (ilt (imax (imax (imax gk (ineg .i64 gk)) ge) (ineg .i64 ge)) 16777216) (cond (F_cq_1 (imul .i64 gk 16777216) gn (imul .i64 ge 16777216) gg) false (cond (ieq (F_cq_0 (imul .i64 gk 16777216) gn (imul .i64 ge 16777216) gg) 0) false (F_ej_1 (imul .i64 ge 16777216) gg (F_cq_0 (imul .i64 gk 16777216) gn (imul .i64 ge 16777216) gg) (F_cq_1 (imul .i64 gk 16777216) gn (imul .i64 ge 16777216) gg)))) (cond (F_cq_1 gk gn ge gg) false (cond (ieq (F_cq_0 gk gn ge gg) 0) false (F_ej_1 ge gg (F_cq_0 gk gn ge gg) (F_cq_1 gk gn ge gg))))))
def F_dk_4 (gk : Int) (gn : Bool) (ge : Int) (gg : Bool) : Bool := (cond (F_cu_0 1 (fun _ => gk) (fun _ => gn) (fun _ => ge) (fun _ => gg)) false (cond (ilt (imax (imax (imax gk (ineg .i64 gk)) ge) (ineg .i64 ge)) 16777216) (cond (F_cq_1 (imul .i64 gk 16777216) gn (imul .i64 ge 16777216) gg) false (cond (ieq (F_cq_0 (imul .i64 gk 16777216) gn (imul .i64 ge 16777216) gg) 0) false true)) (cond (F_cq_1 gk gn ge gg) false (cond (ieq (F_cq_0 gk gn ge gg) 0) false true))))
theorem H_dk (gk : Int) (gn : Bool) (ge : Int) (gg : Bool) {K0 : Int -> Bool -> Int -> Bool -> Bool -> Prop} (h : P_dk gk gn ge gg) (hK : K0 (F_dk_0 gk gn ge gg) (F_dk_1 gk gn ge gg) (F_dk_2 gk gn ge gg) (F_dk_3 gk gn ge gg) (F_dk_4 gk gn ge gg)) : B_dk gk gn ge gg K0  := by
 unfold B_dk P_dk F_dk_0 F_dk_1 F_dk_2 F_dk_3 F_dk_4 at *
 simp only [Ts_iff, true_and]; try simp only [Ts_iff, true_and] at h
 repeat' first | exact hK | (refine cond_intro (fun c => ?_) (fun c => ?_) <;> try simp only [c, cond_true, cond_false] at h hK ⊢) | refine ⟨rfl, ?_⟩ | refine ⟨trivial, ?_⟩ | refine ⟨by decide, ?_⟩ | (refine ⟨h.1, ?_⟩; replace h := h.2) | refine ⟨h, ?_⟩
theorem fault_pl {x y : Int} {f g : Bool} (hx : Num' x) (hy : Num' y) : P_cu 1 (fun _ => x) (fun _ => f) (fun _ => y) (fun _ => g) /\ F_cu_0 1 (fun _ => x) (fun _ => f) (fun _ => y) (fun _ => g) = (f || g) := by
  refine ⟨(show 1 <= 1000000 by decide), ?_⟩
  show ige (ixF (fun k => F_ek_0 x f y g) 1) 0 = _
  rw [ixF_any]
  show (false || F_ek_0 x f y g) = _
  unfold F_ek_0
  rw [(fxNeg_ok hx).2, (fxNeg_ok hy).2]
  cases f <;> cases g <;> rfl
theorem flagged1 {x : Int} {f : Bool} (hx : Num' x) : P_dx x f /\ F_dx_0 x f = f := by
  refine ⟨⟨by decide, fun k hk => num_i hx⟩, ?_⟩
  show (F_bd_0 1 (fun _ => x) (fun _ => f) || satB (sumN (fun _ => x) 1)) = f
  have e : sumN (fun _ => x) 1 = x := by show 0 + whole x = x; rw [whole_id hx]; omega
  rw [e, satB_id hx, Bool.or_false]
  show (false || F_aq_1 x f) = f
  rw [wholeF_id hx, Bool.false_or]
theorem fault_r2 {x y : Int} {f g : Bool} (hx : Num' x) (hy : Num' y) : P_b7 1 (fun _ => x) (fun _ => f) (fun _ => y) (fun _ => g) /\ F_b7_0 1 (fun _ => x) (fun _ => f) (fun _ => y) (fun _ => g) = (f || g) := by
  obtain ⟨p1, e1⟩ := flagged1 (f := f) hx
  obtain ⟨p2, e2⟩ := flagged1 (f := g) hy
  refine ⟨⟨by decide, fun k hk => ⟨p1, p2⟩⟩, ?_⟩
  show (false || (F_dx_0 x f || F_dx_0 y g)) = _
  rw [e1, e2, Bool.false_or]
theorem Unit_pk {x y : Int} {f g : Bool} (hx : Num' x) (hy : Num' y) : P_dk x f y g /\ P_di x f y g /\ F_dk_0 x f y g = F_di_0 x f y g /\ F_dk_1 x f y g = F_di_1 x f y g /\ F_dk_2 x f y g = F_di_2 x f y g /\ F_dk_3 x f y g = F_di_3 x f y g /\ F_dk_4 x f y g = F_di_4 x f y g /\ Num' (F_di_0 x f y g) /\ Num' (F_di_2 x f y g) := by
  obtain ⟨PA, hA⟩ := fault_pl (f := f) (g := g) hx hy
  obtain ⟨PB, hB⟩ := fault_r2 (f := f) (g := g) hx hy
  unfold P_dk P_di F_dk_0 F_dk_1 F_dk_2 F_dk_3 F_dk_4 F_di_0 F_di_1 F_di_2 F_di_3 F_di_4
  rw [hA, hB]
  cases hfg : (f || g) with
  | true => exact ⟨⟨PA, trivial⟩, ⟨PB, trivial⟩, rfl, rfl, rfl, rfl, rfl, (show Num' 0 from ⟨by decide, by decide⟩), (show Num' 0 from ⟨by decide, by decide⟩)⟩
  | false =>
    have hf : f = false /\ g = false := by cases f <;> cases g <;> first | exact ⟨rfl, rfl⟩ | cases hfg
    obtain ⟨rfl, rfl⟩ := hf
    simp only [cond_false]
    have hax : F_fg_0 x false = max x (-x) := (Abs_ok hx).1
    have hay : F_fg_0 y false = max y (-y) := (Abs_ok hy).1
    have eng : ineg .i64 x = -x /\ ineg .i64 y = -y := ⟨ineg64 hx.1 hx.2, ineg64 hy.1 hy.2⟩
    simp only [hax, hay, eng.1, eng.2, imax_m]
    have fin : ∀ X Y : Int, Num' X -> Num' Y -> (F_cq_0 X false Y false = F_bo_0 X false Y false /\ F_cq_1 X false Y false = F_bo_1 X false Y false) /\ P_cq X false Y false /\ P_bo X false Y false /\ Num' (F_bo_0 X false Y false) /\
        (P_ej X false (F_bo_0 X false Y false) (F_bo_1 X false Y false) /\ P_dp X false (F_bo_0 X false Y false) (F_bo_1 X false Y false) /\ F_ej_0 X false (F_bo_0 X false Y false) (F_bo_1 X false Y false) = F_dp_0 X false (F_bo_0 X false Y false) (F_bo_1 X false Y false) /\ F_ej_1 X false (F_bo_0 X false Y false) (F_bo_1 X false Y false) = F_dp_1 X false (F_bo_0 X false Y false) (F_bo_1 X false Y false) /\ Num' (F_dp_0 X false (F_bo_0 X false Y false) (F_bo_1 X false Y false))) /\
        (P_ej Y false (F_bo_0 X false Y false) (F_bo_1 X false Y false) /\ P_dp Y false (F_bo_0 X false Y false) (F_bo_1 X false Y false) /\ F_ej_0 Y false (F_bo_0 X false Y false) (F_bo_1 X false Y false) = F_dp_0 Y false (F_bo_0 X false Y false) (F_bo_1 X false Y false) /\ F_ej_1 Y false (F_bo_0 X false Y false) (F_bo_1 X false Y false) = F_dp_1 Y false (F_bo_0 X false Y false) (F_bo_1 X false Y false) /\ Num' (F_dp_0 Y false (F_bo_0 X false Y false) (F_bo_1 X false Y false))) := fun X Y hX hY => by
      obtain ⟨l1, l2, l3, l4, l5⟩ := vLen_pk (e := false) (f := false) hX hY
      exact ⟨⟨l3, l4⟩, l1, l2, l5, Div_pk hX l5, Div_pk hY l5⟩
    have z : Num' 0 := ⟨by decide, by decide⟩
    by_cases hs : max x (-x) < 16777216 /\ max y (-y) < 16777216
    · have m1 : ilt (max (max (max x (-x)) y) (-y)) 16777216 = true := by rw [ilt_t]; omega
      have m2 : ilt (max x (-x)) 16777216 = true := by rw [ilt_t]; exact hs.1
      have m3 : ilt (max y (-y)) 16777216 = true := by rw [ilt_t]; exact hs.2
      have ex : imul .i64 x 16777216 = x * 16777216 := imul64 (by omega) (by omega)
      have ey : imul .i64 y 16777216 = y * 16777216 := imul64 (by omega) (by omega)
      have nX : Num' (x * 16777216) := ⟨by omega, by omega⟩
      have nY : Num' (y * 16777216) := ⟨by omega, by omega⟩
      have ofX : F_bx_0 (x * 16777216) = x * 16777216 /\ F_bx_1 (x * 16777216) = false := ⟨(whole_eq _ _).trans (whole_id nX), wholeF_id nX _⟩
      have ofY : F_bx_0 (y * 16777216) = y * 16777216 /\ F_bx_1 (y * 16777216) = false := ⟨(whole_eq _ _).trans (whole_id nY), wholeF_id nY _⟩
      simp only [m1, m2, m3, cond_true, ex, ey, ofX.1, ofX.2, ofY.1, ofY.2]
      obtain ⟨⟨l3, l4⟩, l1, l2, l5, ⟨d1, d2, d3, d4, d5⟩, ⟨e1, e2, e3, e4, e5⟩⟩ := fin _ _ nX nY
      simp only [l3, l4]
      cases h1 : F_bo_1 (x * 16777216) false (y * 16777216) false with
      | true => refine ⟨⟨PA, l1, trivial⟩, ⟨PB, l2, trivial⟩, ?_, ?_, ?_, ?_, ?_, z, z⟩ <;> first | rfl | trivial
      | false =>
        cases ieq (F_bo_0 (x * 16777216) false (y * 16777216) false) 0 with
        | true => refine ⟨⟨PA, l1, trivial⟩, ⟨PB, l2, trivial⟩, ?_, ?_, ?_, ?_, ?_, z, z⟩ <;> first | rfl | trivial
        | false =>
          simp only [h1] at d1 d2 d3 d4 d5 e1 e2 e3 e4 e5
          simp only [cond_false]
          exact ⟨⟨PA, l1, d1, e1⟩, ⟨PB, l2, d2, e2⟩, d3, d4, e3, e4, trivial, d5, e5⟩
    · have m1 : ilt (max (max (max x (-x)) y) (-y)) 16777216 = false := by rw [ilt_f]; omega
      obtain ⟨⟨l3, l4⟩, l1, l2, l5, ⟨d1, d2, d3, d4, d5⟩, ⟨e1, e2, e3, e4, e5⟩⟩ := fin _ _ hx hy
      have hm : ilt (max x (-x)) 16777216 = false ∨ (ilt (max x (-x)) 16777216 = true /\ ilt (max y (-y)) 16777216 = false) := by
        by_cases h : max x (-x) < 16777216
        · exact .inr ⟨ilt_t.2 h, by rw [ilt_f]; omega⟩
        · exact .inl (by rw [ilt_f]; omega)
      simp only [m1, cond_false, l3, l4]
      rcases hm with m2 | ⟨m2, m3⟩
      · simp only [m2, cond_false]
        cases h1 : F_bo_1 x false y false with
        | true => refine ⟨⟨PA, l1, trivial⟩, ⟨PB, l2, trivial⟩, ?_, ?_, ?_, ?_, ?_, z, z⟩ <;> first | rfl | trivial
        | false =>
          cases ieq (F_bo_0 x false y false) 0 with
          | true => refine ⟨⟨PA, l1, trivial⟩, ⟨PB, l2, trivial⟩, ?_, ?_, ?_, ?_, ?_, z, z⟩ <;> first | rfl | trivial
          | false =>
            simp only [h1] at d1 d2 d3 d4 d5 e1 e2 e3 e4 e5
            simp only [cond_false]
            exact ⟨⟨PA, l1, d1, e1⟩, ⟨PB, l2, d2, e2⟩, d3, d4, e3, e4, trivial, d5, e5⟩
      · simp only [m2, m3, cond_true, cond_false]
        cases h1 : F_bo_1 x false y false with
        | true => refine ⟨⟨PA, l1, trivial⟩, ⟨PB, l2, trivial⟩, ?_, ?_, ?_, ?_, ?_, z, z⟩ <;> first | rfl | trivial
        | false =>
          cases ieq (F_bo_0 x false y false) 0 with
          | true => refine ⟨⟨PA, l1, trivial⟩, ⟨PB, l2, trivial⟩, ?_, ?_, ?_, ?_, ?_, z, z⟩ <;> first | rfl | trivial
          | false =>
            simp only [h1] at d1 d2 d3 d4 d5 e1 e2 e3 e4 e5
            simp only [cond_false]
            exact ⟨⟨PA, l1, d1, e1⟩, ⟨PB, l2, d2, e2⟩, d3, d4, e3, e4, trivial, d5, e5⟩
def B_ee (gk : Int) (gn : Bool) (ge : Int) (gg : Bool) (gb : Int) (gd : Bool) (K0 : Int -> Bool -> Int -> Bool -> Prop)  : Prop := Ts 6 (((P_c8 gk gn gb gd) /\ Ts 3 (((P_c8 ge gg gb gd) /\ Ts 2 ((true = true /\ Ts 1 (K0 (F_c8_0 gk gn gb gd) (F_c8_1 gk gn gb gd) (F_c8_0 ge gg gb gd) (F_c8_1 ge gg gb gd))))))))
def P_ee (gk : Int) (gn : Bool) (ge : Int) (gg : Bool) (gb : Int) (gd : Bool) : Prop := ((P_c8 gk gn gb gd) /\ (P_c8 ge gg gb gd))
def F_ee_0 (gk : Int) (gn : Bool) (ge : Int) (gg : Bool) (gb : Int) (gd : Bool) : Int := (F_c8_0 gk gn gb gd)
def F_ee_1 (gk : Int) (gn : Bool) (ge : Int) (gg : Bool) (gb : Int) (gd : Bool) : Bool := (F_c8_1 gk gn gb gd)
def F_ee_2 (gk : Int) (gn : Bool) (ge : Int) (gg : Bool) (gb : Int) (gd : Bool) : Int := (F_c8_0 ge gg gb gd)
def F_ee_3 (gk : Int) (gn : Bool) (ge : Int) (gg : Bool) (gb : Int) (gd : Bool) : Bool := (F_c8_1 ge gg gb gd)
theorem H_ee (gk : Int) (gn : Bool) (ge : Int) (gg : Bool) (gb : Int) (gd : Bool) {K0 : Int -> Bool -> Int -> Bool -> Prop} (h : P_ee gk gn ge gg gb gd) (hK : K0 (F_ee_0 gk gn ge gg gb gd) (F_ee_1 gk gn ge gg gb gd) (F_ee_2 gk gn ge gg gb gd) (F_ee_3 gk gn ge gg gb gd)) : B_ee gk gn ge gg gb gd K0  := by
 unfold B_ee P_ee F_ee_0 F_ee_1 F_ee_2 F_ee_3 at *
 simp only [Ts_iff, true_and]; try simp only [Ts_iff, true_and] at h
 repeat' first | exact hK | refine ⟨rfl, ?_⟩ | refine ⟨trivial, ?_⟩ | refine ⟨by decide, ?_⟩ | (refine ⟨h.1, ?_⟩; replace h := h.2) | refine ⟨h, ?_⟩
theorem vScale_pk {a b k : Int} {e f g : Bool} (ha : Num' a) (hb : Num' b) (hk : Num' k) : P_ee a e b f k g /\ P_ef a e b f k g /\ F_ee_0 a e b f k g = F_ef_0 a e b f k g /\ F_ee_1 a e b f k g = F_ef_1 a e b f k g /\ F_ee_2 a e b f k g = F_ef_2 a e b f k g /\ F_ee_3 a e b f k g = F_ef_3 a e b f k g /\ Num' (F_ef_0 a e b f k g) /\ Num' (F_ef_2 a e b f k g) := by
  obtain ⟨a1, a2, a3, a4, a5⟩ := Mul_pk (f := e) (g := g) ha hk
  obtain ⟨b1, b2, b3, b4, b5⟩ := Mul_pk (f := f) (g := g) hb hk
  exact ⟨⟨a1, b1⟩, trivial, a3, a4, b3, b4, a5, b5⟩
def B_fv (gk : Int) (gn : Bool) (ge : Int) (gg : Bool) (ig : Int) (ii : Bool) (g8 : Int) (g9 : Bool) (K0 : Int -> Bool -> Prop)  : Prop := Ts 11 (((P_cc gk gn ig ii ge gg g8 g9) /\ Ts 2 (K0 (F_cc_0 gk gn ig ii ge gg g8 g9) (F_cc_1 gk gn ig ii ge gg g8 g9))))
def P_fv (gk : Int) (gn : Bool) (ge : Int) (gg : Bool) (ig : Int) (ii : Bool) (g8 : Int) (g9 : Bool) : Prop := (P_cc gk gn ig ii ge gg g8 g9)
def F_fv_0 (gk : Int) (gn : Bool) (ge : Int) (gg : Bool) (ig : Int) (ii : Bool) (g8 : Int) (g9 : Bool) : Int := (F_cc_0 gk gn ig ii ge gg g8 g9)
def F_fv_1 (gk : Int) (gn : Bool) (ge : Int) (gg : Bool) (ig : Int) (ii : Bool) (g8 : Int) (g9 : Bool) : Bool := (F_cc_1 gk gn ig ii ge gg g8 g9)
theorem H_fv (gk : Int) (gn : Bool) (ge : Int) (gg : Bool) (ig : Int) (ii : Bool) (g8 : Int) (g9 : Bool) {K0 : Int -> Bool -> Prop} (h : P_fv gk gn ge gg ig ii g8 g9) (hK : K0 (F_fv_0 gk gn ge gg ig ii g8 g9) (F_fv_1 gk gn ge gg ig ii g8 g9)) : B_fv gk gn ge gg ig ii g8 g9 K0  := by
 unfold B_fv P_fv F_fv_0 F_fv_1 at *
 simp only [Ts_iff, true_and]; try simp only [Ts_iff, true_and] at h
 repeat' first | exact hK | refine ⟨rfl, ?_⟩ | refine ⟨trivial, ?_⟩ | refine ⟨by decide, ?_⟩ | (refine ⟨h.1, ?_⟩; replace h := h.2) | refine ⟨h, ?_⟩
theorem vDot_pk {a b c d : Int} {e f g h : Bool} (ha : Num' a) (hb : Num' b) (hc : Num' c) (hd : Num' d) : P_fv a e b f c g d h /\ P_ft a e b f c g d h /\ F_fv_0 a e b f c g d h = F_ft_0 a e b f c g d h /\ F_fv_1 a e b f c g d h = F_ft_1 a e b f c g d h /\ Num' (F_ft_0 a e b f c g d h) := Dot_pk ha hc hb hd
def B_fa (gk : Int) (gn : Bool) (ge : Int) (gg : Bool) (ig : Int) (ii : Bool) (g8 : Int) (g9 : Bool) (K0 : Int -> Bool -> Prop)  : Prop := Ts 9 (((P_ed ge gg) /\ Ts 2 (((P_cc gk gn g8 g9 (F_ed_0 ge gg) (F_ed_1 ge gg) ig ii) /\ Ts 1 ((true = true /\ Ts 1 (K0 (F_cc_0 gk gn g8 g9 (F_ed_0 ge gg) (F_ed_1 ge gg) ig ii) (F_cc_1 gk gn g8 g9 (F_ed_0 ge gg) (F_ed_1 ge gg) ig ii))))))))
def P_fa (gk : Int) (gn : Bool) (ge : Int) (gg : Bool) (ig : Int) (ii : Bool) (g8 : Int) (g9 : Bool) : Prop := (P_cc gk gn g8 g9 (F_ed_0 ge gg) (F_ed_1 ge gg) ig ii)
def F_fa_0 (gk : Int) (gn : Bool) (ge : Int) (gg : Bool) (ig : Int) (ii : Bool) (g8 : Int) (g9 : Bool) : Int := (F_cc_0 gk gn g8 g9 (F_ed_0 ge gg) (F_ed_1 ge gg) ig ii)
def F_fa_1 (gk : Int) (gn : Bool) (ge : Int) (gg : Bool) (ig : Int) (ii : Bool) (g8 : Int) (g9 : Bool) : Bool := (F_cc_1 gk gn g8 g9 (F_ed_0 ge gg) (F_ed_1 ge gg) ig ii)
theorem H_fa (gk : Int) (gn : Bool) (ge : Int) (gg : Bool) (ig : Int) (ii : Bool) (g8 : Int) (g9 : Bool) {K0 : Int -> Bool -> Prop} (h : P_fa gk gn ge gg ig ii g8 g9) (hK : K0 (F_fa_0 gk gn ge gg ig ii g8 g9) (F_fa_1 gk gn ge gg ig ii g8 g9)) : B_fa gk gn ge gg ig ii g8 g9 K0  := by
 unfold B_fa P_fa F_fa_0 F_fa_1 at *
 simp only [Ts_iff, true_and]; try simp only [Ts_iff, true_and] at h
 repeat' first | exact hK | refine ⟨rfl, ?_⟩ | refine ⟨trivial, ?_⟩ | refine ⟨by decide, ?_⟩ | (refine ⟨h.1, ?_⟩; replace h := h.2) | refine ⟨h, ?_⟩
theorem vCross_pk {a b c d : Int} {e f g h : Bool} (ha : Num' a) (hb : Num' b) (hc : Num' c) (hd : Num' d) : P_fa a e b f c g d h /\ P_ew a e b f c g d h /\ F_fa_0 a e b f c g d h = F_ew_0 a e b f c g d h /\ F_fa_1 a e b f c g d h = F_ew_1 a e b f c g d h /\ Num' (F_ew_0 a e b f c g d h) := by
  unfold P_fa P_ew F_fa_0 F_fa_1 F_ew_0 F_ew_1
  obtain ⟨n1, n2, n3⟩ := Neg_pk (f := f) hb
  rw [n1, n2]
  obtain ⟨p1, p2, q⟩ := Dot_pk (e := e) (f := h) (g := F_ep_1 b f) (h := g) ha hd n3 hc
  exact ⟨p1, p2, q⟩
def B_f0 (a0 a1 : Int) (K0 : Int -> Bool -> Int -> Bool -> Prop)  : Prop := Ts 2 (((P_et a0) /\ Ts 1 (((P_et a1) /\ Ts 3 (K0 (F_et_0 a0) (F_et_1 a0) (F_et_0 a1) (F_et_1 a1))))))
def P_f0 (a0 a1 : Int) : Prop := True
def F_f0_0 (a0 a1 : Int) : Int := (F_et_0 a0)
def F_f0_1 (a0 a1 : Int) : Bool := (F_et_1 a0)
def F_f0_2 (a0 a1 : Int) : Int := (F_et_0 a1)
def F_f0_3 (a0 a1 : Int) : Bool := (F_et_1 a1)
theorem H_f0 (a0 a1 : Int) {K0 : Int -> Bool -> Int -> Bool -> Prop} (h : P_f0 a0 a1) (hK : K0 (F_f0_0 a0 a1) (F_f0_1 a0 a1) (F_f0_2 a0 a1) (F_f0_3 a0 a1)) : B_f0 a0 a1 K0  := by
 unfold B_f0 P_f0 F_f0_0 F_f0_1 F_f0_2 F_f0_3 at *
 simp only [Ts_iff, true_and]
 repeat' first | exact hK | refine ⟨rfl, ?_⟩ | refine ⟨trivial, ?_⟩ | refine ⟨by decide, ?_⟩ | (refine ⟨h.1, ?_⟩; replace h := h.2) | refine ⟨h, ?_⟩
def B_ch (cm ga : Int) (K0 : Int -> Bool -> Int -> Bool -> Prop)  : Prop := Ts 4 (((P_fp cm) /\ Ts 2 (((P_fp ga) /\ Ts 2 ((true = true /\ Ts 1 (K0 (F_fp_0 cm) (F_fp_1 cm) (F_fp_0 ga) (F_fp_1 ga))))))))
def P_ch (cm ga : Int) : Prop := True
def F_ch_0 (cm ga : Int) : Int := (F_fp_0 cm)
def F_ch_1 (cm ga : Int) : Bool := (F_fp_1 cm)
def F_ch_2 (cm ga : Int) : Int := (F_fp_0 ga)
def F_ch_3 (cm ga : Int) : Bool := (F_fp_1 ga)
theorem H_ch (cm ga : Int) {K0 : Int -> Bool -> Int -> Bool -> Prop} (h : P_ch cm ga) (hK : K0 (F_ch_0 cm ga) (F_ch_1 cm ga) (F_ch_2 cm ga) (F_ch_3 cm ga)) : B_ch cm ga K0  := by
 unfold B_ch P_ch F_ch_0 F_ch_1 F_ch_2 F_ch_3 at *
 simp only [Ts_iff, true_and]
 repeat' first | exact hK | refine ⟨rfl, ?_⟩ | refine ⟨trivial, ?_⟩ | refine ⟨by decide, ?_⟩ | (refine ⟨h.1, ?_⟩; replace h := h.2) | refine ⟨h, ?_⟩
def B_dj (cm ga gb gd : Int) (K0 : Int -> Bool -> Int -> Bool -> Prop)  : Prop := Ts 14 (((P_ch (isub .i64 gd ga) (isub .i64 cm gb)) /\ ((P_di (F_ch_0 (isub .i64 gd ga) (isub .i64 cm gb)) (F_ch_1 (isub .i64 gd ga) (isub .i64 cm gb)) (F_ch_2 (isub .i64 gd ga) (isub .i64 cm gb)) (F_ch_3 (isub .i64 gd ga) (isub .i64 cm gb))) /\ Ts 9 (K0 (F_di_0 (F_ch_0 (isub .i64 gd ga) (isub .i64 cm gb)) (F_ch_1 (isub .i64 gd ga) (isub .i64 cm gb)) (F_ch_2 (isub .i64 gd ga) (isub .i64 cm gb)) (F_ch_3 (isub .i64 gd ga) (isub .i64 cm gb))) (F_di_1 (F_ch_0 (isub .i64 gd ga) (isub .i64 cm gb)) (F_ch_1 (isub .i64 gd ga) (isub .i64 cm gb)) (F_ch_2 (isub .i64 gd ga) (isub .i64 cm gb)) (F_ch_3 (isub .i64 gd ga) (isub .i64 cm gb))) (F_di_2 (F_ch_0 (isub .i64 gd ga) (isub .i64 cm gb)) (F_ch_1 (isub .i64 gd ga) (isub .i64 cm gb)) (F_ch_2 (isub .i64 gd ga) (isub .i64 cm gb)) (F_ch_3 (isub .i64 gd ga) (isub .i64 cm gb))) (F_di_3 (F_ch_0 (isub .i64 gd ga) (isub .i64 cm gb)) (F_ch_1 (isub .i64 gd ga) (isub .i64 cm gb)) (F_ch_2 (isub .i64 gd ga) (isub .i64 cm gb)) (F_ch_3 (isub .i64 gd ga) (isub .i64 cm gb)))))))
def P_dj (cm ga gb gd : Int) : Prop := (P_di (F_ch_0 (isub .i64 gd ga) (isub .i64 cm gb)) (F_ch_1 (isub .i64 gd ga) (isub .i64 cm gb)) (F_ch_2 (isub .i64 gd ga) (isub .i64 cm gb)) (F_ch_3 (isub .i64 gd ga) (isub .i64 cm gb)))
def F_dj_0 (cm ga gb gd : Int) : Int := (F_di_0 (F_ch_0 (isub .i64 gd ga) (isub .i64 cm gb)) (F_ch_1 (isub .i64 gd ga) (isub .i64 cm gb)) (F_ch_2 (isub .i64 gd ga) (isub .i64 cm gb)) (F_ch_3 (isub .i64 gd ga) (isub .i64 cm gb)))
def F_dj_1 (cm ga gb gd : Int) : Bool := (F_di_1 (F_ch_0 (isub .i64 gd ga) (isub .i64 cm gb)) (F_ch_1 (isub .i64 gd ga) (isub .i64 cm gb)) (F_ch_2 (isub .i64 gd ga) (isub .i64 cm gb)) (F_ch_3 (isub .i64 gd ga) (isub .i64 cm gb)))
def F_dj_2 (cm ga gb gd : Int) : Int := (F_di_2 (F_ch_0 (isub .i64 gd ga) (isub .i64 cm gb)) (F_ch_1 (isub .i64 gd ga) (isub .i64 cm gb)) (F_ch_2 (isub .i64 gd ga) (isub .i64 cm gb)) (F_ch_3 (isub .i64 gd ga) (isub .i64 cm gb)))
def F_dj_3 (cm ga gb gd : Int) : Bool := (F_di_3 (F_ch_0 (isub .i64 gd ga) (isub .i64 cm gb)) (F_ch_1 (isub .i64 gd ga) (isub .i64 cm gb)) (F_ch_2 (isub .i64 gd ga) (isub .i64 cm gb)) (F_ch_3 (isub .i64 gd ga) (isub .i64 cm gb)))
theorem H_dj (cm ga gb gd : Int) {K0 : Int -> Bool -> Int -> Bool -> Prop} (h : P_dj cm ga gb gd) (hK : K0 (F_dj_0 cm ga gb gd) (F_dj_1 cm ga gb gd) (F_dj_2 cm ga gb gd) (F_dj_3 cm ga gb gd)) : B_dj cm ga gb gd K0  := by
 unfold B_dj P_dj F_dj_0 F_dj_1 F_dj_2 F_dj_3 at *
 simp only [Ts_iff, true_and]; try simp only [Ts_iff, true_and] at h
 repeat' first | exact hK | refine ⟨rfl, ?_⟩ | refine ⟨trivial, ?_⟩ | refine ⟨by decide, ?_⟩ | (refine ⟨h.1, ?_⟩; replace h := h.2) | refine ⟨h, ?_⟩
def B_fr (cm ge gg gm : Int) (gq : Nat) (gu gv : Nat -> Int) (K0 : Bool -> Prop)  : Prop := Ts 7 (K0 (ile ((gq : Nat) : Int) 12))
def P_fr (cm ge gg gm : Int) (gq : Nat) (gu gv : Nat -> Int) : Prop := True
def F_fr_0 (cm ge gg gm : Int) (gq : Nat) (gu gv : Nat -> Int) : Bool := (ile ((gq : Nat) : Int) 12)
theorem H_fr (cm ge gg gm : Int) (gq : Nat) (gu gv : Nat -> Int) {K0 : Bool -> Prop} (h : P_fr cm ge gg gm gq gu gv) (hK : K0 (F_fr_0 cm ge gg gm gq gu gv)) : B_fr cm ge gg gm gq gu gv K0  := by
 unfold B_fr P_fr F_fr_0 at *
 exact Ts_iff.2 hK
def B_bq_0 (gp : Nat) (cm ga : Nat -> Int) (ic : Int) (c x0 x1 : Int -> Prop)  : Prop := Ts 1 (cond (ilt ic ((gp : Nat) : Int)) (((0 <= ic /\ ic < ((gp : Nat) : Int)) /\ Ts 16 (cond (igt (imax (imax (imax (cm (Int.toNat ic)) (ineg .i64 (cm (Int.toNat ic)))) (ga (Int.toNat ic))) (ineg .i64 (ga (Int.toNat ic)))) 2097152) (Ts 4 (x1 ic)) (Ts 5 (cond (ilt (cm (Int.toNat ic)) (-2097152)) (Ts 2 (x1 ic)) (Ts 4 (cond (ilt (ga (Int.toNat ic)) (-2097152)) (Ts 1 (x1 ic)) (Ts 2 (c (iadd .i64 ic 1)))))))))) (x0 ic))
def W_bq_0 (gp : Nat) (cm ga : Nat -> Int) : Nat -> Int -> (Int -> Prop) -> (Int -> Prop) -> Prop
  | 0, _, _, _ => False
  | f + 1, w0, x0, x1 => B_bq_0 gp cm ga w0 (fun u0 => W_bq_0 gp cm ga f u0 x0 x1) x0 x1 
theorem BM_bq_0 (gp : Nat) (cm ga : Nat -> Int) (ic : Int) {c c' : Int -> Prop} {x0 y0 : Int -> Prop} {x1 y1 : Int -> Prop} (hc : ∀ w0, c w0 -> c' w0) (h0 : ∀ o0, x0 o0 -> y0 o0) (h1 : ∀ o0, x1 o0 -> y1 o0) : B_bq_0 gp cm ga ic c x0 x1  -> B_bq_0 gp cm ga ic c' y0 y1  := by
  unfold B_bq_0
  repeat' first
    | exact hc _
    | exact h0 _
    | exact h1 _
    | refine Ts_imp ?_
    | refine cond_imp ?_ ?_
    | refine and_imp' ?_
theorem WM_bq_0 (gp : Nat) (cm ga : Nat -> Int) {x0 y0 : Int -> Prop} {x1 y1 : Int -> Prop} (h0 : ∀ o0, x0 o0 -> y0 o0) (h1 : ∀ o0, x1 o0 -> y1 o0) : ∀ (f : Nat) (ic : Int), W_bq_0 gp cm ga f ic x0 x1 -> W_bq_0 gp cm ga f ic y0 y1
  | 0, w0 => fun h => h
  | f + 1, w0 => BM_bq_0 gp cm ga w0 (fun u0 => WM_bq_0 gp cm ga h0 h1 f u0) h0 h1
def B_bq (gp : Nat) (cm ga : Nat -> Int) (K0 : Bool -> Prop) (l0 : Int -> (Int -> Prop) -> (Int -> Prop) -> Prop) : Prop := Ts 4 ((l0 0 (fun i6 => Ts 1 (K0 true)) (fun i6 => K0 false)))
def spotsOK (n : Nat) (x y : Nat -> Int) : Bool := (List.range n).all fun k => spotOK (x k) (y k)
theorem spotsOK_iff {n : Nat} {x y : Nat -> Int} : spotsOK n x y = true ↔ ∀ k, k < n -> spotOK (x k) (y k) = true := by
  unfold spotsOK
  rw [List.all_eq_true]
  exact ⟨fun h k hk => h k (List.mem_range.2 hk), fun h k hk => h k (List.mem_range.1 hk)⟩
def P_bq (n : Nat) (x y : Nat -> Int) : Prop := n <= 1000000 /\ ∀ k, k < n -> I64 (x k) /\ I64 (y k)
def F_bq_0 (n : Nat) (x y : Nat -> Int) : Bool := spotsOK n x y
theorem W_bq_ok {n : Nat} {x y : Nat -> Int} (hp : P_bq n x y) {x0 x1 : Int -> Prop} : ∀ (f i : Nat), i <= n -> n < f + i -> ((∀ k, i <= k -> k < n -> spotOK (x k) (y k) = true) -> ∀ v, x0 v) -> (∀ k, k < n -> spotOK (x k) (y k) = false -> ∀ v, x1 v) -> W_bq_0 n x y f i x0 x1
  | 0, i, h1, h2, _, _ => by omega
  | f + 1, i, h1, h2, h3, h4 => by
    show B_bq_0 n x y i _ _ _
    unfold B_bq_0
    simp only [Ts_iff, true_and, Int.toNat_natCast, Nat.zero_add]
    refine cond_intro (fun hc => ?_) (fun hc => ?_)
    · rw [ilt_t] at hc
      have hi : i < n := by omega
      refine ⟨⟨by omega, hc⟩, ?_⟩
      obtain ⟨⟨hx1, hx2⟩, ⟨hy1, hy2⟩⟩ := hp.2 i hi
      have key : spotOK (x i) (y i) = false -> ∀ v, x1 v := h4 i hi
      have nk : ¬ (-2097152 <= x i /\ x i <= 2097152 /\ -2097152 <= y i /\ y i <= 2097152) -> ∀ v, x1 v := fun h => key (by rw [← Bool.not_eq_true, spotOK_iff]; exact h)
      have hnx : ineg .i64 (x i) = -(x i) ∨ (x i = -9223372036854775808 /\ ineg .i64 (x i) = -9223372036854775808) := by
        by_cases h : x i = -9223372036854775808
        · exact .inr ⟨h, by rw [h, ineg64_min]⟩
        · exact .inl (ineg64 (by omega) hx2)
      have hny : ineg .i64 (y i) = -(y i) ∨ (y i = -9223372036854775808 /\ ineg .i64 (y i) = -9223372036854775808) := by
        by_cases h : y i = -9223372036854775808
        · exact .inr ⟨h, by rw [h, ineg64_min]⟩
        · exact .inl (ineg64 (by omega) hy2)
      refine cond_intro (fun hc => ?_) (fun hc => ?_)
      · rw [igt_t, imax_m, imax_m, imax_m] at hc
        exact nk (by omega) _
      · rw [igt_f, imax_m, imax_m, imax_m] at hc
        refine cond_intro (fun hc => ?_) (fun hc => ?_)
        · rw [ilt_t] at hc
          exact nk (by omega) _
        · rw [ilt_f] at hc
          refine cond_intro (fun hc => ?_) (fun hc => ?_)
          · rw [ilt_t] at hc
            exact nk (by omega) _
          · rw [ilt_f] at hc
            have hn := hp.1
            rw [iadd64 (by omega) (by omega)]
            refine W_bq_ok hp f (i + 1) (by omega) (by omega) (fun h => h3 fun k hk1 hk2 => ?_) h4
            by_cases hk : k = i
            · subst hk
              rw [spotOK_iff]
              omega
            · exact h k (by omega) hk2
    · rw [ilt_f] at hc
      exact h3 (fun k hk1 hk2 => by omega) _
theorem H_bq (gp : Nat) (cm ga : Nat -> Int) {K0 : Bool -> Prop} (h : P_bq gp cm ga) (hK : K0 (F_bq_0 gp cm ga)) : B_bq gp cm ga K0 (W_bq_0 gp cm ga fuel) := by
  unfold B_bq
  simp only [Ts_iff, true_and]
  refine W_bq_ok h fuel 0 (Nat.zero_le _) (by rw [fuel_eq]; have := h.1; omega) (fun h => ?_) (fun k hk hs => ?_)
  · intro v
    have : F_bq_0 gp cm ga = true := spotsOK_iff.2 fun k hk => h k (Nat.zero_le _) hk
    rw [this] at hK
    exact hK
  · intro v
    have : F_bq_0 gp cm ga = false := by
      cases hf : F_bq_0 gp cm ga with
      | false => rfl
      | true => rw [spotsOK_iff.1 hf k hk] at hs; cases hs
    rw [this] at hK
    exact hK
def B_cw (cm ga gm im : Int) (K0 : Int -> Prop)  : Prop := Ts 16 ((true = true /\ Ts 3 (((P_bq 2 (pushF 1 (fun _ => cm) gm) (pushF 1 (fun _ => ga) im)) /\ Ts 2 (cond (!(F_bq_0 2 (pushF 1 (fun _ => cm) gm) (pushF 1 (fun _ => ga) im))) (Ts 1 (K0 3)) (Ts 6 (cond (igt cm gm) (Ts 3 (K0 5)) (Ts 7 (cond (igt ga im) (Ts 1 (K0 5)) (Ts 1 (K0 0)))))))))))
def P_cw (cm ga gm im : Int) : Prop := (P_bq 2 (pushF 1 (fun _ => cm) gm) (pushF 1 (fun _ => ga) im))
def F_cw_0 (cm ga gm im : Int) : Int := (cond (!(F_bq_0 2 (pushF 1 (fun _ => cm) gm) (pushF 1 (fun _ => ga) im))) 3 (cond (igt cm gm) 5 (cond (igt ga im) 5 0)))
theorem H_cw (cm ga gm im : Int) {K0 : Int -> Prop} (h : P_cw cm ga gm im) (hK : K0 (F_cw_0 cm ga gm im)) : B_cw cm ga gm im K0  := by
 unfold B_cw P_cw F_cw_0 at *
 simp only [Ts_iff, true_and]; try simp only [Ts_iff, true_and] at h
 repeat' first | exact hK | (refine cond_intro (fun c => ?_) (fun c => ?_) <;> try simp only [c, cond_true, cond_false] at h hK ⊢) | refine ⟨rfl, ?_⟩ | refine ⟨trivial, ?_⟩ | refine ⟨by decide, ?_⟩ | (refine ⟨h.1, ?_⟩; replace h := h.2) | refine ⟨h, ?_⟩
def B_er (cm ga gm im a1 : Int) (K0 : Int -> Int -> Int -> Int -> Prop)  : Prop := Ts 3 (((P_cw cm ga gm im) /\ Ts 1 (cond (ine (F_cw_0 cm ga gm im) 0) (Ts 3 (K0 cm ga gm im)) (Ts 35 (K0 (imax (isub .i64 cm (imax 0 (imin a1 4194304))) (-2097152)) (imax (isub .i64 ga (imax 0 (imin a1 4194304))) (-2097152)) (imin (iadd .i64 gm (imax 0 (imin a1 4194304))) 2097152) (imin (iadd .i64 im (imax 0 (imin a1 4194304))) 2097152))))))
def P_er (cm ga gm im a1 : Int) : Prop := (P_cw cm ga gm im)
def F_er_0 (cm ga gm im a1 : Int) : Int := (cond (ine (F_cw_0 cm ga gm im) 0) cm (imax (isub .i64 cm (imax 0 (imin a1 4194304))) (-2097152)))
def F_er_1 (cm ga gm im a1 : Int) : Int := (cond (ine (F_cw_0 cm ga gm im) 0) ga (imax (isub .i64 ga (imax 0 (imin a1 4194304))) (-2097152)))
def F_er_2 (cm ga gm im a1 : Int) : Int := (cond (ine (F_cw_0 cm ga gm im) 0) gm (imin (iadd .i64 gm (imax 0 (imin a1 4194304))) 2097152))
def F_er_3 (cm ga gm im a1 : Int) : Int := (cond (ine (F_cw_0 cm ga gm im) 0) im (imin (iadd .i64 im (imax 0 (imin a1 4194304))) 2097152))
theorem H_er (cm ga gm im a1 : Int) {K0 : Int -> Int -> Int -> Int -> Prop} (h : P_er cm ga gm im a1) (hK : K0 (F_er_0 cm ga gm im a1) (F_er_1 cm ga gm im a1) (F_er_2 cm ga gm im a1) (F_er_3 cm ga gm im a1)) : B_er cm ga gm im a1 K0  := by
 unfold B_er P_er F_er_0 F_er_1 F_er_2 F_er_3 at *
 simp only [Ts_iff, true_and]; try simp only [Ts_iff, true_and] at h
 repeat' first | exact hK | (refine cond_intro (fun c => ?_) (fun c => ?_) <;> try simp only [c, cond_true, cond_false] at h hK ⊢) | refine ⟨rfl, ?_⟩ | refine ⟨trivial, ?_⟩ | refine ⟨by decide, ?_⟩ | (refine ⟨h.1, ?_⟩; replace h := h.2) | refine ⟨h, ?_⟩
def B_bn (cm ga gb gd : Int) (K0 : Int -> Int -> Prop)  : Prop := Ts 16 (K0 (isub .i64 gb cm) (isub .i64 gd ga))
def P_bn (cm ga gb gd : Int) : Prop := True
def F_bn_0 (cm ga gb gd : Int) : Int := (isub .i64 gb cm)
def F_bn_1 (cm ga gb gd : Int) : Int := (isub .i64 gd ga)
theorem H_bn (cm ga gb gd : Int) {K0 : Int -> Int -> Prop} (h : P_bn cm ga gb gd) (hK : K0 (F_bn_0 cm ga gb gd) (F_bn_1 cm ga gb gd)) : B_bn cm ga gb gd K0  := by
 unfold B_bn P_bn F_bn_0 F_bn_1 at *
 exact Ts_iff.2 hK
def B_fq (cm ga gb gd : Int) (K0 : Int -> Prop)  : Prop := Ts 15 (K0 (isub .i64 (imul .i64 cm gd) (imul .i64 ga gb)))
def P_fq (cm ga gb gd : Int) : Prop := True
def F_fq_0 (cm ga gb gd : Int) : Int := (isub .i64 (imul .i64 cm gd) (imul .i64 ga gb))
theorem H_fq (cm ga gb gd : Int) {K0 : Int -> Prop} (h : P_fq cm ga gb gd) (hK : K0 (F_fq_0 cm ga gb gd)) : B_fq cm ga gb gd K0  := by
 unfold B_fq P_fq F_fq_0 at *
 exact Ts_iff.2 hK
def B_e8 (cm ga gb gd gh gj : Int) (K0 : Int -> Prop)  : Prop := Ts 6 (((P_bn cm ga gb gd) /\ Ts 2 (((P_bn cm ga gh gj) /\ ((P_fq (F_bn_0 cm ga gb gd) (F_bn_1 cm ga gb gd) (F_bn_0 cm ga gh gj) (F_bn_1 cm ga gh gj)) /\ Ts 1 ((true = true /\ K0 (F_fq_0 (F_bn_0 cm ga gb gd) (F_bn_1 cm ga gb gd) (F_bn_0 cm ga gh gj) (F_bn_1 cm ga gh gj)))))))))
def P_e8 (cm ga gb gd gh gj : Int) : Prop := True
def F_e8_0 (cm ga gb gd gh gj : Int) : Int := (F_fq_0 (F_bn_0 cm ga gb gd) (F_bn_1 cm ga gb gd) (F_bn_0 cm ga gh gj) (F_bn_1 cm ga gh gj))
theorem H_e8 (cm ga gb gd gh gj : Int) {K0 : Int -> Prop} (h : P_e8 cm ga gb gd gh gj) (hK : K0 (F_e8_0 cm ga gb gd gh gj)) : B_e8 cm ga gb gd gh gj K0  := by
 unfold B_e8 P_e8 F_e8_0 at *
 simp only [Ts_iff, true_and]
 repeat' first | exact hK | refine ⟨rfl, ?_⟩ | refine ⟨trivial, ?_⟩ | refine ⟨by decide, ?_⟩ | (refine ⟨h.1, ?_⟩; replace h := h.2) | refine ⟨h, ?_⟩
def B_fs (cm ga gb gd gh gj : Int) (K0 : Int -> Prop)  : Prop := Ts 9 (((P_bq 3 (appF 1 (fun _ => cm) (pushF 1 (fun _ => gb) gh)) (appF 1 (fun _ => ga) (pushF 1 (fun _ => gd) gj))) /\ cond (F_bq_0 3 (appF 1 (fun _ => cm) (pushF 1 (fun _ => gb) gh)) (appF 1 (fun _ => ga) (pushF 1 (fun _ => gd) gj))) (Ts 3 (((P_e8 cm ga gb gd gh gj) /\ Ts 4 (cond (igt (F_e8_0 cm ga gb gd gh gj) 0) (Ts 1 (K0 1)) (Ts 3 (cond (ilt (F_e8_0 cm ga gb gd gh gj) 0) (Ts 1 (K0 (-1))) (Ts 1 (K0 0)))))))) (Ts 3 (cond (igt 0 0) (Ts 1 (K0 1)) (Ts 3 (cond (ilt 0 0) (Ts 1 (K0 (-1))) (Ts 1 (K0 0))))))))
def P_fs (cm ga gb gd gh gj : Int) : Prop := (P_bq 3 (appF 1 (fun _ => cm) (pushF 1 (fun _ => gb) gh)) (appF 1 (fun _ => ga) (pushF 1 (fun _ => gd) gj)))
def F_fs_0 (cm ga gb gd gh gj : Int) : Int := (cond (F_bq_0 3 (appF 1 (fun _ => cm) (pushF 1 (fun _ => gb) gh)) (appF 1 (fun _ => ga) (pushF 1 (fun _ => gd) gj))) (cond (igt (F_e8_0 cm ga gb gd gh gj) 0) 1 (cond (ilt (F_e8_0 cm ga gb gd gh gj) 0) (-1) 0)) (cond (igt 0 0) 1 (cond (ilt 0 0) (-1) 0)))
theorem H_fs (cm ga gb gd gh gj : Int) {K0 : Int -> Prop} (h : P_fs cm ga gb gd gh gj) (hK : K0 (F_fs_0 cm ga gb gd gh gj)) : B_fs cm ga gb gd gh gj K0  := by
 unfold B_fs P_fs F_fs_0 at *
 simp only [Ts_iff, true_and]; try simp only [Ts_iff, true_and] at h
 repeat' first | exact hK | (refine cond_intro (fun c => ?_) (fun c => ?_) <;> try simp only [c, cond_true, cond_false] at h hK ⊢) | refine ⟨rfl, ?_⟩ | refine ⟨trivial, ?_⟩ | refine ⟨by decide, ?_⟩ | (refine ⟨h.1, ?_⟩; replace h := h.2) | refine ⟨h, ?_⟩
def B_fj  (K0 : Bool -> Prop)  : Prop := Ts 4 (((P_fs 0 0 1 0 0 1) /\ Ts 2 (cond (ieq (F_fs_0 0 0 1 0 0 1) 1) (Ts 1 (((P_er 0 0 1 1 2) /\ Ts 4 (K0 ((ieq (F_er_0 0 0 1 1 2) (-2)) && ((ieq (F_er_1 0 0 1 1 2) (-2)) && ((ieq (F_er_2 0 0 1 1 2) 3) && (ieq (F_er_3 0 0 1 1 2) 3)))))))) (Ts 2 (K0 false)))))
def P_fj  : Prop := ((P_fs 0 0 1 0 0 1) /\ (cond (ieq (F_fs_0 0 0 1 0 0 1) 1) (P_er 0 0 1 1 2) True))
def F_fj_0  : Bool := (cond (ieq (F_fs_0 0 0 1 0 0 1) 1) ((ieq (F_er_0 0 0 1 1 2) (-2)) && ((ieq (F_er_1 0 0 1 1 2) (-2)) && ((ieq (F_er_2 0 0 1 1 2) 3) && (ieq (F_er_3 0 0 1 1 2) 3)))) false)
theorem H_fj  {K0 : Bool -> Prop} (h : P_fj ) (hK : K0 F_fj_0) : B_fj  K0  := by
 unfold B_fj P_fj F_fj_0 at *
 simp only [Ts_iff, true_and]; try simp only [Ts_iff, true_and] at h
 repeat' first | exact hK | (refine cond_intro (fun c => ?_) (fun c => ?_) <;> try simp only [c, cond_true, cond_false] at h hK ⊢) | refine ⟨rfl, ?_⟩ | refine ⟨trivial, ?_⟩ | refine ⟨by decide, ?_⟩ | (refine ⟨h.1, ?_⟩; replace h := h.2) | refine ⟨h, ?_⟩
theorem fair2 (a b c d : Int) : F_bq_0 2 (pushF 1 (fun _ => a) c) (pushF 1 (fun _ => b) d) = (spotOK a b && spotOK c d) := by
  unfold F_bq_0 spotsOK
  rw [show List.range 2 = [0, 1] from rfl]
  simp only [List.all_cons, List.all_nil, Bool.and_true]
  rfl
theorem fairP2 {a b c d : Int} (h1 : I64 a) (h2 : I64 b) (h3 : I64 c) (h4 : I64 d) : P_bq 2 (pushF 1 (fun _ => a) c) (pushF 1 (fun _ => b) d) := by
  refine ⟨by omega, fun k hk => ?_⟩
  have : k = 0 ∨ k = 1 := by omega
  rcases this with rfl | rfl
  · exact ⟨h1, h2⟩
  · exact ⟨h3, h4⟩
theorem fair3 (a b c d e f : Int) : F_bq_0 3 (appF 1 (fun _ => a) (pushF 1 (fun _ => c) e)) (appF 1 (fun _ => b) (pushF 1 (fun _ => d) f)) = (spotOK a b && spotOK c d && spotOK e f) := by
  unfold F_bq_0 spotsOK
  rw [show List.range 3 = [0, 1, 2] from rfl]
  simp only [List.all_cons, List.all_nil, Bool.and_true]
  rw [Bool.and_assoc]
  rfl
theorem fairP3 {a b c d e f : Int} (h1 : I64 a) (h2 : I64 b) (h3 : I64 c) (h4 : I64 d) (h5 : I64 e) (h6 : I64 f) : P_bq 3 (appF 1 (fun _ => a) (pushF 1 (fun _ => c) e)) (appF 1 (fun _ => b) (pushF 1 (fun _ => d) f)) := by
  refine ⟨by omega, fun k hk => ?_⟩
  have : k = 0 ∨ k = 1 ∨ k = 2 := by omega
  rcases this with rfl | rfl | rfl
  · exact ⟨h1, h2⟩
  · exact ⟨h3, h4⟩
  · exact ⟨h5, h6⟩
theorem cond_tt {b x y : Bool} : (cond b x y = true) ↔ ((b = true /\ x = true) ∨ (b = false /\ y = true)) := by cases b <;> simp
def boxIn (a b c d : Int) : Prop := (-2097152 <= a /\ a <= 2097152 /\ -2097152 <= b /\ b <= 2097152) /\ (-2097152 <= c /\ c <= 2097152 /\ -2097152 <= d /\ d <= 2097152)
instance (a b c d : Int) : Decidable (boxIn a b c d) := by unfold boxIn; infer_instance
theorem checkP {a b c d : Int} (h1 : I64 a) (h2 : I64 b) (h3 : I64 c) (h4 : I64 d) : P_cw a b c d := fairP2 h1 h2 h3 h4
theorem check_sd (a b c d : Int) : (F_cw_0 a b c d = 3 /\ ¬ boxIn a b c d) ∨ (F_cw_0 a b c d = 5 /\ boxIn a b c d /\ (c < a ∨ d < b)) ∨ (F_cw_0 a b c d = 0 /\ boxIn a b c d /\ a <= c /\ b <= d) := by
  unfold F_cw_0 boxIn
  rw [fair2]
  cases h : (spotOK a b && spotOK c d) with
  | false =>
    left
    refine ⟨rfl, fun ⟨h1, h2⟩ => ?_⟩
    rw [spotOK_iff.2 h1, spotOK_iff.2 h2] at h
    cases h
  | true =>
    right
    rw [Bool.and_eq_true, spotOK_iff, spotOK_iff] at h
    cases h1 : igt a c with
    | true => rw [igt_t] at h1; exact .inl ⟨rfl, h, .inl h1⟩
    | false =>
      rw [igt_f] at h1
      cases h2 : igt b d with
      | true => rw [igt_t] at h2; exact .inl ⟨rfl, h, .inr h2⟩
      | false => rw [igt_f] at h2; exact .inr ⟨rfl, h, h1, h2⟩
theorem check_0 (a b c d : Int) : F_cw_0 a b c d = 0 ↔ (boxIn a b c d /\ a <= c /\ b <= d) := by
  rcases check_sd a b c d with ⟨h1, h2⟩ | ⟨h1, h2, h3⟩ | ⟨h1, h2, h3⟩ <;> rw [h1]
  · exact ⟨fun h => by omega, fun h => absurd h.1 h2⟩
  · exact ⟨fun h => by omega, fun h => by omega⟩
  · exact ⟨fun _ => ⟨h2, h3⟩, fun _ => rfl⟩
theorem grow_sd (a b c d r : Int) : (F_er_0 a b c d r, F_er_1 a b c d r, F_er_2 a b c d r, F_er_3 a b c d r) =
    if boxIn a b c d /\ a <= c /\ b <= d then (max (a - max 0 (min r 4194304)) (-2097152), max (b - max 0 (min r 4194304)) (-2097152), min (c + max 0 (min r 4194304)) 2097152, min (d + max 0 (min r 4194304)) 2097152) else (a, b, c, d) := by
  unfold F_er_0 F_er_1 F_er_2 F_er_3
  cases h : ine (F_cw_0 a b c d) 0 with
  | true => rw [ine_t, check_0] at h; rw [if_neg h]; rfl
  | false =>
    rw [ine_f, check_0] at h
    rw [if_pos h]
    unfold boxIn at h
    simp only [cond_false, imax_m, imin_m]
    rw [isub64 (by omega) (by omega), isub64 (by omega) (by omega), iadd64 (by omega) (by omega), iadd64 (by omega) (by omega)]
theorem i64_small {x : Int} (h1 : -2305843009213693952 <= x) (h2 : x <= 2305843009213693952) : I64 x := by unfold I64; omega
theorem side_pos : F_fs_0 0 0 1 0 0 1 = 1 := by
  unfold F_fs_0
  rw [fair3]
  have h1 : spotOK 0 0 = true := by rw [spotOK_iff]; omega
  have h2 : spotOK 1 0 = true := by rw [spotOK_iff]; omega
  have h3 : spotOK 0 1 = true := by rw [spotOK_iff]; omega
  rw [h1, h2, h3]
  unfold F_e8_0 F_fq_0 F_bn_0 F_bn_1
  have h : igt (isub .i64 (imul .i64 (isub .i64 1 0) (isub .i64 1 0)) (imul .i64 (isub .i64 0 0) (isub .i64 0 0))) 0 = true := by
    have e0 : isub .i64 0 0 = 0 := by rw [isub64] <;> omega
    have e1 : isub .i64 1 0 = 1 := by rw [isub64] <;> omega
    have e2 : imul .i64 0 0 = 0 := by rw [imul64] <;> omega
    have e3 : imul .i64 1 1 = 1 := by rw [imul64] <;> omega
    rw [e0, e1, e2, e3, e1, igt_t]
    omega
  rw [h]
  rfl
theorem awakeP : P_fj := by
  refine ⟨fairP3 ?_ ?_ ?_ ?_ ?_ ?_, cond_intro (fun _ => checkP ?_ ?_ ?_ ?_) (fun _ => trivial)⟩ <;> exact i64_small (by omega) (by omega)
theorem awake_true : F_fj_0 = true := by
  unfold F_fj_0
  rw [side_pos]
  have h := grow_sd 0 0 1 1 2
  rw [if_pos (by unfold boxIn; omega)] at h
  simp only [Prod.mk.injEq] at h
  obtain ⟨h1, h2, h3, h4⟩ := h
  rw [h1, h2, h3, h4]
  simp only [Bool.cond_eq_ite, ieq_t, if_true, Bool.and_eq_true]
  omega
def B_b8_0 (gp : Nat) (cm ga : Nat -> Int) (je : Bool) (ia : Int) (j5 : Nat) (i7 kd : (Nat -> Int)) (c x0 : Bool -> Int -> Nat -> (Nat -> Int) -> (Nat -> Int) -> Prop)  : Prop := Ts 4 (cond (ilt ia ((gp : Nat) : Int)) (Ts 3 (((0 <= ia /\ ia < ((gp : Nat) : Int)) /\ Ts 2 ((((j5 + 1) * 16 <= 1000000000000 /\ (j5 + 1) <= 1000000000000) /\ Ts 4 (c false (iadd .i64 ia 1) (j5 + 1) (pushF j5 i7 (cm (Int.toNat ia))) (pushF j5 kd (ga (Int.toNat ia))))))))) (x0 je ia j5 i7 kd))
def W_b8_0 (gp : Nat) (cm ga : Nat -> Int) : Nat -> Bool -> Int -> Nat -> (Nat -> Int) -> (Nat -> Int) -> (Bool -> Int -> Nat -> (Nat -> Int) -> (Nat -> Int) -> Prop) -> Prop
  | 0, _, _, _, _, _, _ => False
  | f + 1, w0, w1, w2, w3, w4, x0 => B_b8_0 gp cm ga w0 w1 w2 w3 w4 (fun u0 u1 u2 u3 u4 => W_b8_0 gp cm ga f u0 u1 u2 u3 u4 x0) x0 
theorem BM_b8_0 (gp : Nat) (cm ga : Nat -> Int) (je : Bool) (ia : Int) (j5 : Nat) (i7 kd : (Nat -> Int)) {c c' : Bool -> Int -> Nat -> (Nat -> Int) -> (Nat -> Int) -> Prop} {x0 y0 : Bool -> Int -> Nat -> (Nat -> Int) -> (Nat -> Int) -> Prop} (hc : ∀ w0 w1 w2 w3 w4, c w0 w1 w2 w3 w4 -> c' w0 w1 w2 w3 w4) (h0 : ∀ o0 o1 o2 o3 o4, x0 o0 o1 o2 o3 o4 -> y0 o0 o1 o2 o3 o4) : B_b8_0 gp cm ga je ia j5 i7 kd c x0  -> B_b8_0 gp cm ga je ia j5 i7 kd c' y0  := by
  unfold B_b8_0
  repeat' first
    | exact hc _ _ _ _ _
    | exact h0 _ _ _ _ _
    | refine Ts_imp ?_
    | refine cond_imp ?_ ?_
    | refine and_imp' ?_
theorem WM_b8_0 (gp : Nat) (cm ga : Nat -> Int) {x0 y0 : Bool -> Int -> Nat -> (Nat -> Int) -> (Nat -> Int) -> Prop} (h0 : ∀ o0 o1 o2 o3 o4, x0 o0 o1 o2 o3 o4 -> y0 o0 o1 o2 o3 o4) : ∀ (f : Nat) (je : Bool) (ia : Int) (j5 : Nat) (i7 kd : (Nat -> Int)), W_b8_0 gp cm ga f je ia j5 i7 kd x0 -> W_b8_0 gp cm ga f je ia j5 i7 kd y0
  | 0, w0, w1, w2, w3, w4 => fun h => h
  | f + 1, w0, w1, w2, w3, w4 => BM_b8_0 gp cm ga w0 w1 w2 w3 w4 (fun u0 u1 u2 u3 u4 => WM_b8_0 gp cm ga h0 f u0 u1 u2 u3 u4) h0
def B_b8 (gp : Nat) (cm ga : Nat -> Int) (K0 : Nat -> (Nat -> Int) -> (Nat -> Int) -> Prop) (l0 : Bool -> Int -> Nat -> (Nat -> Int) -> (Nat -> Int) -> (Bool -> Int -> Nat -> (Nat -> Int) -> (Nat -> Int) -> Prop) -> Prop) : Prop := Ts 3 ((l0 true 0 0 (fun _ => 0) (fun _ => 0) (fun lu ke lv kx lw => Ts 2 (K0 lv kx lw))))
def copyF (f : Nat -> Int) : Nat -> (Nat -> Int)
  | 0 => fun _ => 0
  | k + 1 => pushF k (copyF f k) (f k)
theorem pushF_lt' {n k : Nat} (f : Nat -> Int) (x : Int) (h : k < n) : pushF n f x k = f k := by
  unfold pushF
  rw [show Nat.blt k n = true by rw [Nat.blt_eq]; exact h]
  rfl
theorem pushF_at' (n : Nat) (f : Nat -> Int) (x : Int) : pushF n f x n = x := by
  unfold pushF
  rw [show Nat.blt n n = false by cases h : Nat.blt n n with | false => rfl | true => (rw [Nat.blt_eq] at h; omega)]
  rfl
theorem copyF_lt (f : Nat -> Int) : ∀ (n k : Nat), k < n -> copyF f n k = f k
  | 0, k, h => by omega
  | n + 1, k, h => by
    unfold copyF
    by_cases hk : k = n
    · subst hk; exact pushF_at' _ _ _
    · rw [pushF_lt' _ _ (by omega)]; exact copyF_lt f n k (by omega)
def P_b8 (gp : Nat) (cm ga : Nat -> Int) : Prop := gp <= 1000000
def F_b8_0 (gp : Nat) (cm ga : Nat -> Int) : Nat := gp
def F_b8_1 (gp : Nat) (cm ga : Nat -> Int) : (Nat -> Int) := copyF cm gp
def F_b8_2 (gp : Nat) (cm ga : Nat -> Int) : (Nat -> Int) := copyF ga gp
theorem W_b8_ok {n : Nat} {a b : Nat -> Int} (hn : n <= 1000000) {x0 : Bool -> Int -> Nat -> (Nat -> Int) -> (Nat -> Int) -> Prop} (hx : ∀ q v, x0 q v n (copyF a n) (copyF b n)) : ∀ (f i : Nat) (q : Bool), i <= n -> n < f + i -> W_b8_0 n a b f q i i (copyF a i) (copyF b i) x0
  | 0, i, q, h1, h2 => by omega
  | f + 1, i, q, h1, h2 => by
    show B_b8_0 n a b q i i (copyF a i) (copyF b i) _ _
    unfold B_b8_0
    simp only [Ts_iff, true_and, Int.toNat_natCast, Nat.zero_add]
    refine cond_intro (fun hc => ?_) (fun hc => ?_)
    · rw [ilt_t] at hc
      rw [iadd64 (by omega) (by omega)]
      exact ⟨⟨by omega, hc⟩, ⟨by omega, by omega⟩, W_b8_ok hn hx f (i + 1) _ (by omega) (by omega)⟩
    · rw [ilt_f] at hc
      have : i = n := by omega
      subst this
      exact hx _ _
theorem H_b8 (gp : Nat) (cm ga : Nat -> Int) {K0 : Nat -> (Nat -> Int) -> (Nat -> Int) -> Prop} (h : P_b8 gp cm ga) (hK : K0 (F_b8_0 gp cm ga) (F_b8_1 gp cm ga) (F_b8_2 gp cm ga)) : B_b8 gp cm ga K0 (W_b8_0 gp cm ga fuel) := by
  unfold B_b8
  simp only [Ts_iff, true_and]
  have h : gp <= 1000000 := h
  exact W_b8_ok h (fun q v => hK) fuel 0 true (Nat.zero_le _) (by rw [fuel_eq]; omega)
def B_a7 (cm ge gg gm : Int) (gq : Nat) (gu gv : Nat -> Int) (K0 : Int -> Int -> Int -> Int -> Nat -> (Nat -> Int) -> (Nat -> Int) -> Prop)  : Prop := Ts 4 (((P_b8 gq gu gv) /\ Ts 5 (K0 cm ge gg gm (F_b8_0 gq gu gv) (F_b8_1 gq gu gv) (F_b8_2 gq gu gv))))
def P_a7 (cm ge gg gm : Int) (gq : Nat) (gu gv : Nat -> Int) : Prop := (P_b8 gq gu gv)
def F_a7_0 (cm ge gg gm : Int) (gq : Nat) (gu gv : Nat -> Int) : Int := cm
def F_a7_1 (cm ge gg gm : Int) (gq : Nat) (gu gv : Nat -> Int) : Int := ge
def F_a7_2 (cm ge gg gm : Int) (gq : Nat) (gu gv : Nat -> Int) : Int := gg
def F_a7_3 (cm ge gg gm : Int) (gq : Nat) (gu gv : Nat -> Int) : Int := gm
def F_a7_4 (cm ge gg gm : Int) (gq : Nat) (gu gv : Nat -> Int) : Nat := (F_b8_0 gq gu gv)
def F_a7_5 (cm ge gg gm : Int) (gq : Nat) (gu gv : Nat -> Int) : (Nat -> Int) := (F_b8_1 gq gu gv)
def F_a7_6 (cm ge gg gm : Int) (gq : Nat) (gu gv : Nat -> Int) : (Nat -> Int) := (F_b8_2 gq gu gv)
theorem H_a7 (cm ge gg gm : Int) (gq : Nat) (gu gv : Nat -> Int) {K0 : Int -> Int -> Int -> Int -> Nat -> (Nat -> Int) -> (Nat -> Int) -> Prop} (h : P_a7 cm ge gg gm gq gu gv) (hK : K0 (F_a7_0 cm ge gg gm gq gu gv) (F_a7_1 cm ge gg gm gq gu gv) (F_a7_2 cm ge gg gm gq gu gv) (F_a7_3 cm ge gg gm gq gu gv) (F_a7_4 cm ge gg gm gq gu gv) (F_a7_5 cm ge gg gm gq gu gv) (F_a7_6 cm ge gg gm gq gu gv)) : B_a7 cm ge gg gm gq gu gv K0  := by
 unfold B_a7 P_a7 F_a7_0 F_a7_1 F_a7_2 F_a7_3 F_a7_4 F_a7_5 F_a7_6 at *
 simp only [Ts_iff, true_and]; try simp only [Ts_iff, true_and] at h
 repeat' first | exact hK | refine ⟨rfl, ?_⟩ | refine ⟨trivial, ?_⟩ | refine ⟨by decide, ?_⟩ | (refine ⟨h.1, ?_⟩; replace h := h.2) | refine ⟨h, ?_⟩
def B_a6_0 (gp : Nat) (cm ga : Nat -> Int) (ij : Nat) (gb gd : Nat -> Int) (ib : Int) (c x0 x1 : Int -> Prop)  : Prop := Ts 4 (cond (ilt ib ((gp : Nat) : Int)) (Ts 2 (((0 <= ib /\ ib < ((gp : Nat) : Int)) /\ Ts 3 (((0 <= ib /\ ib < ((ij : Nat) : Int)) /\ Ts 2 ((true = true /\ cond (!((ieq (cm (Int.toNat ib)) (gb (Int.toNat ib))) && (ieq (ga (Int.toNat ib)) (gd (Int.toNat ib))))) (Ts 1 (x1 ib)) (Ts 3 (c (iadd .i64 ib 1)))))))))) (x0 ib))
def W_a6_0 (gp : Nat) (cm ga : Nat -> Int) (ij : Nat) (gb gd : Nat -> Int) : Nat -> Int -> (Int -> Prop) -> (Int -> Prop) -> Prop
  | 0, _, _, _ => False
  | f + 1, w0, x0, x1 => B_a6_0 gp cm ga ij gb gd w0 (fun u0 => W_a6_0 gp cm ga ij gb gd f u0 x0 x1) x0 x1 
theorem BM_a6_0 (gp : Nat) (cm ga : Nat -> Int) (ij : Nat) (gb gd : Nat -> Int) (ib : Int) {c c' : Int -> Prop} {x0 y0 : Int -> Prop} {x1 y1 : Int -> Prop} (hc : ∀ w0, c w0 -> c' w0) (h0 : ∀ o0, x0 o0 -> y0 o0) (h1 : ∀ o0, x1 o0 -> y1 o0) : B_a6_0 gp cm ga ij gb gd ib c x0 x1  -> B_a6_0 gp cm ga ij gb gd ib c' y0 y1  := by
  unfold B_a6_0
  repeat' first
    | exact hc _
    | exact h0 _
    | exact h1 _
    | refine Ts_imp ?_
    | refine cond_imp ?_ ?_
    | refine and_imp' ?_
theorem WM_a6_0 (gp : Nat) (cm ga : Nat -> Int) (ij : Nat) (gb gd : Nat -> Int) {x0 y0 : Int -> Prop} {x1 y1 : Int -> Prop} (h0 : ∀ o0, x0 o0 -> y0 o0) (h1 : ∀ o0, x1 o0 -> y1 o0) : ∀ (f : Nat) (ib : Int), W_a6_0 gp cm ga ij gb gd f ib x0 x1 -> W_a6_0 gp cm ga ij gb gd f ib y0 y1
  | 0, w0 => fun h => h
  | f + 1, w0 => BM_a6_0 gp cm ga ij gb gd w0 (fun u0 => WM_a6_0 gp cm ga ij gb gd h0 h1 f u0) h0 h1
def B_a6 (gp : Nat) (cm ga : Nat -> Int) (ij : Nat) (gb gd : Nat -> Int) (K0 : Bool -> Prop) (l0 : Int -> (Int -> Prop) -> (Int -> Prop) -> Prop) : Prop := Ts 6 (cond (ine ((gp : Nat) : Int) ((ij : Nat) : Int)) (Ts 1 (K0 false)) (Ts 1 ((l0 0 (fun ku => Ts 1 (K0 true)) (fun ku => K0 false)))))
def P_a6 (gp : Nat) (cm ga : Nat -> Int) (ij : Nat) (gb gd : Nat -> Int) : Prop := gp <= 1000000 /\ ij <= 1000000
def F_a6_0 (n : Nat) (a b : Nat -> Int) (n' : Nat) (a' b' : Nat -> Int) : Bool := decide (n = n') && (List.range n).all fun k => decide (a k = a' k) && decide (b k = b' k)
theorem sameSpots_iff {n : Nat} {a b : Nat -> Int} {n' : Nat} {a' b' : Nat -> Int} : F_a6_0 n a b n' a' b' = true ↔ (n = n' /\ ∀ k, k < n -> a k = a' k /\ b k = b' k) := by
  unfold F_a6_0
  rw [Bool.and_eq_true, List.all_eq_true]
  constructor
  · rintro ⟨h1, h2⟩
    exact ⟨by simpa using h1, fun k hk => by simpa using h2 k (List.mem_range.2 hk)⟩
  · rintro ⟨h1, h2⟩
    exact ⟨by simpa using h1, fun k hk => by simpa using h2 k (List.mem_range.1 hk)⟩
theorem W_a6_ok {n : Nat} {a b a' b' : Nat -> Int} (hn : n <= 1000000) {x0 x1 : Int -> Prop} : ∀ (f i : Nat), i <= n -> n < f + i -> ((∀ k, i <= k -> k < n -> a k = a' k /\ b k = b' k) -> ∀ v, x0 v) -> (∀ k, k < n -> ¬ (a k = a' k /\ b k = b' k) -> ∀ v, x1 v) -> W_a6_0 n a b n a' b' f i x0 x1
  | 0, i, h1, h2, _, _ => by omega
  | f + 1, i, h1, h2, h3, h4 => by
    show B_a6_0 n a b n a' b' i _ _ _
    unfold B_a6_0
    simp only [Ts_iff, true_and, Int.toNat_natCast, Nat.zero_add]
    refine cond_intro (fun hc => ?_) (fun hc => ?_)
    · rw [ilt_t] at hc
      refine ⟨⟨by omega, hc⟩, ⟨by omega, hc⟩, cond_intro (fun he => ?_) (fun he => ?_)⟩
      · refine h4 i (by omega) (fun ⟨e1, e2⟩ => ?_) _
        rw [ieq_t.2 e1, ieq_t.2 e2] at he
        cases he
      · have he : (ieq (a i) (a' i) && ieq (b i) (b' i)) = true := by
          cases hh : (ieq (a i) (a' i) && ieq (b i) (b' i)) with
          | true => rfl
          | false => rw [hh] at he; cases he
        rw [Bool.and_eq_true, ieq_t, ieq_t] at he
        rw [iadd64 (by omega) (by omega)]
        refine W_a6_ok hn f (i + 1) (by omega) (by omega) (fun h => h3 fun k hk1 hk2 => ?_) h4
        by_cases hk : k = i
        · subst hk; exact he
        · exact h k (by omega) hk2
    · rw [ilt_f] at hc
      exact h3 (fun k hk1 hk2 => by omega) _
theorem H_a6 (gp : Nat) (cm ga : Nat -> Int) (ij : Nat) (gb gd : Nat -> Int) {K0 : Bool -> Prop} (h : P_a6 gp cm ga ij gb gd) (hK : K0 (F_a6_0 gp cm ga ij gb gd)) : B_a6 gp cm ga ij gb gd K0 (W_a6_0 gp cm ga ij gb gd fuel) := by
  unfold B_a6
  simp only [Ts_iff, true_and]
  have no : ¬ (gp = ij /\ ∀ k, k < gp -> cm k = gb k /\ ga k = gd k) -> K0 false := fun hh => by
    have : F_a6_0 gp cm ga ij gb gd = false := by
      cases hf : F_a6_0 gp cm ga ij gb gd with
      | false => rfl
      | true => exact absurd (sameSpots_iff.1 hf) hh
    rw [this] at hK
    exact hK
  refine cond_intro (fun hc => ?_) (fun hc => ?_)
  · rw [ine_t] at hc
    exact no (fun hh => hc (by rw [hh.1]))
  · rw [ine_f] at hc
    have e : gp = ij := by omega
    subst e
    refine W_a6_ok h.1 fuel 0 (Nat.zero_le _) (by rw [fuel_eq]; have := h.1; omega) (fun hh v => ?_) (fun k hk hs v => no (fun hh => hs (hh.2 k hk)))
    have : F_a6_0 gp cm ga gp gb gd = true := sameSpots_iff.2 ⟨rfl, fun k hk => hh k (Nat.zero_le _) hk⟩
    rw [this] at hK
    exact hK
def B_eg (cm ge gg gm : Int) (gq : Nat) (gu gv : Nat -> Int) (gb g8 g9 ie : Int) (kg : Nat) (kh ki : Nat -> Int) (K0 : Bool -> Prop)  : Prop := Ts 9 (cond (ieq cm gb) (Ts 7 (cond ((ieq ge g8) && (ieq gg g9)) (Ts 7 (cond (ieq gm ie) (Ts 4 (((P_a6 gq gu gv kg kh ki) /\ Ts 2 (K0 (F_a6_0 gq gu gv kg kh ki))))) (Ts 2 (K0 false)))) (Ts 4 (K0 false)))) (Ts 6 (K0 false)))
def P_eg (cm ge gg gm : Int) (gq : Nat) (gu gv : Nat -> Int) (gb g8 g9 ie : Int) (kg : Nat) (kh ki : Nat -> Int) : Prop := (cond (ieq cm gb) (cond ((ieq ge g8) && (ieq gg g9)) (cond (ieq gm ie) (P_a6 gq gu gv kg kh ki) True) True) True)
def F_eg_0 (cm ge gg gm : Int) (gq : Nat) (gu gv : Nat -> Int) (gb g8 g9 ie : Int) (kg : Nat) (kh ki : Nat -> Int) : Bool := (cond (ieq cm gb) (cond ((ieq ge g8) && (ieq gg g9)) (cond (ieq gm ie) (F_a6_0 gq gu gv kg kh ki) false) false) false)
theorem H_eg (cm ge gg gm : Int) (gq : Nat) (gu gv : Nat -> Int) (gb g8 g9 ie : Int) (kg : Nat) (kh ki : Nat -> Int) {K0 : Bool -> Prop} (h : P_eg cm ge gg gm gq gu gv gb g8 g9 ie kg kh ki) (hK : K0 (F_eg_0 cm ge gg gm gq gu gv gb g8 g9 ie kg kh ki)) : B_eg cm ge gg gm gq gu gv gb g8 g9 ie kg kh ki K0  := by
 unfold B_eg P_eg F_eg_0 at *
 simp only [Ts_iff, true_and]; try simp only [Ts_iff, true_and] at h
 repeat' first | exact hK | (refine cond_intro (fun c => ?_) (fun c => ?_) <;> try simp only [c, cond_true, cond_false] at h hK ⊢) | refine ⟨rfl, ?_⟩ | refine ⟨trivial, ?_⟩ | refine ⟨by decide, ?_⟩ | (refine ⟨h.1, ?_⟩; replace h := h.2) | refine ⟨h, ?_⟩
def B_ad (gw : Nat) (gk gn : Nat -> Int) (K0 : Nat -> (Nat -> Int) -> (Nat -> Int) -> Prop)  : Prop := Ts 4 (K0 gw gk gn)
def P_ad (gw : Nat) (gk gn : Nat -> Int) : Prop := True
def F_ad_0 (gw : Nat) (gk gn : Nat -> Int) : Nat := gw
def F_ay (gw : Nat) (gk gn : Nat -> Int) : (Nat -> Int) := gk
def F_ad_2 (gw : Nat) (gk gn : Nat -> Int) : (Nat -> Int) := gn
theorem H_ad (gw : Nat) (gk gn : Nat -> Int) {K0 : Nat -> (Nat -> Int) -> (Nat -> Int) -> Prop} (h : P_ad gw gk gn) (hK : K0 (F_ad_0 gw gk gn) (F_ay gw gk gn) (F_ad_2 gw gk gn)) : B_ad gw gk gn K0  := by
 unfold B_ad P_ad F_ad_0 F_ay F_ad_2 at *
 exact Ts_iff.2 hK
def B_an_0_0 (gp : Nat) (cm ga : Nat -> Int) (j0 : Nat) (ip jj : Int) (c x0 x1 : Int -> Prop)  : Prop := Ts 1 (cond (ilt jj ((gp : Nat) : Int)) (Ts 1 (((0 <= jj /\ jj < ((gp : Nat) : Int)) /\ Ts 8 (cond (ine jj ip) (Ts 5 (((((gp : Nat) : Int) ≠ 0) /\ Ts 3 (cond (ine jj (irem .i64 (iadd .i64 ip 1) ((gp : Nat) : Int))) (Ts 3 (((P_e8 ((F_ay gp cm ga) j0) ((F_ad_2 gp cm ga) j0) ((F_ay gp cm ga) (nxE (F_ad_0 gp cm ga) j0)) ((F_ad_2 gp cm ga) (nxE (F_ad_0 gp cm ga) j0)) (cm (Int.toNat jj)) (ga (Int.toNat jj))) /\ Ts 2 (cond (ile (F_e8_0 ((F_ay gp cm ga) j0) ((F_ad_2 gp cm ga) j0) ((F_ay gp cm ga) (nxE (F_ad_0 gp cm ga) j0)) ((F_ad_2 gp cm ga) (nxE (F_ad_0 gp cm ga) j0)) (cm (Int.toNat jj)) (ga (Int.toNat jj))) 0) (Ts 1 (x1 jj)) (Ts 2 (c (iadd .i64 jj 1))))))) (Ts 3 (c (iadd .i64 jj 1))))))) (Ts 5 (c (iadd .i64 jj 1))))))) (x0 jj))
def W_an_0_0 (gp : Nat) (cm ga : Nat -> Int) (j0 : Nat) (ip : Int) : Nat -> Int -> (Int -> Prop) -> (Int -> Prop) -> Prop
  | 0, _, _, _ => False
  | f + 1, w0, x0, x1 => B_an_0_0 gp cm ga j0 ip w0 (fun u0 => W_an_0_0 gp cm ga j0 ip f u0 x0 x1) x0 x1 
theorem BM_an_0_0 (gp : Nat) (cm ga : Nat -> Int) (j0 : Nat) (ip jj : Int) {c c' : Int -> Prop} {x0 y0 : Int -> Prop} {x1 y1 : Int -> Prop} (hc : ∀ w0, c w0 -> c' w0) (h0 : ∀ o0, x0 o0 -> y0 o0) (h1 : ∀ o0, x1 o0 -> y1 o0) : B_an_0_0 gp cm ga j0 ip jj c x0 x1  -> B_an_0_0 gp cm ga j0 ip jj c' y0 y1  := by
  unfold B_an_0_0
  repeat' first
    | exact hc _
    | exact h0 _
    | exact h1 _
    | refine Ts_imp ?_
    | refine cond_imp ?_ ?_
    | refine and_imp' ?_
theorem WM_an_0_0 (gp : Nat) (cm ga : Nat -> Int) (j0 : Nat) (ip : Int) {x0 y0 : Int -> Prop} {x1 y1 : Int -> Prop} (h0 : ∀ o0, x0 o0 -> y0 o0) (h1 : ∀ o0, x1 o0 -> y1 o0) : ∀ (f : Nat) (jj : Int), W_an_0_0 gp cm ga j0 ip f jj x0 x1 -> W_an_0_0 gp cm ga j0 ip f jj y0 y1
  | 0, w0 => fun h => h
  | f + 1, w0 => BM_an_0_0 gp cm ga j0 ip w0 (fun u0 => WM_an_0_0 gp cm ga j0 ip h0 h1 f u0) h0 h1
def NN_an_0 (gp : Nat) (cm ga : Nat -> Int) : Nat := (F_ad_0 gp cm ga)
def PP_an_0 (gp : Nat) (cm ga : Nat -> Int) : Prop := (F_ad_0 gp cm ga) <= 1000000
def B_an_0 (gp : Nat) (cm ga : Nat -> Int) (j0 : Nat) (ip : Int) (c x0 : Int -> Prop) (l0 : Int -> (Int -> Prop) -> (Int -> Prop) -> Prop) : Prop := Ts 7 ((l0 0 (fun lx => Ts 3 (c (iadd .i64 ip 1))) (fun lx => x0 ip)))
def W_an_0 (gp : Nat) (cm ga : Nat -> Int) : Nat -> Nat -> Int -> (Int -> Prop) -> (Int -> Prop) -> Prop
  | 0, _, w0, x0, _ => x0 w0
  | r + 1, j, w0, x0, x1 => B_an_0 gp cm ga j w0 (fun u0 => W_an_0 gp cm ga r (j + 1) u0 x0 x1) x1 (W_an_0_0 gp cm ga j w0 fuel)
theorem BM_an_0 (gp : Nat) (cm ga : Nat -> Int) (j0 : Nat) (ip : Int) {c c' : Int -> Prop} {x0 y0 : Int -> Prop} (hc : ∀ w0, c w0 -> c' w0) (h0 : ∀ o0, x0 o0 -> y0 o0) : B_an_0 gp cm ga j0 ip c x0 (W_an_0_0 gp cm ga j0 ip fuel) -> B_an_0 gp cm ga j0 ip c' y0 (W_an_0_0 gp cm ga j0 ip fuel) := by
  unfold B_an_0
  repeat' first
    | exact hc _
    | exact h0 _
    | refine Ts_imp ?_
    | refine cond_imp ?_ ?_
    | refine and_imp' ?_
    | refine WM_an_0_0 _ _ _ _ _  (fun _ => ?_) (fun _ => ?_) _ _ 
theorem WM_an_0 (gp : Nat) (cm ga : Nat -> Int) {x0 y0 : Int -> Prop} {x1 y1 : Int -> Prop} (h0 : ∀ o0, x0 o0 -> y0 o0) (h1 : ∀ o0, x1 o0 -> y1 o0) : ∀ (r j : Nat) (ip : Int), W_an_0 gp cm ga r j ip x0 x1 -> W_an_0 gp cm ga r j ip y0 y1
  | 0, j, w0 => h0 w0
  | r + 1, j, w0 => BM_an_0 gp cm ga j w0 (fun u0 => WM_an_0 gp cm ga h0 h1 r (j + 1) u0) h1
def B_an (gp : Nat) (cm ga : Nat -> Int) (K0 : Bool -> Prop) (l0 : Int -> (Int -> Prop) -> (Int -> Prop) -> Prop) : Prop := Ts 6 (cond (ilt ((gp : Nat) : Int) 3) (Ts 3 (K0 false)) (Ts 1 (((P_bq gp cm ga) /\ Ts 2 (cond (!(F_bq_0 gp cm ga)) (Ts 2 (K0 false)) (Ts 4 (((P_ad gp cm ga) /\ (l0 0 (fun ly => Ts 2 (K0 true)) (fun ly => Ts 1 (K0 false)))))))))))
theorem mul_in {p q B : Int} (h1 : -B <= p) (h2 : p <= B) (h3 : -B <= q) (h4 : q <= B) : -(B * B) <= p * q /\ p * q <= B * B := by
  have hB : 0 <= B := by omega
  have e1 : p.natAbs <= B.natAbs := by omega
  have e2 : q.natAbs <= B.natAbs := by omega
  have e3 : (p * q).natAbs <= (B * B).natAbs := by rw [Int.natAbs_mul, Int.natAbs_mul]; exact Nat.mul_le_mul e1 e2
  have e4 : 0 <= B * B := Int.mul_nonneg hB hB
  omega
def crossT (a b : Nat -> Int) (i k j : Nat) : Int := (a k - a i) * (b j - b i) - (b k - b i) * (a j - a i)
theorem turn_eq {x0 y0 x1 y1 x2 y2 : Int} (h0 : spotOK x0 y0 = true) (h1 : spotOK x1 y1 = true) (h2 : spotOK x2 y2 = true) : F_e8_0 x0 y0 x1 y1 x2 y2 = (x1 - x0) * (y2 - y0) - (y1 - y0) * (x2 - x0) := by
  rw [spotOK_iff] at h0 h1 h2
  unfold F_e8_0 F_fq_0 F_bn_0 F_bn_1
  rw [isub64 (a := x1) (by omega) (by omega), isub64 (a := y2) (by omega) (by omega), isub64 (a := y1) (by omega) (by omega), isub64 (a := x2) (by omega) (by omega)]
  have m1 := mul_in (p := x1 - x0) (q := y2 - y0) (B := 4194304) (by omega) (by omega) (by omega) (by omega)
  have m2 := mul_in (p := y1 - y0) (q := x2 - x0) (B := 4194304) (by omega) (by omega) (by omega) (by omega)
  rw [imul64 (a := x1 - x0) (by omega) (by omega), imul64 (a := y1 - y0) (by omega) (by omega), isub64 (by omega) (by omega)]
def rowOK (n : Nat) (a b : Nat -> Int) (i : Nat) : Prop := ∀ j, j < n -> j ≠ i -> j ≠ nxE n i -> 0 < crossT a b i (nxE n i) j
def convP (n : Nat) (a b : Nat -> Int) : Prop := (∀ k, k < n -> spotOK (a k) (b k) = true) /\ ∀ i, i < n -> rowOK n a b i
theorem nxE_lt {n i : Nat} (h : i < n) : nxE n i < n := by unfold nxE; split <;> omega
theorem nx_rem {n i : Nat} (h : i < n) (hn : n <= 1000000) : irem .i64 (iadd .i64 (i : Int) 1) (n : Int) = ((nxE n i : Nat) : Int) := by
  rw [iadd64 (by omega) (by omega), irem_eq]
  show ((i : Int) + 1).tmod (n : Int) = _
  rw [Int.tmod_eq_emod_of_nonneg (by omega)]
  unfold nxE
  split
  · rw [Int.emod_eq_of_lt (by omega) (by omega)]; omega
  · have : (i : Int) + 1 = n := by omega
    rw [this, Int.emod_self]; rfl
open Classical in
def convF (n : Nat) (a b : Nat -> Int) : Bool := decide (3 <= n /\ convP n a b)
def P_an (n : Nat) (a b : Nat -> Int) : Prop := n <= 1000000 /\ ∀ k, k < n -> I64 (a k) /\ I64 (b k)
def F_an_0 (n : Nat) (a b : Nat -> Int) : Bool := convF n a b
theorem convF_iff {n : Nat} {a b : Nat -> Int} : convF n a b = true ↔ (3 <= n /\ convP n a b) := by unfold convF; simp
theorem convF_false {n : Nat} {a b : Nat -> Int} (h : ¬ (3 <= n /\ convP n a b)) : convF n a b = false := by
  cases hf : convF n a b with
  | false => rfl
  | true => exact absurd (convF_iff.1 hf) h
theorem W_an_0_0_ok {n : Nat} {a b : Nat -> Int} (hn : n <= 1000000) (hv : ∀ k, k < n -> spotOK (a k) (b k) = true) {i : Nat} (hi : i < n) {x0 x1 : Int -> Prop} : ∀ (f j : Nat), j <= n -> n < f + j -> ((∀ j', j <= j' -> j' < n -> j' ≠ i -> j' ≠ nxE n i -> 0 < crossT a b i (nxE n i) j') -> ∀ v, x0 v) -> (¬ rowOK n a b i -> ∀ v, x1 v) ->
    W_an_0_0 n a b i i f j x0 x1
  | 0, j, h1, h2, _, _ => by omega
  | f + 1, j, h1, h2, h3, h4 => by
    show B_an_0_0 n a b i i j _ _ _
    unfold B_an_0_0 F_ad_0 F_ay F_ad_2
    simp only [Ts_iff, true_and, Int.toNat_natCast, Nat.zero_add]
    refine cond_intro (fun hc => ?_) (fun hc => ?_)
    · rw [ilt_t] at hc
      have hj : j < n := by omega
      have next : (j ≠ i -> j ≠ nxE n i -> 0 < crossT a b i (nxE n i) j) -> W_an_0_0 n a b i i f (iadd .i64 (j : Int) 1) x0 x1 := fun hh => by
        rw [iadd64 (by omega) (by omega)]
        refine W_an_0_0_ok hn hv hi f (j + 1) (by omega) (by omega) (fun h => h3 fun j' hj1 hj2 => ?_) h4
        by_cases hk : j' = j
        · subst hk; exact hh
        · exact h j' (by omega) hj2
      refine ⟨⟨by omega, hc⟩, cond_intro (fun he => ?_) (fun he => ?_)⟩
      · rw [ine_t] at he
        refine ⟨by omega, ?_⟩
        rw [nx_rem hi hn]
        refine cond_intro (fun hf => ?_) (fun hf => ?_)
        · rw [ine_t] at hf
          have ht := turn_eq (hv i hi) (hv _ (nxE_lt hi)) (hv j hj)
          refine ⟨trivial, cond_intro (fun hg => ?_) (fun hg => ?_)⟩
          · rw [ile_t, ht] at hg
            refine h4 (fun hr => ?_) _
            have := hr j hj (by omega) (by omega)
            unfold crossT at this
            omega
          · rw [ile_f, ht] at hg
            exact next (fun _ _ => hg)
        · rw [ine_f] at hf
          exact next (fun _ h => absurd (by omega) h)
      · rw [ine_f] at he
        exact next (fun h _ => absurd (by omega) h)
    · exact h3 (fun j' hj1 hj2 => by rw [ilt_f] at hc; omega) _
theorem W_an_0_ok {n : Nat} {a b : Nat -> Int} (hn : n <= 1000000) (hv : ∀ k, k < n -> spotOK (a k) (b k) = true) {x0 x1 : Int -> Prop} : ∀ (r k : Nat), r + k = n -> ((∀ i, k <= i -> i < n -> rowOK n a b i) -> ∀ v, x0 v) -> (∀ i, i < n -> ¬ rowOK n a b i -> ∀ v, x1 v) -> W_an_0 n a b r k k x0 x1
  | 0, k, h1, h2, _ => h2 (fun i h h' => by omega) _
  | r + 1, k, h1, h2, h3 => by
    show B_an_0 n a b k k _ _ _
    unfold B_an_0
    simp only [Ts_iff]
    refine W_an_0_0_ok hn hv (by omega) fuel 0 (Nat.zero_le _) (by rw [fuel_eq]; omega) (fun hh v => ?_) (fun hr v => h3 k (by omega) hr _)
    rw [iadd64 (by omega) (by omega)]
    refine W_an_0_ok hn hv r (k + 1) (by omega) (fun h => h2 fun i hi1 hi2 => ?_) h3
    by_cases hik : i = k
    · subst hik; exact fun j hj => hh j (Nat.zero_le _) hj
    · exact h i (by omega) hi2
theorem H_an (gp : Nat) (cm ga : Nat -> Int) {K0 : Bool -> Prop} (h : P_an gp cm ga) (hK : K0 (F_an_0 gp cm ga)) : B_an gp cm ga K0 (fun p0 y0 y1 => PP_an_0 gp cm ga  /\ W_an_0 gp cm ga  (NN_an_0 gp cm ga ) 0 p0 y0 y1) := by
  have no : ¬ (3 <= gp /\ convP gp cm ga) -> K0 false := fun hh => by
    unfold F_an_0 at hK
    rw [convF_false hh] at hK
    exact hK
  have hn := h.1
  unfold B_an
  simp only [Ts_iff]
  refine cond_intro (fun hc => ?_) (fun hc => ?_)
  · rw [ilt_t] at hc
    exact no (fun hh => by omega)
  · rw [ilt_f] at hc
    refine ⟨h, cond_intro (fun hf => ?_) (fun hf => ?_)⟩
    · refine no (fun hh => ?_)
      have : F_bq_0 gp cm ga = true := spotsOK_iff.2 hh.2.1
      rw [this] at hf
      cases hf
    · have hv : ∀ k, k < gp -> spotOK (cm k) (ga k) = true := by
        cases hh : F_bq_0 gp cm ga with
        | true => exact spotsOK_iff.1 hh
        | false => rw [hh] at hf; cases hf
      refine ⟨trivial, hn, ?_⟩
      refine W_an_0_ok hn hv _ 0 rfl (fun hh v => ?_) (fun i hi hr v => no (fun hh => hr (hh.2.2 i hi)))
      unfold F_an_0 at hK
      rw [convF_iff.2 ⟨by omega, hv, fun i hi => hh i (Nat.zero_le _) hi⟩] at hK
      exact hK
def castS (g h : Nat -> Int) : Nat -> Option (Int × Int × Int × Int × Int)
  | 0 => some (-1, 0, 1, 1, 1)
  | k + 1 => match castS g h k with
    | none => none
    | some (i, a, b, c, d) =>
      if g k < 0 then
        if h k < 0 then none
        else if i < 0 ∨ 0 < ordZ (-(g k) * b) (a * (h k - g k)) then some ((k : Int), -(g k), h k - g k, c, d) else some (i, a, b, c, d)
      else if h k < 0 /\ ordZ (g k * d) (c * (g k - h k)) < 0 then some (i, a, b, g k, g k - h k) else some (i, a, b, c, d)
theorem castS_none {g h : Nat -> Int} {k : Nat} (hk : castS g h k = none) : ∀ {n : Nat}, k <= n -> castS g h n = none
  | 0, hn => by have : k = 0 := by omega
                subst this; exact hk
  | n + 1, hn => by
    by_cases e : k = n + 1
    · subst e; exact hk
    · unfold castS; rw [castS_none hk (n := n) (by omega)]
theorem castS_ok {g h : Nat -> Int} {B : Int} (hB : 1 <= B) {n : Nat} (hg : ∀ k, k < n -> -B <= g k /\ g k <= B) (hh : ∀ k, k < n -> -B <= h k /\ h k <= B) : ∀ {k : Nat}, k <= n -> ∀ {i a b c d : Int}, castS g h k = some (i, a, b, c, d) -> (i = -1 /\ a = 0 /\ b = 1 ∨ 0 <= i /\ i < (k : Int) /\ 0 < a /\ a <= B /\ 0 < b /\ b <= 2 * B /\ a <= b /\ a = -(g i.toNat) /\ b = h i.toNat - g i.toNat) /\ 0 <= c /\ c <= B /\ 0 < d /\ d <= 2 * B
  | 0, _, i, a, b, c, d, e => by
    unfold castS at e
    cases e
    omega
  | k + 1, hk, i, a, b, c, d, e => by
    unfold castS at e
    have g1 := hg k (by omega)
    have h1 := hh k (by omega)
    cases hc : castS g h k with
    | none => rw [hc] at e; cases e
    | some s =>
      obtain ⟨i0, a0, b0, c0, d0⟩ := s
      have ih := castS_ok hB hg hh (k := k) (by omega) hc
      rw [hc] at e
      simp only at e
      split at e
      · split at e
        · cases e
        · split at e
          · simp only [Option.some.injEq, Prod.mk.injEq] at e
            obtain ⟨rfl, rfl, rfl, rfl, rfl⟩ := e
            refine ⟨.inr ⟨by omega, by omega, by omega, by omega, by omega, by omega, by omega, by rw [Int.toNat_natCast], by rw [Int.toNat_natCast]⟩, by omega⟩
          · simp only [Option.some.injEq, Prod.mk.injEq] at e
            obtain ⟨rfl, rfl, rfl, rfl, rfl⟩ := e
            refine ⟨ih.1.imp id (fun ⟨x1, x2, x3⟩ => ⟨x1, by omega, x3⟩), ih.2⟩
      · split at e
        · simp only [Option.some.injEq, Prod.mk.injEq] at e
          obtain ⟨rfl, rfl, rfl, rfl, rfl⟩ := e
          refine ⟨ih.1.imp id (fun ⟨x1, x2, x3⟩ => ⟨x1, by omega, x3⟩), by omega⟩
        · simp only [Option.some.injEq, Prod.mk.injEq] at e
          obtain ⟨rfl, rfl, rfl, rfl, rfl⟩ := e
          refine ⟨ih.1.imp id (fun ⟨x1, x2, x3⟩ => ⟨x1, by omega, x3⟩), ih.2⟩
theorem castS_congr {g h g' h' : Nat -> Int} : ∀ {n : Nat}, (∀ k, k < n -> g k = g' k /\ h k = h' k) -> castS g h n = castS g' h' n
  | 0, _ => rfl
  | n + 1, e => by
    unfold castS
    rw [castS_congr (fun k hk => e k (by omega)), (e n (by omega)).1, (e n (by omega)).2]
def castH (g h : Nat -> Int) (n : Nat) : Option (Nat × Int × Int) := match castS g h n with
  | none => none
  | some (i, a, b, c, d) => if i < 0 ∨ 0 < ordZ (a * d) (c * b) then none else some (i.toNat, a, b)
def gT (n : Nat) (a b : Nat -> Int) (px py : Int) (j : Nat) : Int := (a (nxE n j) - a j) * (py - b j) - (b (nxE n j) - b j) * (px - a j)
theorem gT_in {n : Nat} {a b : Nat -> Int} {px py : Int} {j : Nat} (hj : j < n) (hv : ∀ k, k < n -> spotOK (a k) (b k) = true) (hp : spotOK px py = true) : -35184372088832 <= gT n a b px py j /\ gT n a b px py j <= 35184372088832 := by
  have h0 := hv j hj
  have h1 := hv _ (nxE_lt hj)
  rw [spotOK_iff] at h0 h1 hp
  unfold gT
  have m1 := mul_in (p := a (nxE n j) - a j) (q := py - b j) (B := 4194304) (by omega) (by omega) (by omega) (by omega)
  have m2 := mul_in (p := b (nxE n j) - b j) (q := px - a j) (B := 4194304) (by omega) (by omega) (by omega) (by omega)
  omega
def B_dl (cm ga a1 : Int) (K0 : Int -> Int -> Int -> Int -> Prop)  : Prop := Ts 21 (K0 (isub .i64 cm a1) (isub .i64 ga a1) (iadd .i64 cm a1) (iadd .i64 ga a1))
def P_dl (cm ga a1 : Int) : Prop := True
def F_dl_0 (cm ga a1 : Int) : Int := (isub .i64 cm a1)
def F_dl_1 (cm ga a1 : Int) : Int := (isub .i64 ga a1)
def F_dl_2 (cm ga a1 : Int) : Int := (iadd .i64 cm a1)
def F_dl_3 (cm ga a1 : Int) : Int := (iadd .i64 ga a1)
theorem H_dl (cm ga a1 : Int) {K0 : Int -> Int -> Int -> Int -> Prop} (h : P_dl cm ga a1) (hK : K0 (F_dl_0 cm ga a1) (F_dl_1 cm ga a1) (F_dl_2 cm ga a1) (F_dl_3 cm ga a1)) : B_dl cm ga a1 K0  := by
 unfold B_dl P_dl F_dl_0 F_dl_1 F_dl_2 F_dl_3 at *
 exact Ts_iff.2 hK
def B_ci (cm ge gg gm : Int) (gq : Nat) (gu gv : Nat -> Int) (K0 : Int -> Prop)  : Prop := Ts 9 (cond (!(ieq cm 1)) (Ts 5 (cond (ine cm 2) (Ts 1 (K0 8)) (Ts 3 (((P_bq 1 (fun _ => ge) (fun _ => gg)) /\ Ts 2 (cond (!(F_bq_0 1 (fun _ => ge) (fun _ => gg))) (Ts 3 (K0 3)) (Ts 2 (((P_bq gq gu gv) /\ Ts 3 (cond (!(F_bq_0 gq gu gv)) (Ts 1 (K0 3)) (Ts 2 (cond (ieq cm 1) (Ts 5 (cond (igt gm 0) (Ts 4 (cond (igt gm 2097152) (Ts 4 (K0 3)) (Ts 4 (((P_dl ge gg gm) /\ ((P_cw (F_dl_0 ge gg gm) (F_dl_1 ge gg gm) (F_dl_2 ge gg gm) (F_dl_3 ge gg gm)) /\ Ts 4 (cond (ine (F_cw_0 (F_dl_0 ge gg gm) (F_dl_1 ge gg gm) (F_dl_2 ge gg gm) (F_dl_3 ge gg gm)) 0) (Ts 1 (K0 3)) (Ts 2 (cond (ieq cm 1) (Ts 4 (cond (ilt gm 1) (Ts 4 (K0 5)) (Ts 7 (cond (igt ((gq : Nat) : Int) 0) (Ts 1 (K0 5)) (Ts 3 (cond (!(ieq cm 1)) (Ts 4 (cond (ine gm 0) (Ts 6 (K0 5)) (Ts 6 (cond (igt ((gq : Nat) : Int) 8) (Ts 4 (K0 5)) (Ts 2 (((P_an gq gu gv) /\ Ts 4 (cond (!(F_an_0 gq gu gv)) (Ts 1 (K0 5)) (Ts 1 (K0 0)))))))))) (Ts 3 (K0 0)))))))) (Ts 5 (cond (!(ieq cm 1)) (Ts 4 (cond (ine gm 0) (Ts 6 (K0 5)) (Ts 6 (cond (igt ((gq : Nat) : Int) 8) (Ts 4 (K0 5)) (Ts 2 (((P_an gq gu gv) /\ Ts 4 (cond (!(F_an_0 gq gu gv)) (Ts 1 (K0 5)) (Ts 1 (K0 0)))))))))) (Ts 3 (K0 0))))))))))))) (Ts 4 (cond (ieq cm 1) (Ts 4 (cond (ilt gm 1) (Ts 4 (K0 5)) (Ts 7 (cond (igt ((gq : Nat) : Int) 0) (Ts 1 (K0 5)) (Ts 3 (cond (!(ieq cm 1)) (Ts 4 (cond (ine gm 0) (Ts 6 (K0 5)) (Ts 6 (cond (igt ((gq : Nat) : Int) 8) (Ts 4 (K0 5)) (Ts 2 (((P_an gq gu gv) /\ Ts 4 (cond (!(F_an_0 gq gu gv)) (Ts 1 (K0 5)) (Ts 1 (K0 0)))))))))) (Ts 3 (K0 0)))))))) (Ts 5 (cond (!(ieq cm 1)) (Ts 4 (cond (ine gm 0) (Ts 6 (K0 5)) (Ts 6 (cond (igt ((gq : Nat) : Int) 8) (Ts 4 (K0 5)) (Ts 2 (((P_an gq gu gv) /\ Ts 4 (cond (!(F_an_0 gq gu gv)) (Ts 1 (K0 5)) (Ts 1 (K0 0)))))))))) (Ts 3 (K0 0)))))))) (Ts 6 (cond (ieq cm 1) (Ts 4 (cond (ilt gm 1) (Ts 4 (K0 5)) (Ts 7 (cond (igt ((gq : Nat) : Int) 0) (Ts 1 (K0 5)) (Ts 3 (cond (!(ieq cm 1)) (Ts 4 (cond (ine gm 0) (Ts 6 (K0 5)) (Ts 6 (cond (igt ((gq : Nat) : Int) 8) (Ts 4 (K0 5)) (Ts 2 (((P_an gq gu gv) /\ Ts 4 (cond (!(F_an_0 gq gu gv)) (Ts 1 (K0 5)) (Ts 1 (K0 0)))))))))) (Ts 3 (K0 0)))))))) (Ts 5 (cond (!(ieq cm 1)) (Ts 4 (cond (ine gm 0) (Ts 6 (K0 5)) (Ts 6 (cond (igt ((gq : Nat) : Int) 8) (Ts 4 (K0 5)) (Ts 2 (((P_an gq gu gv) /\ Ts 4 (cond (!(F_an_0 gq gu gv)) (Ts 1 (K0 5)) (Ts 1 (K0 0)))))))))) (Ts 3 (K0 0)))))))))))))))))) (Ts 5 (((P_bq 1 (fun _ => ge) (fun _ => gg)) /\ Ts 2 (cond (!(F_bq_0 1 (fun _ => ge) (fun _ => gg))) (Ts 3 (K0 3)) (Ts 2 (((P_bq gq gu gv) /\ Ts 3 (cond (!(F_bq_0 gq gu gv)) (Ts 1 (K0 3)) (Ts 2 (cond (ieq cm 1) (Ts 5 (cond (igt gm 0) (Ts 4 (cond (igt gm 2097152) (Ts 4 (K0 3)) (Ts 4 (((P_dl ge gg gm) /\ ((P_cw (F_dl_0 ge gg gm) (F_dl_1 ge gg gm) (F_dl_2 ge gg gm) (F_dl_3 ge gg gm)) /\ Ts 4 (cond (ine (F_cw_0 (F_dl_0 ge gg gm) (F_dl_1 ge gg gm) (F_dl_2 ge gg gm) (F_dl_3 ge gg gm)) 0) (Ts 1 (K0 3)) (Ts 2 (cond (ieq cm 1) (Ts 4 (cond (ilt gm 1) (Ts 4 (K0 5)) (Ts 7 (cond (igt ((gq : Nat) : Int) 0) (Ts 1 (K0 5)) (Ts 3 (cond (!(ieq cm 1)) (Ts 4 (cond (ine gm 0) (Ts 6 (K0 5)) (Ts 6 (cond (igt ((gq : Nat) : Int) 8) (Ts 4 (K0 5)) (Ts 2 (((P_an gq gu gv) /\ Ts 4 (cond (!(F_an_0 gq gu gv)) (Ts 1 (K0 5)) (Ts 1 (K0 0)))))))))) (Ts 3 (K0 0)))))))) (Ts 5 (cond (!(ieq cm 1)) (Ts 4 (cond (ine gm 0) (Ts 6 (K0 5)) (Ts 6 (cond (igt ((gq : Nat) : Int) 8) (Ts 4 (K0 5)) (Ts 2 (((P_an gq gu gv) /\ Ts 4 (cond (!(F_an_0 gq gu gv)) (Ts 1 (K0 5)) (Ts 1 (K0 0)))))))))) (Ts 3 (K0 0))))))))))))) (Ts 4 (cond (ieq cm 1) (Ts 4 (cond (ilt gm 1) (Ts 4 (K0 5)) (Ts 7 (cond (igt ((gq : Nat) : Int) 0) (Ts 1 (K0 5)) (Ts 3 (cond (!(ieq cm 1)) (Ts 4 (cond (ine gm 0) (Ts 6 (K0 5)) (Ts 6 (cond (igt ((gq : Nat) : Int) 8) (Ts 4 (K0 5)) (Ts 2 (((P_an gq gu gv) /\ Ts 4 (cond (!(F_an_0 gq gu gv)) (Ts 1 (K0 5)) (Ts 1 (K0 0)))))))))) (Ts 3 (K0 0)))))))) (Ts 5 (cond (!(ieq cm 1)) (Ts 4 (cond (ine gm 0) (Ts 6 (K0 5)) (Ts 6 (cond (igt ((gq : Nat) : Int) 8) (Ts 4 (K0 5)) (Ts 2 (((P_an gq gu gv) /\ Ts 4 (cond (!(F_an_0 gq gu gv)) (Ts 1 (K0 5)) (Ts 1 (K0 0)))))))))) (Ts 3 (K0 0)))))))) (Ts 6 (cond (ieq cm 1) (Ts 4 (cond (ilt gm 1) (Ts 4 (K0 5)) (Ts 7 (cond (igt ((gq : Nat) : Int) 0) (Ts 1 (K0 5)) (Ts 3 (cond (!(ieq cm 1)) (Ts 4 (cond (ine gm 0) (Ts 6 (K0 5)) (Ts 6 (cond (igt ((gq : Nat) : Int) 8) (Ts 4 (K0 5)) (Ts 2 (((P_an gq gu gv) /\ Ts 4 (cond (!(F_an_0 gq gu gv)) (Ts 1 (K0 5)) (Ts 1 (K0 0)))))))))) (Ts 3 (K0 0)))))))) (Ts 5 (cond (!(ieq cm 1)) (Ts 4 (cond (ine gm 0) (Ts 6 (K0 5)) (Ts 6 (cond (igt ((gq : Nat) : Int) 8) (Ts 4 (K0 5)) (Ts 2 (((P_an gq gu gv) /\ Ts 4 (cond (!(F_an_0 gq gu gv)) (Ts 1 (K0 5)) (Ts 1 (K0 0)))))))))) (Ts 3 (K0 0)))))))))))))))))
theorem i64_sub (x y : Int) : I64 (isub .i64 x y) := by
  rw [isub_eq]
  unfold I64
  simp only [IntKind.wrap_i64]
  omega
theorem i64_add (x y : Int) : I64 (iadd .i64 x y) := by
  rw [iadd_eq]
  unfold I64
  simp only [IntKind.wrap_i64]
  omega
def FormI (k ba bb c : Int) (n : Nat) (da db : Nat -> Int) : Prop := (I64 k /\ I64 ba /\ I64 bb /\ I64 c) /\ n <= 1000000 /\ ∀ j, j < n -> I64 (da j) /\ I64 (db j)
def P_ci (k ba bb c : Int) (n : Nat) (da db : Nat -> Int) : Prop := FormI k ba bb c n da db
def F_ci_0 (k ba bb c : Int) (n : Nat) (da db : Nat -> Int) : Int := cond (!(ieq k 1) && ine k 2) 8 (cond (!(F_bq_0 1 (fun _ => ba) (fun _ => bb))) 3 (cond (!(F_bq_0 n da db)) 3 (cond (ieq k 1) (cond (igt c 0 && (igt c 2097152 || ine (F_cw_0 (F_dl_0 ba bb c) (F_dl_1 ba bb c) (F_dl_2 ba bb c) (F_dl_3 ba bb c)) 0)) 3 (cond (ilt c 1) 5 (cond (igt (n : Int) 0) 5 0))) (cond (ine c 0) 5 (cond (igt (n : Int) 8) 5 (cond (!(F_an_0 n da db)) 5 0))))))
theorem H_ci (k ba bb c : Int) (n : Nat) (da db : Nat -> Int) {K0 : Int -> Prop} (h : P_ci k ba bb c n da db) (hK : K0 (F_ci_0 k ba bb c n da db)) : B_ci k ba bb c n da db K0 := by
  obtain ⟨⟨h1, h2, h3, h4⟩, h5, h6⟩ := h
  have pf1 : P_bq 1 (fun _ => ba) (fun _ => bb) := ⟨by omega, fun _ _ => ⟨h2, h3⟩⟩
  have pf2 : P_bq n da db := ⟨h5, h6⟩
  have pf3 : P_an n da db := ⟨h5, h6⟩
  have pf4 : P_cw (F_dl_0 ba bb c) (F_dl_1 ba bb c) (F_dl_2 ba bb c) (F_dl_3 ba bb c) := ⟨by omega, fun k hk => by
    have : k = 0 ∨ k = 1 := by omega
    rcases this with rfl | rfl
    · exact ⟨i64_sub _ _, i64_sub _ _⟩
    · exact ⟨i64_add _ _, i64_add _ _⟩⟩
  unfold F_ci_0 at hK
  unfold B_ci
  simp only [Ts_iff, true_and]
  repeat' first
    | exact hK
    | (refine cond_intro (fun hc => ?_) (fun hc => ?_) <;> (try simp only [Bool.not_eq_true', Bool.not_eq_false'] at hc) <;> (try simp only [hc, cond_true, cond_false, Bool.not_true, Bool.not_false, Bool.true_and, Bool.and_true, Bool.false_and, Bool.and_false, Bool.true_or, Bool.or_true, Bool.false_or, Bool.or_false] at hK) <;> (try simp only [hc, cond_true, cond_false, Bool.not_true, Bool.not_false]))
    | (refine ⟨pf1, ?_⟩)
    | (refine ⟨pf2, ?_⟩)
    | (refine ⟨pf3, ?_⟩)
    | (refine ⟨pf4, ?_⟩)
    | (refine ⟨trivial, ?_⟩)
    | (refine ⟨rfl, ?_⟩)
def B_ar (cm ge gg gm : Int) (gq : Nat) (gu gv : Nat -> Int) (K0 : Prop) (K1 : Int -> Int -> Int -> Prop) (K2 : Nat -> (Nat -> Int) -> (Nat -> Int) -> Prop)  : Prop := Ts 3 (((P_ci cm ge gg gm gq gu gv) /\ Ts 1 (cond (ine (F_ci_0 cm ge gg gm gq gu gv) 0) (Ts 1 (K0 )) (Ts 3 (cond (ieq cm 1) (Ts 7 (K1 ge gg gm)) (Ts 5 (K2 gq gu gv)))))))
def P_ar (cm ge gg gm : Int) (gq : Nat) (gu gv : Nat -> Int) : Prop := (P_ci cm ge gg gm gq gu gv)
def C_ar_0 (cm ge gg gm : Int) (gq : Nat) (gu gv : Nat -> Int) : Bool := (cond (ine (F_ci_0 cm ge gg gm gq gu gv) 0) true false)
def C_ar_1 (cm ge gg gm : Int) (gq : Nat) (gu gv : Nat -> Int) : Bool := (cond (ine (F_ci_0 cm ge gg gm gq gu gv) 0) false (cond (ieq cm 1) true false))
def F_ar_1_0 (cm ge gg gm : Int) (gq : Nat) (gu gv : Nat -> Int) : Int := ge
def F_ar_1_1 (cm ge gg gm : Int) (gq : Nat) (gu gv : Nat -> Int) : Int := gg
def F_ar_1_2 (cm ge gg gm : Int) (gq : Nat) (gu gv : Nat -> Int) : Int := gm
def F_ar_2_0 (cm ge gg gm : Int) (gq : Nat) (gu gv : Nat -> Int) : Nat := gq
def F_ar_2_1 (cm ge gg gm : Int) (gq : Nat) (gu gv : Nat -> Int) : (Nat -> Int) := gu
def F_ar_2_2 (cm ge gg gm : Int) (gq : Nat) (gu gv : Nat -> Int) : (Nat -> Int) := gv
theorem H_ar (cm ge gg gm : Int) (gq : Nat) (gu gv : Nat -> Int) {K0 : Prop} {K1 : Int -> Int -> Int -> Prop} {K2 : Nat -> (Nat -> Int) -> (Nat -> Int) -> Prop} (h : P_ar cm ge gg gm gq gu gv) (hK : cond (C_ar_0 cm ge gg gm gq gu gv) (K0 ) (cond (C_ar_1 cm ge gg gm gq gu gv) (K1 (F_ar_1_0 cm ge gg gm gq gu gv) (F_ar_1_1 cm ge gg gm gq gu gv) (F_ar_1_2 cm ge gg gm gq gu gv)) (K2 (F_ar_2_0 cm ge gg gm gq gu gv) (F_ar_2_1 cm ge gg gm gq gu gv) (F_ar_2_2 cm ge gg gm gq gu gv)))) : B_ar cm ge gg gm gq gu gv K0 K1 K2  := by
 unfold B_ar P_ar C_ar_0 C_ar_1 F_ar_1_0 F_ar_1_1 F_ar_1_2 F_ar_2_0 F_ar_2_1 F_ar_2_2 at *
 simp only [Ts_iff, true_and]; try simp only [Ts_iff, true_and] at h
 repeat' first | exact hK | (refine cond_intro (fun c => ?_) (fun c => ?_) <;> try simp only [c, cond_true, cond_false] at h hK ⊢) | refine ⟨rfl, ?_⟩ | refine ⟨trivial, ?_⟩ | refine ⟨by decide, ?_⟩ | (refine ⟨h.1, ?_⟩; replace h := h.2) | refine ⟨h, ?_⟩
def NN_ap_0 (gw : Nat) (gk gn : Nat -> Int) (gb gd : Int) : Nat := (F_ad_0 gw gk gn)
def PP_ap_0 (gw : Nat) (gk gn : Nat -> Int) (gb gd : Int) : Prop := (F_ad_0 gw gk gn) <= 1000000
def B_ap_0 (gw : Nat) (gk gn : Nat -> Int) (gb gd : Int) (j0 : Nat)  (c x0 : Prop)  : Prop := Ts 7 (((P_e8 ((F_ay gw gk gn) j0) ((F_ad_2 gw gk gn) j0) ((F_ay gw gk gn) (nxE (F_ad_0 gw gk gn) j0)) ((F_ad_2 gw gk gn) (nxE (F_ad_0 gw gk gn) j0)) gb gd) /\ Ts 1 (cond (ilt (F_e8_0 ((F_ay gw gk gn) j0) ((F_ad_2 gw gk gn) j0) ((F_ay gw gk gn) (nxE (F_ad_0 gw gk gn) j0)) ((F_ad_2 gw gk gn) (nxE (F_ad_0 gw gk gn) j0)) gb gd) 0) (Ts 1 (x0 )) (c ))))
def W_ap_0 (gw : Nat) (gk gn : Nat -> Int) (gb gd : Int) : Nat -> Nat -> (Prop) -> (Prop) -> Prop
  | 0, _, x0, _ => x0 
  | r + 1, j, x0, x1 => B_ap_0 gw gk gn gb gd j  (W_ap_0 gw gk gn gb gd r (j + 1)  x0 x1) x1 
theorem BM_ap_0 (gw : Nat) (gk gn : Nat -> Int) (gb gd : Int) (j0 : Nat)  {c c' : Prop} {x0 y0 : Prop} (hc : c -> c') (h0 : x0 -> y0) : B_ap_0 gw gk gn gb gd j0  c x0  -> B_ap_0 gw gk gn gb gd j0  c' y0  := by
  unfold B_ap_0
  repeat' first
    | exact hc 
    | exact h0 
    | refine Ts_imp ?_
    | refine cond_imp ?_ ?_
    | refine and_imp' ?_
theorem WM_ap_0 (gw : Nat) (gk gn : Nat -> Int) (gb gd : Int) {x0 y0 : Prop} {x1 y1 : Prop} (h0 : x0 -> y0) (h1 : x1 -> y1) : ∀ (r j : Nat) , W_ap_0 gw gk gn gb gd r j  x0 x1 -> W_ap_0 gw gk gn gb gd r j  y0 y1
  | 0, j => h0 
  | r + 1, j => BM_ap_0 gw gk gn gb gd j  (WM_ap_0 gw gk gn gb gd h0 h1 r (j + 1) ) h1
def B_ap (gw : Nat) (gk gn : Nat -> Int) (gb gd : Int) (K0 : Bool -> Prop) (l0 : (Prop) -> (Prop) -> Prop) : Prop := Ts 4 (((P_ad gw gk gn) /\ (l0  (Ts 2 (K0 true)) (Ts 1 (K0 false)))))
def P_ap (n : Nat) (a b : Nat -> Int) (px py : Int) : Prop := n <= 1000000
def hasOK (n : Nat) (a b : Nat -> Int) (px py : Int) (j : Nat) : Bool := !(ilt (F_e8_0 (a j) (b j) (a (nxE n j)) (b (nxE n j)) px py) 0)
def F_ap_0 (n : Nat) (a b : Nat -> Int) (px py : Int) : Bool := (List.range n).all fun j => hasOK n a b px py j
theorem has_iff {n : Nat} {a b : Nat -> Int} {px py : Int} : F_ap_0 n a b px py = true ↔ ∀ j, j < n -> hasOK n a b px py j = true := by
  unfold F_ap_0
  rw [List.all_eq_true]
  exact ⟨fun h k hk => h k (List.mem_range.2 hk), fun h k hk => h k (List.mem_range.1 hk)⟩
theorem W_ap_ok {n : Nat} {a b : Nat -> Int} {px py : Int} {x0 x1 : Prop} : ∀ (r k : Nat), r + k = n -> ((∀ j, k <= j -> j < n -> hasOK n a b px py j = true) -> x0) -> (∀ j, j < n -> hasOK n a b px py j = false -> x1) -> W_ap_0 n a b px py r k x0 x1
  | 0, k, h1, h2, _ => h2 (fun j h h' => by omega)
  | r + 1, k, h1, h2, h3 => by
    show B_ap_0 n a b px py k _ _
    unfold B_ap_0 F_ad_0 F_ay F_ad_2
    simp only [Ts_iff]
    refine ⟨trivial, cond_intro (fun hc => ?_) (fun hc => ?_)⟩
    · exact h3 k (by omega) (by unfold hasOK; rw [hc]; rfl)
    · refine W_ap_ok r (k + 1) (by omega) (fun h => h2 fun j hj1 hj2 => ?_) h3
      by_cases hk : j = k
      · subst hk; unfold hasOK; rw [hc]; rfl
      · exact h j (by omega) hj2
theorem H_ap (gw : Nat) (gk gn : Nat -> Int) (gb gd : Int) {K0 : Bool -> Prop} (h : P_ap gw gk gn gb gd) (hK : K0 (F_ap_0 gw gk gn gb gd)) : B_ap gw gk gn gb gd K0 (fun y0 y1 => PP_ap_0 gw gk gn gb gd  /\ W_ap_0 gw gk gn gb gd  (NN_ap_0 gw gk gn gb gd ) 0  y0 y1) := by
  unfold B_ap
  simp only [Ts_iff]
  refine ⟨trivial, h, W_ap_ok _ 0 rfl (fun hh => ?_) (fun j hj hb => ?_)⟩
  · rw [has_iff.2 fun j hj => hh j (Nat.zero_le _) hj] at hK
    exact hK
  · have : F_ap_0 gw gk gn gb gd = false := by
      cases hf : F_ap_0 gw gk gn gb gd with
      | false => rfl
      | true => rw [has_iff.1 hf j hj] at hb; cases hb
    rw [this] at hK
    exact hK
def B_fz (cm ga gb gd : Int) (K0 : Int -> Prop)  : Prop := Ts 15 (K0 (iadd .i64 (imul .i64 cm gb) (imul .i64 ga gd)))
def P_fz (cm ga gb gd : Int) : Prop := True
def F_fz_0 (cm ga gb gd : Int) : Int := (iadd .i64 (imul .i64 cm gb) (imul .i64 ga gd))
theorem H_fz (cm ga gb gd : Int) {K0 : Int -> Prop} (h : P_fz cm ga gb gd) (hK : K0 (F_fz_0 cm ga gb gd)) : B_fz cm ga gb gd K0  := by
 unfold B_fz P_fz F_fz_0 at *
 exact Ts_iff.2 hK
def B_dm (gk gn ga gb gd : Int) (K0 : Bool -> Prop)  : Prop := Ts 6 (((P_bn gk gn gb gd) /\ Ts 4 (((P_fz (F_bn_0 gk gn gb gd) (F_bn_1 gk gn gb gd) (F_bn_0 gk gn gb gd) (F_bn_1 gk gn gb gd)) /\ Ts 7 ((true = true /\ K0 (ile (F_fz_0 (F_bn_0 gk gn gb gd) (F_bn_1 gk gn gb gd) (F_bn_0 gk gn gb gd) (F_bn_1 gk gn gb gd)) (imul .i64 ga ga))))))))
def P_dm (gk gn ga gb gd : Int) : Prop := True
def F_dm_0 (gk gn ga gb gd : Int) : Bool := (ile (F_fz_0 (F_bn_0 gk gn gb gd) (F_bn_1 gk gn gb gd) (F_bn_0 gk gn gb gd) (F_bn_1 gk gn gb gd)) (imul .i64 ga ga))
theorem H_dm (gk gn ga gb gd : Int) {K0 : Bool -> Prop} (h : P_dm gk gn ga gb gd) (hK : K0 (F_dm_0 gk gn ga gb gd)) : B_dm gk gn ga gb gd K0  := by
 unfold B_dm P_dm F_dm_0 at *
 simp only [Ts_iff, true_and]
 repeat' first | exact hK | refine ⟨rfl, ?_⟩ | refine ⟨trivial, ?_⟩ | refine ⟨by decide, ?_⟩ | (refine ⟨h.1, ?_⟩; replace h := h.2) | refine ⟨h, ?_⟩
def B_df (a0 : Int) (K0 : Int -> Bool -> Prop)  : Prop := Ts 2 (((P_cn a0 256) /\ Ts 2 (K0 (F_cn_0 a0 256) (F_cn_1 a0 256))))
def P_df (a0 : Int) : Prop := (P_cn a0 256)
def F_df_0 (a0 : Int) : Int := (F_cn_0 a0 256)
def F_df_1 (a0 : Int) : Bool := (F_cn_1 a0 256)
theorem H_df (a0 : Int) {K0 : Int -> Bool -> Prop} (h : P_df a0) (hK : K0 (F_df_0 a0) (F_df_1 a0)) : B_df a0 K0  := by
 unfold B_df P_df F_df_0 F_df_1 at *
 simp only [Ts_iff, true_and]; try simp only [Ts_iff, true_and] at h
 repeat' first | exact hK | refine ⟨rfl, ?_⟩ | refine ⟨trivial, ?_⟩ | refine ⟨by decide, ?_⟩ | (refine ⟨h.1, ?_⟩; replace h := h.2) | refine ⟨h, ?_⟩
theorem radius_pk {x : Int} (hx : Num' x) : P_df x /\ P_b6 x 256 /\ F_df_0 x = F_b6_0 x 256 /\ F_df_1 x = F_b6_1 x 256 /\ Num' (F_b6_0 x 256) := Ratio_pk hx n256
def B_dw (cm : Int) (ga : Bool) (K0 : Int -> Bool -> Prop)  : Prop := Ts 5 (((P_fm 2 (pushF 1 (fun _ => 0) cm) (pushF 1 (fun _ => false) ga)) /\ Ts 2 (K0 (F_fm_0 2 (pushF 1 (fun _ => 0) cm) (pushF 1 (fun _ => false) ga)) (F_fm_1 2 (pushF 1 (fun _ => 0) cm) (pushF 1 (fun _ => false) ga)))))
def P_dw (cm : Int) (ga : Bool) : Prop := (P_fm 2 (pushF 1 (fun _ => 0) cm) (pushF 1 (fun _ => false) ga))
def F_dw_0 (cm : Int) (ga : Bool) : Int := (F_fm_0 2 (pushF 1 (fun _ => 0) cm) (pushF 1 (fun _ => false) ga))
def F_dw_1 (cm : Int) (ga : Bool) : Bool := (F_fm_1 2 (pushF 1 (fun _ => 0) cm) (pushF 1 (fun _ => false) ga))
theorem H_dw (cm : Int) (ga : Bool) {K0 : Int -> Bool -> Prop} (h : P_dw cm ga) (hK : K0 (F_dw_0 cm ga) (F_dw_1 cm ga)) : B_dw cm ga K0  := by
 unfold B_dw P_dw F_dw_0 F_dw_1 at *
 simp only [Ts_iff, true_and]; try simp only [Ts_iff, true_and] at h
 repeat' first | exact hK | refine ⟨rfl, ?_⟩ | refine ⟨trivial, ?_⟩ | refine ⟨by decide, ?_⟩ | (refine ⟨h.1, ?_⟩; replace h := h.2) | refine ⟨h, ?_⟩
theorem n0 : Num' 0 := ⟨by decide, by decide⟩
theorem positive_pk {x : Int} {f : Bool} (hx : Num' x) : P_dw x f /\ P_cv 2 (pushF 1 (fun _ => 0) x) (pushF 1 (fun _ => false) f) /\ F_dw_0 x f = F_cv_0 2 (pushF 1 (fun _ => 0) x) (pushF 1 (fun _ => false) f) /\ F_dw_1 x f = F_cv_1 2 (pushF 1 (fun _ => 0) x) (pushF 1 (fun _ => false) f) /\ Num' (F_cv_0 2 (pushF 1 (fun _ => 0) x) (pushF 1 (fun _ => false) f)) := Max_pk (by decide) (two_i n0 hx)
def E_aa_0 (gb gd gh gj : Int) : Int := (F_fz_0 (F_bn_0 gb gd gh gj) (F_bn_1 gb gd gh gj) (F_bn_0 gb gd gh gj) (F_bn_1 gb gd gh gj))
def E_aa_1 (gk gn gb gd gh gj : Int) : Int := (F_fz_0 (F_bn_0 gk gn gb gd) (F_bn_1 gk gn gb gd) (F_bn_0 gb gd gh gj) (F_bn_1 gb gd gh gj))
def E_aa_2 (gk gn gb gd : Int) : Int := (F_fz_0 (F_bn_0 gk gn gb gd) (F_bn_1 gk gn gb gd) (F_bn_0 gk gn gb gd) (F_bn_1 gk gn gb gd))
def E_aa_3 (gk gn gb gd gh gj ga : Int) : Int := (F_fd_0 (E_aa_1 gk gn gb gd gh gj) (E_aa_1 gk gn gb gd gh gj) (E_aa_0 gb gd gh gj) (isub .i64 (E_aa_2 gk gn gb gd) (imul .i64 ga ga)))
def E_aa_4 (gk gn gb gd : Int) : Int := (F_dz_0 (F_bn_0 gk gn gb gd) (F_bn_1 gk gn gb gd))
def E_aa_5 (gk gn gb gd : Int) : Bool := (F_dz_1 (F_bn_0 gk gn gb gd) (F_bn_1 gk gn gb gd))
def E_aa_6 (gk gn gb gd : Int) : Int := (F_dz_2 (F_bn_0 gk gn gb gd) (F_bn_1 gk gn gb gd))
def E_aa_7 (gk gn gb gd : Int) : Bool := (F_dz_3 (F_bn_0 gk gn gb gd) (F_bn_1 gk gn gb gd))
def E_aa_8 (gb gd gh gj : Int) : Int := (F_dz_0 (F_bn_0 gb gd gh gj) (F_bn_1 gb gd gh gj))
def E_aa_9 (gb gd gh gj : Int) : Bool := (F_dz_1 (F_bn_0 gb gd gh gj) (F_bn_1 gb gd gh gj))
def E_aa_10 (gb gd gh gj : Int) : Int := (F_dz_2 (F_bn_0 gb gd gh gj) (F_bn_1 gb gd gh gj))
def E_aa_11 (gb gd gh gj : Int) : Bool := (F_dz_3 (F_bn_0 gb gd gh gj) (F_bn_1 gb gd gh gj))
def E_aa_12 (gb gd gh gj : Int) : Int := (F_dk_0 (E_aa_8 gb gd gh gj) (E_aa_9 gb gd gh gj) (E_aa_10 gb gd gh gj) (E_aa_11 gb gd gh gj))
def E_aa_13 (gb gd gh gj : Int) : Bool := (F_dk_1 (E_aa_8 gb gd gh gj) (E_aa_9 gb gd gh gj) (E_aa_10 gb gd gh gj) (E_aa_11 gb gd gh gj))
def E_aa_14 (gb gd gh gj : Int) : Int := (F_dk_2 (E_aa_8 gb gd gh gj) (E_aa_9 gb gd gh gj) (E_aa_10 gb gd gh gj) (E_aa_11 gb gd gh gj))
def E_aa_15 (gb gd gh gj : Int) : Bool := (F_dk_3 (E_aa_8 gb gd gh gj) (E_aa_9 gb gd gh gj) (E_aa_10 gb gd gh gj) (E_aa_11 gb gd gh gj))
def E_aa_17 (gb gd gh gj gk gn : Int) : Int := (F_fa_0 (E_aa_12 gb gd gh gj) (E_aa_13 gb gd gh gj) (E_aa_14 gb gd gh gj) (E_aa_15 gb gd gh gj) (E_aa_4 gk gn gb gd) (E_aa_5 gk gn gb gd) (E_aa_6 gk gn gb gd) (E_aa_7 gk gn gb gd))
def E_aa_18 (gb gd gh gj gk gn : Int) : Bool := (F_fa_1 (E_aa_12 gb gd gh gj) (E_aa_13 gb gd gh gj) (E_aa_14 gb gd gh gj) (E_aa_15 gb gd gh gj) (E_aa_4 gk gn gb gd) (E_aa_5 gk gn gb gd) (E_aa_6 gk gn gb gd) (E_aa_7 gk gn gb gd))
def E_aa_19 (ga : Int) : Int := (F_c8_0 (F_df_0 ga) (F_df_1 ga) (F_df_0 ga) (F_df_1 ga))
def E_aa_20 (ga : Int) : Bool := (F_c8_1 (F_df_0 ga) (F_df_1 ga) (F_df_0 ga) (F_df_1 ga))
def E_aa_21 (gb gd gh gj gk gn : Int) : Int := (F_c8_0 (E_aa_17 gb gd gh gj gk gn) (E_aa_18 gb gd gh gj gk gn) (E_aa_17 gb gd gh gj gk gn) (E_aa_18 gb gd gh gj gk gn))
def E_aa_22 (gb gd gh gj gk gn : Int) : Bool := (F_c8_1 (E_aa_17 gb gd gh gj gk gn) (E_aa_18 gb gd gh gj gk gn) (E_aa_17 gb gd gh gj gk gn) (E_aa_18 gb gd gh gj gk gn))
def E_aa_23 (ga gb gd gh gj gk gn : Int) : Int := (F_fi_0 (E_aa_19 ga) (E_aa_20 ga) (E_aa_21 gb gd gh gj gk gn) (E_aa_22 gb gd gh gj gk gn))
def E_aa_24 (ga gb gd gh gj gk gn : Int) : Bool := (F_fi_1 (E_aa_19 ga) (E_aa_20 ga) (E_aa_21 gb gd gh gj gk gn) (E_aa_22 gb gd gh gj gk gn))
def E_aa_25 (ga gb gd gh gj gk gn : Int) : Int := (F_dw_0 (E_aa_23 ga gb gd gh gj gk gn) (E_aa_24 ga gb gd gh gj gk gn))
def E_aa_26 (ga gb gd gh gj gk gn : Int) : Bool := (F_dw_1 (E_aa_23 ga gb gd gh gj gk gn) (E_aa_24 ga gb gd gh gj gk gn))
def E_aa_27 (ga gb gd gh gj gk gn : Int) : Int := (F_d8_0 (E_aa_25 ga gb gd gh gj gk gn) (E_aa_26 ga gb gd gh gj gk gn))
def E_aa_28 (ga gb gd gh gj gk gn : Int) : Bool := (F_d8_1 (E_aa_25 ga gb gd gh gj gk gn) (E_aa_26 ga gb gd gh gj gk gn))
def E_aa_29 (gb gd gh gj gk gn : Int) : Int := (F_fv_0 (E_aa_12 gb gd gh gj) (E_aa_13 gb gd gh gj) (E_aa_14 gb gd gh gj) (E_aa_15 gb gd gh gj) (E_aa_4 gk gn gb gd) (E_aa_5 gk gn gb gd) (E_aa_6 gk gn gb gd) (E_aa_7 gk gn gb gd))
def E_aa_30 (gb gd gh gj gk gn : Int) : Bool := (F_fv_1 (E_aa_12 gb gd gh gj) (E_aa_13 gb gd gh gj) (E_aa_14 gb gd gh gj) (E_aa_15 gb gd gh gj) (E_aa_4 gk gn gb gd) (E_aa_5 gk gn gb gd) (E_aa_6 gk gn gb gd) (E_aa_7 gk gn gb gd))
def E_aa_31 (gb gd gh gj gk gn : Int) : Int := (F_ed_0 (E_aa_29 gb gd gh gj gk gn) (E_aa_30 gb gd gh gj gk gn))
def E_aa_32 (gb gd gh gj gk gn : Int) : Bool := (F_ed_1 (E_aa_29 gb gd gh gj gk gn) (E_aa_30 gb gd gh gj gk gn))
def E_aa_33 (gb gd gh gj gk gn ga : Int) : Int := (F_fi_0 (E_aa_31 gb gd gh gj gk gn) (E_aa_32 gb gd gh gj gk gn) (E_aa_27 ga gb gd gh gj gk gn) (E_aa_28 ga gb gd gh gj gk gn))
def E_aa_34 (gb gd gh gj gk gn ga : Int) : Bool := (F_fi_1 (E_aa_31 gb gd gh gj gk gn) (E_aa_32 gb gd gh gj gk gn) (E_aa_27 ga gb gd gh gj gk gn) (E_aa_28 ga gb gd gh gj gk gn))
def E_aa_35 (gb gd gh gj : Int) : Int := (F_cq_0 (E_aa_8 gb gd gh gj) (E_aa_9 gb gd gh gj) (E_aa_10 gb gd gh gj) (E_aa_11 gb gd gh gj))
def E_aa_36 (gb gd gh gj : Int) : Bool := (F_cq_1 (E_aa_8 gb gd gh gj) (E_aa_9 gb gd gh gj) (E_aa_10 gb gd gh gj) (E_aa_11 gb gd gh gj))
def E_aa_37 (gb gd gh gj gk gn ga : Int) : Int := (F_ej_0 (E_aa_33 gb gd gh gj gk gn ga) (E_aa_34 gb gd gh gj gk gn ga) (E_aa_35 gb gd gh gj) (E_aa_36 gb gd gh gj))
def E_aa_38 (gb gd gh gj gk gn ga : Int) : Bool := (F_ej_1 (E_aa_33 gb gd gh gj gk gn ga) (E_aa_34 gb gd gh gj gk gn ga) (E_aa_35 gb gd gh gj) (E_aa_36 gb gd gh gj))
def E_aa_39 (gb gd gh gj gk gn ga : Int) : Int := (F_e9_0 (E_aa_37 gb gd gh gj gk gn ga) (E_aa_38 gb gd gh gj gk gn ga) 0 false (F_et_0 1) (F_et_1 1))
def E_aa_40 (gb gd gh gj gk gn ga : Int) : Bool := (F_e9_1 (E_aa_37 gb gd gh gj gk gn ga) (E_aa_38 gb gd gh gj gk gn ga) 0 false (F_et_0 1) (F_et_1 1))
def E_aa_41 (gb gd gh gj gk gn ga : Int) : Int := (F_ee_0 (E_aa_8 gb gd gh gj) (E_aa_9 gb gd gh gj) (E_aa_10 gb gd gh gj) (E_aa_11 gb gd gh gj) (E_aa_39 gb gd gh gj gk gn ga) (E_aa_40 gb gd gh gj gk gn ga))
def E_aa_42 (gb gd gh gj gk gn ga : Int) : Bool := (F_ee_1 (E_aa_8 gb gd gh gj) (E_aa_9 gb gd gh gj) (E_aa_10 gb gd gh gj) (E_aa_11 gb gd gh gj) (E_aa_39 gb gd gh gj gk gn ga) (E_aa_40 gb gd gh gj gk gn ga))
def E_aa_43 (gb gd gh gj gk gn ga : Int) : Int := (F_ee_2 (E_aa_8 gb gd gh gj) (E_aa_9 gb gd gh gj) (E_aa_10 gb gd gh gj) (E_aa_11 gb gd gh gj) (E_aa_39 gb gd gh gj gk gn ga) (E_aa_40 gb gd gh gj gk gn ga))
def E_aa_44 (gb gd gh gj gk gn ga : Int) : Bool := (F_ee_3 (E_aa_8 gb gd gh gj) (E_aa_9 gb gd gh gj) (E_aa_10 gb gd gh gj) (E_aa_11 gb gd gh gj) (E_aa_39 gb gd gh gj gk gn ga) (E_aa_40 gb gd gh gj gk gn ga))
def E_aa_45 (gk gn gb gd gh gj ga : Int) : Int := (F_c9_0 2 (pushF 1 (fun _ => (E_aa_4 gk gn gb gd)) (E_aa_41 gb gd gh gj gk gn ga)) (pushF 1 (fun _ => (E_aa_5 gk gn gb gd)) (E_aa_42 gb gd gh gj gk gn ga)) (pushF 1 (fun _ => (E_aa_6 gk gn gb gd)) (E_aa_43 gb gd gh gj gk gn ga)) (pushF 1 (fun _ => (E_aa_7 gk gn gb gd)) (E_aa_44 gb gd gh gj gk gn ga)))
def E_aa_46 (gk gn gb gd gh gj ga : Int) : Bool := (F_c9_1 2 (pushF 1 (fun _ => (E_aa_4 gk gn gb gd)) (E_aa_41 gb gd gh gj gk gn ga)) (pushF 1 (fun _ => (E_aa_5 gk gn gb gd)) (E_aa_42 gb gd gh gj gk gn ga)) (pushF 1 (fun _ => (E_aa_6 gk gn gb gd)) (E_aa_43 gb gd gh gj gk gn ga)) (pushF 1 (fun _ => (E_aa_7 gk gn gb gd)) (E_aa_44 gb gd gh gj gk gn ga)))
def E_aa_47 (gk gn gb gd gh gj ga : Int) : Int := (F_c9_2 2 (pushF 1 (fun _ => (E_aa_4 gk gn gb gd)) (E_aa_41 gb gd gh gj gk gn ga)) (pushF 1 (fun _ => (E_aa_5 gk gn gb gd)) (E_aa_42 gb gd gh gj gk gn ga)) (pushF 1 (fun _ => (E_aa_6 gk gn gb gd)) (E_aa_43 gb gd gh gj gk gn ga)) (pushF 1 (fun _ => (E_aa_7 gk gn gb gd)) (E_aa_44 gb gd gh gj gk gn ga)))
def E_aa_48 (gk gn gb gd gh gj ga : Int) : Bool := (F_c9_3 2 (pushF 1 (fun _ => (E_aa_4 gk gn gb gd)) (E_aa_41 gb gd gh gj gk gn ga)) (pushF 1 (fun _ => (E_aa_5 gk gn gb gd)) (E_aa_42 gb gd gh gj gk gn ga)) (pushF 1 (fun _ => (E_aa_6 gk gn gb gd)) (E_aa_43 gb gd gh gj gk gn ga)) (pushF 1 (fun _ => (E_aa_7 gk gn gb gd)) (E_aa_44 gb gd gh gj gk gn ga)))
def E_aa_49 (gk gn gb gd gh gj ga : Int) : Int := (F_dk_0 (E_aa_45 gk gn gb gd gh gj ga) (E_aa_46 gk gn gb gd gh gj ga) (E_aa_47 gk gn gb gd gh gj ga) (E_aa_48 gk gn gb gd gh gj ga))
def E_aa_50 (gk gn gb gd gh gj ga : Int) : Bool := (F_dk_1 (E_aa_45 gk gn gb gd gh gj ga) (E_aa_46 gk gn gb gd gh gj ga) (E_aa_47 gk gn gb gd gh gj ga) (E_aa_48 gk gn gb gd gh gj ga))
def E_aa_51 (gk gn gb gd gh gj ga : Int) : Int := (F_dk_2 (E_aa_45 gk gn gb gd gh gj ga) (E_aa_46 gk gn gb gd gh gj ga) (E_aa_47 gk gn gb gd gh gj ga) (E_aa_48 gk gn gb gd gh gj ga))
def E_aa_52 (gk gn gb gd gh gj ga : Int) : Bool := (F_dk_3 (E_aa_45 gk gn gb gd gh gj ga) (E_aa_46 gk gn gb gd gh gj ga) (E_aa_47 gk gn gb gd gh gj ga) (E_aa_48 gk gn gb gd gh gj ga))
def B_aa (gk gn ga gb gd gh gj : Int) (K0 : Bool -> Int -> Bool -> Int -> Bool -> Int -> Bool -> Prop)  : Prop := Ts 6 (((P_bn gb gd gh gj) /\ Ts 3 (((P_bn gk gn gb gd) /\ Ts 4 ((true = true /\ Ts 2 (((P_fz (F_bn_0 gb gd gh gj) (F_bn_1 gb gd gh gj) (F_bn_0 gb gd gh gj) (F_bn_1 gb gd gh gj)) /\ Ts 2 (((P_fz (F_bn_0 gk gn gb gd) (F_bn_1 gk gn gb gd) (F_bn_0 gb gd gh gj) (F_bn_1 gb gd gh gj)) /\ Ts 2 ((true = true /\ Ts 2 (((P_dm gk gn ga gh gj) /\ Ts 1 (cond (!(F_dm_0 gk gn ga gh gj)) (Ts 3 (cond (ige (E_aa_1 gk gn gb gd gh gj) 0) (Ts 4 (K0 false 0 false 0 false 0 false)) (Ts 5 (cond (ige (ineg .i64 (E_aa_1 gk gn gb gd gh gj)) (E_aa_0 gb gd gh gj)) (Ts 3 (K0 false 0 false 0 false 0 false)) (Ts 5 (((P_fz (F_bn_0 gk gn gb gd) (F_bn_1 gk gn gb gd) (F_bn_0 gk gn gb gd) (F_bn_1 gk gn gb gd)) /\ Ts 6 (((P_fd (E_aa_1 gk gn gb gd gh gj) (E_aa_1 gk gn gb gd gh gj) (E_aa_0 gb gd gh gj) (isub .i64 (E_aa_2 gk gn gb gd) (imul .i64 ga ga))) /\ Ts 1 ((true = true /\ cond (ilt (E_aa_3 gk gn gb gd gh gj ga) 0) (Ts 3 (K0 false 0 false 0 false 0 false)) (Ts 1 (((P_dz (F_bn_0 gk gn gb gd) (F_bn_1 gk gn gb gd)) /\ Ts 1 (((P_dz (F_bn_0 gb gd gh gj) (F_bn_1 gb gd gh gj)) /\ Ts 2 (((P_df ga) /\ Ts 6 ((true = true /\ Ts 1 (((P_dk (E_aa_8 gb gd gh gj) (E_aa_9 gb gd gh gj) (E_aa_10 gb gd gh gj) (E_aa_11 gb gd gh gj)) /\ Ts 8 (((P_fa (E_aa_12 gb gd gh gj) (E_aa_13 gb gd gh gj) (E_aa_14 gb gd gh gj) (E_aa_15 gb gd gh gj) (E_aa_4 gk gn gb gd) (E_aa_5 gk gn gb gd) (E_aa_6 gk gn gb gd) (E_aa_7 gk gn gb gd)) /\ Ts 4 (((P_c8 (F_df_0 ga) (F_df_1 ga) (F_df_0 ga) (F_df_1 ga)) /\ Ts 2 (((P_c8 (E_aa_17 gb gd gh gj gk gn) (E_aa_18 gb gd gh gj gk gn) (E_aa_17 gb gd gh gj gk gn) (E_aa_18 gb gd gh gj gk gn)) /\ ((P_fi (E_aa_19 ga) (E_aa_20 ga) (E_aa_21 gb gd gh gj gk gn) (E_aa_22 gb gd gh gj gk gn)) /\ ((P_dw (E_aa_23 ga gb gd gh gj gk gn) (E_aa_24 ga gb gd gh gj gk gn)) /\ ((P_d8 (E_aa_25 ga gb gd gh gj gk gn) (E_aa_26 ga gb gd gh gj gk gn)) /\ Ts 2 ((true = true /\ Ts 2 (((P_fv (E_aa_12 gb gd gh gj) (E_aa_13 gb gd gh gj) (E_aa_14 gb gd gh gj) (E_aa_15 gb gd gh gj) (E_aa_4 gk gn gb gd) (E_aa_5 gk gn gb gd) (E_aa_6 gk gn gb gd) (E_aa_7 gk gn gb gd)) /\ ((P_ed (E_aa_29 gb gd gh gj gk gn) (E_aa_30 gb gd gh gj gk gn)) /\ Ts 1 (((P_fi (E_aa_31 gb gd gh gj gk gn) (E_aa_32 gb gd gh gj gk gn) (E_aa_27 ga gb gd gh gj gk gn) (E_aa_28 ga gb gd gh gj gk gn)) /\ Ts 1 (((P_cq (E_aa_8 gb gd gh gj) (E_aa_9 gb gd gh gj) (E_aa_10 gb gd gh gj) (E_aa_11 gb gd gh gj)) /\ ((P_ej (E_aa_33 gb gd gh gj gk gn ga) (E_aa_34 gb gd gh gj gk gn ga) (E_aa_35 gb gd gh gj) (E_aa_36 gb gd gh gj)) /\ Ts 2 ((true = true /\ Ts 2 (((P_et 1) /\ ((P_e9 (E_aa_37 gb gd gh gj gk gn ga) (E_aa_38 gb gd gh gj gk gn ga) 0 false (F_et_0 1) (F_et_1 1)) /\ Ts 1 ((true = true /\ Ts 3 (((P_ee (E_aa_8 gb gd gh gj) (E_aa_9 gb gd gh gj) (E_aa_10 gb gd gh gj) (E_aa_11 gb gd gh gj) (E_aa_39 gb gd gh gj gk gn ga) (E_aa_40 gb gd gh gj gk gn ga)) /\ Ts 1 (((P_c9 2 (pushF 1 (fun _ => (E_aa_4 gk gn gb gd)) (E_aa_41 gb gd gh gj gk gn ga)) (pushF 1 (fun _ => (E_aa_5 gk gn gb gd)) (E_aa_42 gb gd gh gj gk gn ga)) (pushF 1 (fun _ => (E_aa_6 gk gn gb gd)) (E_aa_43 gb gd gh gj gk gn ga)) (pushF 1 (fun _ => (E_aa_7 gk gn gb gd)) (E_aa_44 gb gd gh gj gk gn ga))) /\ ((P_dk (E_aa_45 gk gn gb gd gh gj ga) (E_aa_46 gk gn gb gd gh gj ga) (E_aa_47 gk gn gb gd gh gj ga) (E_aa_48 gk gn gb gd gh gj ga)) /\ Ts 6 ((true = true /\ Ts 5 (K0 true (E_aa_39 gb gd gh gj gk gn ga) (E_aa_40 gb gd gh gj gk gn ga) (E_aa_49 gk gn gb gd gh gj ga) (E_aa_50 gk gn gb gd gh gj ga) (E_aa_51 gk gn gb gd gh gj ga) (E_aa_52 gk gn gb gd gh gj ga))))))))))))))))))))))))))))))))))))))))))))))))))))))))) (Ts 1 (((P_dz (F_bn_0 gk gn gb gd) (F_bn_1 gk gn gb gd)) /\ Ts 1 (((P_dz (F_bn_0 gb gd gh gj) (F_bn_1 gb gd gh gj)) /\ Ts 2 (((P_df ga) /\ Ts 6 ((true = true /\ Ts 1 (((P_dk (E_aa_8 gb gd gh gj) (E_aa_9 gb gd gh gj) (E_aa_10 gb gd gh gj) (E_aa_11 gb gd gh gj)) /\ Ts 8 (((P_fa (E_aa_12 gb gd gh gj) (E_aa_13 gb gd gh gj) (E_aa_14 gb gd gh gj) (E_aa_15 gb gd gh gj) (E_aa_4 gk gn gb gd) (E_aa_5 gk gn gb gd) (E_aa_6 gk gn gb gd) (E_aa_7 gk gn gb gd)) /\ Ts 4 (((P_c8 (F_df_0 ga) (F_df_1 ga) (F_df_0 ga) (F_df_1 ga)) /\ Ts 2 (((P_c8 (E_aa_17 gb gd gh gj gk gn) (E_aa_18 gb gd gh gj gk gn) (E_aa_17 gb gd gh gj gk gn) (E_aa_18 gb gd gh gj gk gn)) /\ ((P_fi (E_aa_19 ga) (E_aa_20 ga) (E_aa_21 gb gd gh gj gk gn) (E_aa_22 gb gd gh gj gk gn)) /\ ((P_dw (E_aa_23 ga gb gd gh gj gk gn) (E_aa_24 ga gb gd gh gj gk gn)) /\ ((P_d8 (E_aa_25 ga gb gd gh gj gk gn) (E_aa_26 ga gb gd gh gj gk gn)) /\ Ts 2 ((true = true /\ Ts 2 (((P_fv (E_aa_12 gb gd gh gj) (E_aa_13 gb gd gh gj) (E_aa_14 gb gd gh gj) (E_aa_15 gb gd gh gj) (E_aa_4 gk gn gb gd) (E_aa_5 gk gn gb gd) (E_aa_6 gk gn gb gd) (E_aa_7 gk gn gb gd)) /\ ((P_ed (E_aa_29 gb gd gh gj gk gn) (E_aa_30 gb gd gh gj gk gn)) /\ Ts 1 (((P_fi (E_aa_31 gb gd gh gj gk gn) (E_aa_32 gb gd gh gj gk gn) (E_aa_27 ga gb gd gh gj gk gn) (E_aa_28 ga gb gd gh gj gk gn)) /\ Ts 1 (((P_cq (E_aa_8 gb gd gh gj) (E_aa_9 gb gd gh gj) (E_aa_10 gb gd gh gj) (E_aa_11 gb gd gh gj)) /\ ((P_ej (E_aa_33 gb gd gh gj gk gn ga) (E_aa_34 gb gd gh gj gk gn ga) (E_aa_35 gb gd gh gj) (E_aa_36 gb gd gh gj)) /\ Ts 2 ((true = true /\ Ts 2 (((P_et 1) /\ ((P_e9 (E_aa_37 gb gd gh gj gk gn ga) (E_aa_38 gb gd gh gj gk gn ga) 0 false (F_et_0 1) (F_et_1 1)) /\ Ts 1 ((true = true /\ Ts 3 (((P_ee (E_aa_8 gb gd gh gj) (E_aa_9 gb gd gh gj) (E_aa_10 gb gd gh gj) (E_aa_11 gb gd gh gj) (E_aa_39 gb gd gh gj gk gn ga) (E_aa_40 gb gd gh gj gk gn ga)) /\ Ts 1 (((P_c9 2 (pushF 1 (fun _ => (E_aa_4 gk gn gb gd)) (E_aa_41 gb gd gh gj gk gn ga)) (pushF 1 (fun _ => (E_aa_5 gk gn gb gd)) (E_aa_42 gb gd gh gj gk gn ga)) (pushF 1 (fun _ => (E_aa_6 gk gn gb gd)) (E_aa_43 gb gd gh gj gk gn ga)) (pushF 1 (fun _ => (E_aa_7 gk gn gb gd)) (E_aa_44 gb gd gh gj gk gn ga))) /\ ((P_dk (E_aa_45 gk gn gb gd gh gj ga) (E_aa_46 gk gn gb gd gh gj ga) (E_aa_47 gk gn gb gd gh gj ga) (E_aa_48 gk gn gb gd gh gj ga)) /\ Ts 6 ((true = true /\ Ts 5 (K0 true (E_aa_39 gb gd gh gj gk gn ga) (E_aa_40 gb gd gh gj gk gn ga) (E_aa_49 gk gn gb gd gh gj ga) (E_aa_50 gk gn gb gd gh gj ga) (E_aa_51 gk gn gb gd gh gj ga) (E_aa_52 gk gn gb gd gh gj ga)))))))))))))))))))))))))))))))))))))))))))))))))))))))))))))
def P_aa (gk gn ga gb gd gh gj : Int) : Prop := (cond (!(F_dm_0 gk gn ga gh gj)) (cond (ige (E_aa_1 gk gn gb gd gh gj) 0) True (cond (ige (ineg .i64 (E_aa_1 gk gn gb gd gh gj)) (E_aa_0 gb gd gh gj)) True ((P_fd (E_aa_1 gk gn gb gd gh gj) (E_aa_1 gk gn gb gd gh gj) (E_aa_0 gb gd gh gj) (isub .i64 (E_aa_2 gk gn gb gd) (imul .i64 ga ga))) /\ (cond (ilt (E_aa_3 gk gn gb gd gh gj ga) 0) True ((P_dz (F_bn_0 gk gn gb gd) (F_bn_1 gk gn gb gd)) /\ ((P_dz (F_bn_0 gb gd gh gj) (F_bn_1 gb gd gh gj)) /\ ((P_df ga) /\ ((P_dk (E_aa_8 gb gd gh gj) (E_aa_9 gb gd gh gj) (E_aa_10 gb gd gh gj) (E_aa_11 gb gd gh gj)) /\ ((P_fa (E_aa_12 gb gd gh gj) (E_aa_13 gb gd gh gj) (E_aa_14 gb gd gh gj) (E_aa_15 gb gd gh gj) (E_aa_4 gk gn gb gd) (E_aa_5 gk gn gb gd) (E_aa_6 gk gn gb gd) (E_aa_7 gk gn gb gd)) /\ ((P_c8 (F_df_0 ga) (F_df_1 ga) (F_df_0 ga) (F_df_1 ga)) /\ ((P_c8 (E_aa_17 gb gd gh gj gk gn) (E_aa_18 gb gd gh gj gk gn) (E_aa_17 gb gd gh gj gk gn) (E_aa_18 gb gd gh gj gk gn)) /\ ((P_fi (E_aa_19 ga) (E_aa_20 ga) (E_aa_21 gb gd gh gj gk gn) (E_aa_22 gb gd gh gj gk gn)) /\ ((P_dw (E_aa_23 ga gb gd gh gj gk gn) (E_aa_24 ga gb gd gh gj gk gn)) /\ ((P_d8 (E_aa_25 ga gb gd gh gj gk gn) (E_aa_26 ga gb gd gh gj gk gn)) /\ ((P_fv (E_aa_12 gb gd gh gj) (E_aa_13 gb gd gh gj) (E_aa_14 gb gd gh gj) (E_aa_15 gb gd gh gj) (E_aa_4 gk gn gb gd) (E_aa_5 gk gn gb gd) (E_aa_6 gk gn gb gd) (E_aa_7 gk gn gb gd)) /\ ((P_fi (E_aa_31 gb gd gh gj gk gn) (E_aa_32 gb gd gh gj gk gn) (E_aa_27 ga gb gd gh gj gk gn) (E_aa_28 ga gb gd gh gj gk gn)) /\ ((P_cq (E_aa_8 gb gd gh gj) (E_aa_9 gb gd gh gj) (E_aa_10 gb gd gh gj) (E_aa_11 gb gd gh gj)) /\ ((P_ej (E_aa_33 gb gd gh gj gk gn ga) (E_aa_34 gb gd gh gj gk gn ga) (E_aa_35 gb gd gh gj) (E_aa_36 gb gd gh gj)) /\ ((P_e9 (E_aa_37 gb gd gh gj gk gn ga) (E_aa_38 gb gd gh gj gk gn ga) 0 false (F_et_0 1) (F_et_1 1)) /\ ((P_ee (E_aa_8 gb gd gh gj) (E_aa_9 gb gd gh gj) (E_aa_10 gb gd gh gj) (E_aa_11 gb gd gh gj) (E_aa_39 gb gd gh gj gk gn ga) (E_aa_40 gb gd gh gj gk gn ga)) /\ ((P_c9 2 (pushF 1 (fun _ => (E_aa_4 gk gn gb gd)) (E_aa_41 gb gd gh gj gk gn ga)) (pushF 1 (fun _ => (E_aa_5 gk gn gb gd)) (E_aa_42 gb gd gh gj gk gn ga)) (pushF 1 (fun _ => (E_aa_6 gk gn gb gd)) (E_aa_43 gb gd gh gj gk gn ga)) (pushF 1 (fun _ => (E_aa_7 gk gn gb gd)) (E_aa_44 gb gd gh gj gk gn ga))) /\ (P_dk (E_aa_45 gk gn gb gd gh gj ga) (E_aa_46 gk gn gb gd gh gj ga) (E_aa_47 gk gn gb gd gh gj ga) (E_aa_48 gk gn gb gd gh gj ga))))))))))))))))))))))) ((P_dz (F_bn_0 gk gn gb gd) (F_bn_1 gk gn gb gd)) /\ ((P_dz (F_bn_0 gb gd gh gj) (F_bn_1 gb gd gh gj)) /\ ((P_df ga) /\ ((P_dk (E_aa_8 gb gd gh gj) (E_aa_9 gb gd gh gj) (E_aa_10 gb gd gh gj) (E_aa_11 gb gd gh gj)) /\ ((P_fa (E_aa_12 gb gd gh gj) (E_aa_13 gb gd gh gj) (E_aa_14 gb gd gh gj) (E_aa_15 gb gd gh gj) (E_aa_4 gk gn gb gd) (E_aa_5 gk gn gb gd) (E_aa_6 gk gn gb gd) (E_aa_7 gk gn gb gd)) /\ ((P_c8 (F_df_0 ga) (F_df_1 ga) (F_df_0 ga) (F_df_1 ga)) /\ ((P_c8 (E_aa_17 gb gd gh gj gk gn) (E_aa_18 gb gd gh gj gk gn) (E_aa_17 gb gd gh gj gk gn) (E_aa_18 gb gd gh gj gk gn)) /\ ((P_fi (E_aa_19 ga) (E_aa_20 ga) (E_aa_21 gb gd gh gj gk gn) (E_aa_22 gb gd gh gj gk gn)) /\ ((P_dw (E_aa_23 ga gb gd gh gj gk gn) (E_aa_24 ga gb gd gh gj gk gn)) /\ ((P_d8 (E_aa_25 ga gb gd gh gj gk gn) (E_aa_26 ga gb gd gh gj gk gn)) /\ ((P_fv (E_aa_12 gb gd gh gj) (E_aa_13 gb gd gh gj) (E_aa_14 gb gd gh gj) (E_aa_15 gb gd gh gj) (E_aa_4 gk gn gb gd) (E_aa_5 gk gn gb gd) (E_aa_6 gk gn gb gd) (E_aa_7 gk gn gb gd)) /\ ((P_fi (E_aa_31 gb gd gh gj gk gn) (E_aa_32 gb gd gh gj gk gn) (E_aa_27 ga gb gd gh gj gk gn) (E_aa_28 ga gb gd gh gj gk gn)) /\ ((P_cq (E_aa_8 gb gd gh gj) (E_aa_9 gb gd gh gj) (E_aa_10 gb gd gh gj) (E_aa_11 gb gd gh gj)) /\ ((P_ej (E_aa_33 gb gd gh gj gk gn ga) (E_aa_34 gb gd gh gj gk gn ga) (E_aa_35 gb gd gh gj) (E_aa_36 gb gd gh gj)) /\ ((P_e9 (E_aa_37 gb gd gh gj gk gn ga) (E_aa_38 gb gd gh gj gk gn ga) 0 false (F_et_0 1) (F_et_1 1)) /\ ((P_ee (E_aa_8 gb gd gh gj) (E_aa_9 gb gd gh gj) (E_aa_10 gb gd gh gj) (E_aa_11 gb gd gh gj) (E_aa_39 gb gd gh gj gk gn ga) (E_aa_40 gb gd gh gj gk gn ga)) /\ ((P_c9 2 (pushF 1 (fun _ => (E_aa_4 gk gn gb gd)) (E_aa_41 gb gd gh gj gk gn ga)) (pushF 1 (fun _ => (E_aa_5 gk gn gb gd)) (E_aa_42 gb gd gh gj gk gn ga)) (pushF 1 (fun _ => (E_aa_6 gk gn gb gd)) (E_aa_43 gb gd gh gj gk gn ga)) (pushF 1 (fun _ => (E_aa_7 gk gn gb gd)) (E_aa_44 gb gd gh gj gk gn ga))) /\ (P_dk (E_aa_45 gk gn gb gd gh gj ga) (E_aa_46 gk gn gb gd gh gj ga) (E_aa_47 gk gn gb gd gh gj ga) (E_aa_48 gk gn gb gd gh gj ga))))))))))))))))))))
def F_aa_0 (gk gn ga gb gd gh gj : Int) : Bool := (cond (!(F_dm_0 gk gn ga gh gj)) (cond (ige (E_aa_1 gk gn gb gd gh gj) 0) false (cond (ige (ineg .i64 (E_aa_1 gk gn gb gd gh gj)) (E_aa_0 gb gd gh gj)) false (cond (ilt (E_aa_3 gk gn gb gd gh gj ga) 0) false true))) true)
def F_aa_1 (gk gn ga gb gd gh gj : Int) : Int := (cond (!(F_dm_0 gk gn ga gh gj)) (cond (ige (E_aa_1 gk gn gb gd gh gj) 0) 0 (cond (ige (ineg .i64 (E_aa_1 gk gn gb gd gh gj)) (E_aa_0 gb gd gh gj)) 0 (cond (ilt (E_aa_3 gk gn gb gd gh gj ga) 0) 0 (E_aa_39 gb gd gh gj gk gn ga)))) (E_aa_39 gb gd gh gj gk gn ga))
def F_aa_2 (gk gn ga gb gd gh gj : Int) : Bool := (cond (!(F_dm_0 gk gn ga gh gj)) (cond (ige (E_aa_1 gk gn gb gd gh gj) 0) false (cond (ige (ineg .i64 (E_aa_1 gk gn gb gd gh gj)) (E_aa_0 gb gd gh gj)) false (cond (ilt (E_aa_3 gk gn gb gd gh gj ga) 0) false (E_aa_40 gb gd gh gj gk gn ga)))) (E_aa_40 gb gd gh gj gk gn ga))
def F_aa_3 (gk gn ga gb gd gh gj : Int) : Int := (cond (!(F_dm_0 gk gn ga gh gj)) (cond (ige (E_aa_1 gk gn gb gd gh gj) 0) 0 (cond (ige (ineg .i64 (E_aa_1 gk gn gb gd gh gj)) (E_aa_0 gb gd gh gj)) 0 (cond (ilt (E_aa_3 gk gn gb gd gh gj ga) 0) 0 (E_aa_49 gk gn gb gd gh gj ga)))) (E_aa_49 gk gn gb gd gh gj ga))
def F_aa_4 (gk gn ga gb gd gh gj : Int) : Bool := (cond (!(F_dm_0 gk gn ga gh gj)) (cond (ige (E_aa_1 gk gn gb gd gh gj) 0) false (cond (ige (ineg .i64 (E_aa_1 gk gn gb gd gh gj)) (E_aa_0 gb gd gh gj)) false (cond (ilt (E_aa_3 gk gn gb gd gh gj ga) 0) false (E_aa_50 gk gn gb gd gh gj ga)))) (E_aa_50 gk gn gb gd gh gj ga))
def F_aa_5 (gk gn ga gb gd gh gj : Int) : Int := (cond (!(F_dm_0 gk gn ga gh gj)) (cond (ige (E_aa_1 gk gn gb gd gh gj) 0) 0 (cond (ige (ineg .i64 (E_aa_1 gk gn gb gd gh gj)) (E_aa_0 gb gd gh gj)) 0 (cond (ilt (E_aa_3 gk gn gb gd gh gj ga) 0) 0 (E_aa_51 gk gn gb gd gh gj ga)))) (E_aa_51 gk gn gb gd gh gj ga))
def F_aa_6 (gk gn ga gb gd gh gj : Int) : Bool := (cond (!(F_dm_0 gk gn ga gh gj)) (cond (ige (E_aa_1 gk gn gb gd gh gj) 0) false (cond (ige (ineg .i64 (E_aa_1 gk gn gb gd gh gj)) (E_aa_0 gb gd gh gj)) false (cond (ilt (E_aa_3 gk gn gb gd gh gj ga) 0) false (E_aa_52 gk gn gb gd gh gj ga)))) (E_aa_52 gk gn gb gd gh gj ga))
theorem H_aa (gk gn ga gb gd gh gj : Int) {K0 : Bool -> Int -> Bool -> Int -> Bool -> Int -> Bool -> Prop} (h : P_aa gk gn ga gb gd gh gj) (hK : K0 (F_aa_0 gk gn ga gb gd gh gj) (F_aa_1 gk gn ga gb gd gh gj) (F_aa_2 gk gn ga gb gd gh gj) (F_aa_3 gk gn ga gb gd gh gj) (F_aa_4 gk gn ga gb gd gh gj) (F_aa_5 gk gn ga gb gd gh gj) (F_aa_6 gk gn ga gb gd gh gj)) : B_aa gk gn ga gb gd gh gj K0  := by
 unfold B_aa P_aa F_aa_0 F_aa_1 F_aa_2 F_aa_3 F_aa_4 F_aa_5 F_aa_6 at *
 simp only [Ts_iff, true_and]; try simp only [Ts_iff, true_and] at h
 repeat' first | exact hK | (refine cond_intro (fun c => ?_) (fun c => ?_) <;> try simp only [c, cond_true, cond_false] at h hK ⊢) | refine ⟨rfl, ?_⟩ | refine ⟨trivial, ?_⟩ | refine ⟨by decide, ?_⟩ | (refine ⟨h.1, ?_⟩; replace h := h.2) | refine ⟨h, ?_⟩
def B_co (cm ga : Int) (K0 : Int -> Bool -> Int -> Bool -> Prop)  : Prop := Ts 6 (((P_f0 cm ga) /\ Ts 2 (K0 (F_f0_0 cm ga) (F_f0_1 cm ga) (F_f0_2 cm ga) (F_f0_3 cm ga))))
def P_co (cm ga : Int) : Prop := True
def F_co_0 (cm ga : Int) : Int := (F_f0_0 cm ga)
def F_co_1 (cm ga : Int) : Bool := (F_f0_1 cm ga)
def F_co_2 (cm ga : Int) : Int := (F_f0_2 cm ga)
def F_co_3 (cm ga : Int) : Bool := (F_f0_3 cm ga)
theorem H_co (cm ga : Int) {K0 : Int -> Bool -> Int -> Bool -> Prop} (h : P_co cm ga) (hK : K0 (F_co_0 cm ga) (F_co_1 cm ga) (F_co_2 cm ga) (F_co_3 cm ga)) : B_co cm ga K0  := by
 unfold B_co P_co F_co_0 F_co_1 F_co_2 F_co_3 at *
 simp only [Ts_iff, true_and]
 repeat' first | exact hK | refine ⟨rfl, ?_⟩ | refine ⟨trivial, ?_⟩ | refine ⟨by decide, ?_⟩ | (refine ⟨h.1, ?_⟩; replace h := h.2) | refine ⟨h, ?_⟩
def B_cs (cm ga gb gd : Int) (K0 : Int -> Bool -> Int -> Bool -> Prop)  : Prop := Ts 5 (((P_bn cm ga gb gd) /\ Ts 8 (((P_co (F_bn_1 cm ga gb gd) (ineg .i64 (F_bn_0 cm ga gb gd))) /\ ((P_dk (F_co_0 (F_bn_1 cm ga gb gd) (ineg .i64 (F_bn_0 cm ga gb gd))) (F_co_1 (F_bn_1 cm ga gb gd) (ineg .i64 (F_bn_0 cm ga gb gd))) (F_co_2 (F_bn_1 cm ga gb gd) (ineg .i64 (F_bn_0 cm ga gb gd))) (F_co_3 (F_bn_1 cm ga gb gd) (ineg .i64 (F_bn_0 cm ga gb gd)))) /\ Ts 9 (K0 (F_dk_0 (F_co_0 (F_bn_1 cm ga gb gd) (ineg .i64 (F_bn_0 cm ga gb gd))) (F_co_1 (F_bn_1 cm ga gb gd) (ineg .i64 (F_bn_0 cm ga gb gd))) (F_co_2 (F_bn_1 cm ga gb gd) (ineg .i64 (F_bn_0 cm ga gb gd))) (F_co_3 (F_bn_1 cm ga gb gd) (ineg .i64 (F_bn_0 cm ga gb gd)))) (F_dk_1 (F_co_0 (F_bn_1 cm ga gb gd) (ineg .i64 (F_bn_0 cm ga gb gd))) (F_co_1 (F_bn_1 cm ga gb gd) (ineg .i64 (F_bn_0 cm ga gb gd))) (F_co_2 (F_bn_1 cm ga gb gd) (ineg .i64 (F_bn_0 cm ga gb gd))) (F_co_3 (F_bn_1 cm ga gb gd) (ineg .i64 (F_bn_0 cm ga gb gd)))) (F_dk_2 (F_co_0 (F_bn_1 cm ga gb gd) (ineg .i64 (F_bn_0 cm ga gb gd))) (F_co_1 (F_bn_1 cm ga gb gd) (ineg .i64 (F_bn_0 cm ga gb gd))) (F_co_2 (F_bn_1 cm ga gb gd) (ineg .i64 (F_bn_0 cm ga gb gd))) (F_co_3 (F_bn_1 cm ga gb gd) (ineg .i64 (F_bn_0 cm ga gb gd)))) (F_dk_3 (F_co_0 (F_bn_1 cm ga gb gd) (ineg .i64 (F_bn_0 cm ga gb gd))) (F_co_1 (F_bn_1 cm ga gb gd) (ineg .i64 (F_bn_0 cm ga gb gd))) (F_co_2 (F_bn_1 cm ga gb gd) (ineg .i64 (F_bn_0 cm ga gb gd))) (F_co_3 (F_bn_1 cm ga gb gd) (ineg .i64 (F_bn_0 cm ga gb gd))))))))))
def P_cs (cm ga gb gd : Int) : Prop := (P_dk (F_co_0 (F_bn_1 cm ga gb gd) (ineg .i64 (F_bn_0 cm ga gb gd))) (F_co_1 (F_bn_1 cm ga gb gd) (ineg .i64 (F_bn_0 cm ga gb gd))) (F_co_2 (F_bn_1 cm ga gb gd) (ineg .i64 (F_bn_0 cm ga gb gd))) (F_co_3 (F_bn_1 cm ga gb gd) (ineg .i64 (F_bn_0 cm ga gb gd))))
def F_cs_0 (cm ga gb gd : Int) : Int := (F_dk_0 (F_co_0 (F_bn_1 cm ga gb gd) (ineg .i64 (F_bn_0 cm ga gb gd))) (F_co_1 (F_bn_1 cm ga gb gd) (ineg .i64 (F_bn_0 cm ga gb gd))) (F_co_2 (F_bn_1 cm ga gb gd) (ineg .i64 (F_bn_0 cm ga gb gd))) (F_co_3 (F_bn_1 cm ga gb gd) (ineg .i64 (F_bn_0 cm ga gb gd))))
def F_cs_1 (cm ga gb gd : Int) : Bool := (F_dk_1 (F_co_0 (F_bn_1 cm ga gb gd) (ineg .i64 (F_bn_0 cm ga gb gd))) (F_co_1 (F_bn_1 cm ga gb gd) (ineg .i64 (F_bn_0 cm ga gb gd))) (F_co_2 (F_bn_1 cm ga gb gd) (ineg .i64 (F_bn_0 cm ga gb gd))) (F_co_3 (F_bn_1 cm ga gb gd) (ineg .i64 (F_bn_0 cm ga gb gd))))
def F_cs_2 (cm ga gb gd : Int) : Int := (F_dk_2 (F_co_0 (F_bn_1 cm ga gb gd) (ineg .i64 (F_bn_0 cm ga gb gd))) (F_co_1 (F_bn_1 cm ga gb gd) (ineg .i64 (F_bn_0 cm ga gb gd))) (F_co_2 (F_bn_1 cm ga gb gd) (ineg .i64 (F_bn_0 cm ga gb gd))) (F_co_3 (F_bn_1 cm ga gb gd) (ineg .i64 (F_bn_0 cm ga gb gd))))
def F_cs_3 (cm ga gb gd : Int) : Bool := (F_dk_3 (F_co_0 (F_bn_1 cm ga gb gd) (ineg .i64 (F_bn_0 cm ga gb gd))) (F_co_1 (F_bn_1 cm ga gb gd) (ineg .i64 (F_bn_0 cm ga gb gd))) (F_co_2 (F_bn_1 cm ga gb gd) (ineg .i64 (F_bn_0 cm ga gb gd))) (F_co_3 (F_bn_1 cm ga gb gd) (ineg .i64 (F_bn_0 cm ga gb gd))))
theorem H_cs (cm ga gb gd : Int) {K0 : Int -> Bool -> Int -> Bool -> Prop} (h : P_cs cm ga gb gd) (hK : K0 (F_cs_0 cm ga gb gd) (F_cs_1 cm ga gb gd) (F_cs_2 cm ga gb gd) (F_cs_3 cm ga gb gd)) : B_cs cm ga gb gd K0  := by
 unfold B_cs P_cs F_cs_0 F_cs_1 F_cs_2 F_cs_3 at *
 simp only [Ts_iff, true_and]; try simp only [Ts_iff, true_and] at h
 repeat' first | exact hK | refine ⟨rfl, ?_⟩ | refine ⟨trivial, ?_⟩ | refine ⟨by decide, ?_⟩ | (refine ⟨h.1, ?_⟩; replace h := h.2) | refine ⟨h, ?_⟩
theorem normal_pk {x0 y0 x1 y1 : Int} (h0 : spotOK x0 y0 = true) (h1 : spotOK x1 y1 = true) : P_cs x0 y0 x1 y1 /\ P_dj x0 y0 x1 y1 /\ F_cs_0 x0 y0 x1 y1 = F_dj_0 x0 y0 x1 y1 /\ F_cs_1 x0 y0 x1 y1 = F_dj_1 x0 y0 x1 y1 /\ F_cs_2 x0 y0 x1 y1 = F_dj_2 x0 y0 x1 y1 /\ F_cs_3 x0 y0 x1 y1 = F_dj_3 x0 y0 x1 y1 /\ Num' (F_dj_0 x0 y0 x1 y1) /\ Num' (F_dj_2 x0 y0 x1 y1) := by
  rw [spotOK_iff] at h0 h1
  have e1 : isub .i64 y1 y0 = y1 - y0 := isub64 (by omega) (by omega)
  have e2 : isub .i64 x1 x0 = x1 - x0 := isub64 (by omega) (by omega)
  have e3 : isub .i64 x0 x1 = x0 - x1 := isub64 (by omega) (by omega)
  have e4 : ineg .i64 (x1 - x0) = x0 - x1 := by rw [ineg64 (by omega) (by omega)]; omega
  unfold P_cs P_dj F_cs_0 F_cs_1 F_cs_2 F_cs_3 F_dj_0 F_dj_1 F_dj_2 F_dj_3
  unfold F_bn_0 F_bn_1
  rw [e1, e2, e3, e4]
  obtain ⟨a1, a2, a3, a4, a5⟩ := Int_pk (v := y1 - y0) ⟨by omega, by omega⟩
  obtain ⟨b1, b2, b3, b4, b5⟩ := Int_pk (v := x0 - x1) ⟨by omega, by omega⟩
  have g0 : F_co_0 (y1 - y0) (x0 - x1) = F_ch_0 (y1 - y0) (x0 - x1) := a3
  have g1 : F_co_1 (y1 - y0) (x0 - x1) = F_ch_1 (y1 - y0) (x0 - x1) := a4
  have g2 : F_co_2 (y1 - y0) (x0 - x1) = F_ch_2 (y1 - y0) (x0 - x1) := b3
  have g3 : F_co_3 (y1 - y0) (x0 - x1) = F_ch_3 (y1 - y0) (x0 - x1) := b4
  rw [g0, g1, g2, g3]
  obtain ⟨u1, u2, u3, u4, u5, u6, u7, u8, u9⟩ := Unit_pk (f := F_ch_1 (y1 - y0) (x0 - x1)) (g := F_ch_3 (y1 - y0) (x0 - x1)) a5 b5
  exact ⟨u1, u2, u3, u4, u5, u6, u8, u9⟩
def B_dg (cm ga gb gd : Int) (K0 : Bool -> Prop)  : Prop := Ts 11 (((P_fd cm gd gb ga) /\ Ts 2 (K0 (igt (F_fd_0 cm gd gb ga) 0))))
def P_dg (cm ga gb gd : Int) : Prop := (P_fd cm gd gb ga)
def F_dg_0 (cm ga gb gd : Int) : Bool := (igt (F_fd_0 cm gd gb ga) 0)
theorem H_dg (cm ga gb gd : Int) {K0 : Bool -> Prop} (h : P_dg cm ga gb gd) (hK : K0 (F_dg_0 cm ga gb gd)) : B_dg cm ga gb gd K0  := by
 unfold B_dg P_dg F_dg_0 at *
 simp only [Ts_iff, true_and]; try simp only [Ts_iff, true_and] at h
 repeat' first | exact hK | refine ⟨rfl, ?_⟩ | refine ⟨trivial, ?_⟩ | refine ⟨by decide, ?_⟩ | (refine ⟨h.1, ?_⟩; replace h := h.2) | refine ⟨h, ?_⟩
def E_ae_0 (gw : Nat) (gk gn : Nat -> Int) (j0 : Nat) (gb gd : Int) : Int := (F_e8_0 ((F_ay gw gk gn) j0) ((F_ad_2 gw gk gn) j0) ((F_ay gw gk gn) (nxE (F_ad_0 gw gk gn) j0)) ((F_ad_2 gw gk gn) (nxE (F_ad_0 gw gk gn) j0)) gb gd)
def E_ae_1 (gw : Nat) (gk gn : Nat -> Int) (j0 : Nat) (gh gj : Int) : Int := (F_e8_0 ((F_ay gw gk gn) j0) ((F_ad_2 gw gk gn) j0) ((F_ay gw gk gn) (nxE (F_ad_0 gw gk gn) j0)) ((F_ad_2 gw gk gn) (nxE (F_ad_0 gw gk gn) j0)) gh gj)
def E_ae_3 (gw : Nat) (gk gn : Nat -> Int) (j0 : Nat) (gb gd gh gj : Int) : Int := (F_cn_0 (E_ae_0 gw gk gn j0 gb gd) (isub .i64 (E_ae_0 gw gk gn j0 gb gd) (E_ae_1 gw gk gn j0 gh gj)))
def E_ae_4 (gw : Nat) (gk gn : Nat -> Int) (j0 : Nat) (gb gd gh gj : Int) : Bool := (F_cn_1 (E_ae_0 gw gk gn j0 gb gd) (isub .i64 (E_ae_0 gw gk gn j0 gb gd) (E_ae_1 gw gk gn j0 gh gj)))
def E_ae_5 (gw : Nat) (gk gn : Nat -> Int) (j0 : Nat) : Int := (F_cs_0 ((F_ay gw gk gn) j0) ((F_ad_2 gw gk gn) j0) ((F_ay gw gk gn) (nxE (F_ad_0 gw gk gn) j0)) ((F_ad_2 gw gk gn) (nxE (F_ad_0 gw gk gn) j0)))
def E_ae_6 (gw : Nat) (gk gn : Nat -> Int) (j0 : Nat) : Bool := (F_cs_1 ((F_ay gw gk gn) j0) ((F_ad_2 gw gk gn) j0) ((F_ay gw gk gn) (nxE (F_ad_0 gw gk gn) j0)) ((F_ad_2 gw gk gn) (nxE (F_ad_0 gw gk gn) j0)))
def E_ae_7 (gw : Nat) (gk gn : Nat -> Int) (j0 : Nat) : Int := (F_cs_2 ((F_ay gw gk gn) j0) ((F_ad_2 gw gk gn) j0) ((F_ay gw gk gn) (nxE (F_ad_0 gw gk gn) j0)) ((F_ad_2 gw gk gn) (nxE (F_ad_0 gw gk gn) j0)))
def E_ae_8 (gw : Nat) (gk gn : Nat -> Int) (j0 : Nat) : Bool := (F_cs_3 ((F_ay gw gk gn) j0) ((F_ad_2 gw gk gn) j0) ((F_ay gw gk gn) (nxE (F_ad_0 gw gk gn) j0)) ((F_ad_2 gw gk gn) (nxE (F_ad_0 gw gk gn) j0)))
def E_ae_10 (gw : Nat) (gk gn : Nat -> Int) (j0 : Nat) (gb gd gh gj jf jg : Int) : Bool := (F_dg_0 (ineg .i64 (E_ae_0 gw gk gn j0 gb gd)) (isub .i64 (E_ae_1 gw gk gn j0 gh gj) (E_ae_0 gw gk gn j0 gb gd)) jf jg)
def E_ae_11 (jh ji : Int) (gw : Nat) (gk gn : Nat -> Int) (j0 : Nat) (gb gd gh gj : Int) : Bool := (F_dg_0 jh ji (E_ae_0 gw gk gn j0 gb gd) (isub .i64 (E_ae_0 gw gk gn j0 gb gd) (E_ae_1 gw gk gn j0 gh gj)))
def NN_ae_0 (gw : Nat) (gk gn : Nat -> Int) (gb gd gh gj : Int) : Nat := (F_ad_0 gw gk gn)
def PP_ae_0 (gw : Nat) (gk gn : Nat -> Int) (gb gd gh gj : Int) : Prop := (F_ad_0 gw gk gn) <= 1000000
def B_ae_0 (gw : Nat) (gk gn : Nat -> Int) (gb gd gh gj : Int) (j0 : Nat) (jf jg jh ji : Int) (jk : Bool) (jl : Int) (jm : Bool) (jn : Int) (jo : Bool) (jp : Int) (jq : Bool) (c x0 : Int -> Int -> Int -> Int -> Bool -> Int -> Bool -> Int -> Bool -> Int -> Bool -> Prop)  : Prop := Ts 7 (((P_e8 ((F_ay gw gk gn) j0) ((F_ad_2 gw gk gn) j0) ((F_ay gw gk gn) (nxE (F_ad_0 gw gk gn) j0)) ((F_ad_2 gw gk gn) (nxE (F_ad_0 gw gk gn) j0)) gb gd) /\ Ts 3 (((P_e8 ((F_ay gw gk gn) j0) ((F_ad_2 gw gk gn) j0) ((F_ay gw gk gn) (nxE (F_ad_0 gw gk gn) j0)) ((F_ad_2 gw gk gn) (nxE (F_ad_0 gw gk gn) j0)) gh gj) /\ Ts 2 ((true = true /\ Ts 3 (cond (ilt (E_ae_0 gw gk gn j0 gb gd) 0) (Ts 4 (cond (ilt (E_ae_1 gw gk gn j0 gh gj) 0) (Ts 2 (x0 jf jg jh ji jk jl jm jn jo jp jq)) (Ts 3 (cond (ilt (E_ae_0 gw gk gn j0 gb gd) 0) (Ts 10 (((P_dg (ineg .i64 (E_ae_0 gw gk gn j0 gb gd)) (isub .i64 (E_ae_1 gw gk gn j0 gh gj) (E_ae_0 gw gk gn j0 gb gd)) jf jg) /\ cond (E_ae_10 gw gk gn j0 gb gd gh gj jf jg) (Ts 6 (((P_cn (E_ae_0 gw gk gn j0 gb gd) (isub .i64 (E_ae_0 gw gk gn j0 gb gd) (E_ae_1 gw gk gn j0 gh gj))) /\ Ts 2 (((P_cs ((F_ay gw gk gn) j0) ((F_ad_2 gw gk gn) j0) ((F_ay gw gk gn) (nxE (F_ad_0 gw gk gn) j0)) ((F_ad_2 gw gk gn) (nxE (F_ad_0 gw gk gn) j0))) /\ Ts 2 ((true = true /\ c (ineg .i64 (E_ae_0 gw gk gn j0 gb gd)) (isub .i64 (E_ae_1 gw gk gn j0 gh gj) (E_ae_0 gw gk gn j0 gb gd)) jh ji true (E_ae_3 gw gk gn j0 gb gd gh gj) (E_ae_4 gw gk gn j0 gb gd gh gj) (E_ae_5 gw gk gn j0) (E_ae_6 gw gk gn j0) (E_ae_7 gw gk gn j0) (E_ae_8 gw gk gn j0)))))))) (c jf jg jh ji jk jl jm jn jo jp jq)))) (Ts 3 (cond (ilt (E_ae_1 gw gk gn j0 gh gj) 0) (Ts 9 (((P_dg jh ji (E_ae_0 gw gk gn j0 gb gd) (isub .i64 (E_ae_0 gw gk gn j0 gb gd) (E_ae_1 gw gk gn j0 gh gj))) /\ cond (E_ae_11 jh ji gw gk gn j0 gb gd gh gj) (Ts 2 (c jf jg (E_ae_0 gw gk gn j0 gb gd) (isub .i64 (E_ae_0 gw gk gn j0 gb gd) (E_ae_1 gw gk gn j0 gh gj)) jk jl jm jn jo jp jq)) (c jf jg jh ji jk jl jm jn jo jp jq)))) (c jf jg jh ji jk jl jm jn jo jp jq))))))) (Ts 5 (cond (ilt (E_ae_0 gw gk gn j0 gb gd) 0) (Ts 10 (((P_dg (ineg .i64 (E_ae_0 gw gk gn j0 gb gd)) (isub .i64 (E_ae_1 gw gk gn j0 gh gj) (E_ae_0 gw gk gn j0 gb gd)) jf jg) /\ cond (E_ae_10 gw gk gn j0 gb gd gh gj jf jg) (Ts 6 (((P_cn (E_ae_0 gw gk gn j0 gb gd) (isub .i64 (E_ae_0 gw gk gn j0 gb gd) (E_ae_1 gw gk gn j0 gh gj))) /\ Ts 2 (((P_cs ((F_ay gw gk gn) j0) ((F_ad_2 gw gk gn) j0) ((F_ay gw gk gn) (nxE (F_ad_0 gw gk gn) j0)) ((F_ad_2 gw gk gn) (nxE (F_ad_0 gw gk gn) j0))) /\ Ts 2 ((true = true /\ c (ineg .i64 (E_ae_0 gw gk gn j0 gb gd)) (isub .i64 (E_ae_1 gw gk gn j0 gh gj) (E_ae_0 gw gk gn j0 gb gd)) jh ji true (E_ae_3 gw gk gn j0 gb gd gh gj) (E_ae_4 gw gk gn j0 gb gd gh gj) (E_ae_5 gw gk gn j0) (E_ae_6 gw gk gn j0) (E_ae_7 gw gk gn j0) (E_ae_8 gw gk gn j0)))))))) (c jf jg jh ji jk jl jm jn jo jp jq)))) (Ts 3 (cond (ilt (E_ae_1 gw gk gn j0 gh gj) 0) (Ts 9 (((P_dg jh ji (E_ae_0 gw gk gn j0 gb gd) (isub .i64 (E_ae_0 gw gk gn j0 gb gd) (E_ae_1 gw gk gn j0 gh gj))) /\ cond (E_ae_11 jh ji gw gk gn j0 gb gd gh gj) (Ts 2 (c jf jg (E_ae_0 gw gk gn j0 gb gd) (isub .i64 (E_ae_0 gw gk gn j0 gb gd) (E_ae_1 gw gk gn j0 gh gj)) jk jl jm jn jo jp jq)) (c jf jg jh ji jk jl jm jn jo jp jq)))) (c jf jg jh ji jk jl jm jn jo jp jq))))))))))))
def W_ae_0 (gw : Nat) (gk gn : Nat -> Int) (gb gd gh gj : Int) : Nat -> Nat -> Int -> Int -> Int -> Int -> Bool -> Int -> Bool -> Int -> Bool -> Int -> Bool -> (Int -> Int -> Int -> Int -> Bool -> Int -> Bool -> Int -> Bool -> Int -> Bool -> Prop) -> (Int -> Int -> Int -> Int -> Bool -> Int -> Bool -> Int -> Bool -> Int -> Bool -> Prop) -> Prop
  | 0, _, w0, w1, w2, w3, w4, w5, w6, w7, w8, w9, w10, x0, _ => x0 w0 w1 w2 w3 w4 w5 w6 w7 w8 w9 w10
  | r + 1, j, w0, w1, w2, w3, w4, w5, w6, w7, w8, w9, w10, x0, x1 => B_ae_0 gw gk gn gb gd gh gj j w0 w1 w2 w3 w4 w5 w6 w7 w8 w9 w10 (fun u0 u1 u2 u3 u4 u5 u6 u7 u8 u9 u10 => W_ae_0 gw gk gn gb gd gh gj r (j + 1) u0 u1 u2 u3 u4 u5 u6 u7 u8 u9 u10 x0 x1) x1 
theorem BM_ae_0 (gw : Nat) (gk gn : Nat -> Int) (gb gd gh gj : Int) (j0 : Nat) (jf jg jh ji : Int) (jk : Bool) (jl : Int) (jm : Bool) (jn : Int) (jo : Bool) (jp : Int) (jq : Bool) {c c' : Int -> Int -> Int -> Int -> Bool -> Int -> Bool -> Int -> Bool -> Int -> Bool -> Prop} {x0 y0 : Int -> Int -> Int -> Int -> Bool -> Int -> Bool -> Int -> Bool -> Int -> Bool -> Prop} (hc : ∀ w0 w1 w2 w3 w4 w5 w6 w7 w8 w9 w10, c w0 w1 w2 w3 w4 w5 w6 w7 w8 w9 w10 -> c' w0 w1 w2 w3 w4 w5 w6 w7 w8 w9 w10) (h0 : ∀ o0 o1 o2 o3 o4 o5 o6 o7 o8 o9 jr, x0 o0 o1 o2 o3 o4 o5 o6 o7 o8 o9 jr -> y0 o0 o1 o2 o3 o4 o5 o6 o7 o8 o9 jr) : B_ae_0 gw gk gn gb gd gh gj j0 jf jg jh ji jk jl jm jn jo jp jq c x0  -> B_ae_0 gw gk gn gb gd gh gj j0 jf jg jh ji jk jl jm jn jo jp jq c' y0  := by
  unfold B_ae_0
  repeat' first
    | exact hc _ _ _ _ _ _ _ _ _ _ _
    | exact h0 _ _ _ _ _ _ _ _ _ _ _
    | refine Ts_imp ?_
    | refine cond_imp ?_ ?_
    | refine and_imp' ?_
theorem WM_ae_0 (gw : Nat) (gk gn : Nat -> Int) (gb gd gh gj : Int) {x0 y0 : Int -> Int -> Int -> Int -> Bool -> Int -> Bool -> Int -> Bool -> Int -> Bool -> Prop} {x1 y1 : Int -> Int -> Int -> Int -> Bool -> Int -> Bool -> Int -> Bool -> Int -> Bool -> Prop} (h0 : ∀ o0 o1 o2 o3 o4 o5 o6 o7 o8 o9 jr, x0 o0 o1 o2 o3 o4 o5 o6 o7 o8 o9 jr -> y0 o0 o1 o2 o3 o4 o5 o6 o7 o8 o9 jr) (h1 : ∀ o0 o1 o2 o3 o4 o5 o6 o7 o8 o9 jr, x1 o0 o1 o2 o3 o4 o5 o6 o7 o8 o9 jr -> y1 o0 o1 o2 o3 o4 o5 o6 o7 o8 o9 jr) : ∀ (r j : Nat) (jf jg jh ji : Int) (jk : Bool) (jl : Int) (jm : Bool) (jn : Int) (jo : Bool) (jp : Int) (jq : Bool), W_ae_0 gw gk gn gb gd gh gj r j jf jg jh ji jk jl jm jn jo jp jq x0 x1 -> W_ae_0 gw gk gn gb gd gh gj r j jf jg jh ji jk jl jm jn jo jp jq y0 y1
  | 0, j, w0, w1, w2, w3, w4, w5, w6, w7, w8, w9, w10 => h0 w0 w1 w2 w3 w4 w5 w6 w7 w8 w9 w10
  | r + 1, j, w0, w1, w2, w3, w4, w5, w6, w7, w8, w9, w10 => BM_ae_0 gw gk gn gb gd gh gj j w0 w1 w2 w3 w4 w5 w6 w7 w8 w9 w10 (fun u0 u1 u2 u3 u4 u5 u6 u7 u8 u9 u10 => WM_ae_0 gw gk gn gb gd gh gj h0 h1 r (j + 1) u0 u1 u2 u3 u4 u5 u6 u7 u8 u9 u10) h1
def B_ae (gw : Nat) (gk gn : Nat -> Int) (gb gd gh gj : Int) (K0 : Bool -> Int -> Bool -> Int -> Bool -> Int -> Bool -> Prop) (l0 : Int -> Int -> Int -> Int -> Bool -> Int -> Bool -> Int -> Bool -> Int -> Bool -> (Int -> Int -> Int -> Int -> Bool -> Int -> Bool -> Int -> Bool -> Int -> Bool -> Prop) -> (Int -> Int -> Int -> Int -> Bool -> Int -> Bool -> Int -> Bool -> Int -> Bool -> Prop) -> Prop) : Prop := Ts 12 (((P_ad gw gk gn) /\ (l0 (-1) 1 1 1 false 0 false 0 false 0 false (fun k6 k7 k8 k9 lc lh li lj lk ll lm => Ts 4 (cond (!lc) (Ts 4 (K0 false 0 false 0 false 0 false)) (Ts 2 (((P_dg k6 k7 k8 k9) /\ Ts 1 (cond (F_dg_0 k6 k7 k8 k9) (Ts 3 (K0 false 0 false 0 false 0 false)) (Ts 3 (K0 lc lh li lj lk ll lm)))))))) (fun k6 k7 k8 k9 lc lh li lj lk ll lm => Ts 1 (K0 false 0 false 0 false 0 false)))))
def okPts (n : Nat) (a b : Nat -> Int) : Prop := n <= 1000000 /\ ∀ k, k < n -> spotOK (a k) (b k) = true
def P_ae (n : Nat) (a b : Nat -> Int) (fx fy tx ty : Int) : Prop := okPts n a b /\ spotOK fx fy = true /\ spotOK tx ty = true
def pmH (n : Nat) (a b : Nat -> Int) (fx fy tx ty : Int) : Option (Nat × Int × Int) := castH (gT n a b fx fy) (gT n a b tx ty) n
def F_ae_0 (n : Nat) (a b : Nat -> Int) (fx fy tx ty : Int) : Bool := match pmH n a b fx fy tx ty with | none => false | some _ => true
def F_ae_1 (n : Nat) (a b : Nat -> Int) (fx fy tx ty : Int) : Int := match pmH n a b fx fy tx ty with | none => 0 | some (i, x, y) => F_cn_0 (-x) (-y)
def F_ae_2 (n : Nat) (a b : Nat -> Int) (fx fy tx ty : Int) : Bool := match pmH n a b fx fy tx ty with | none => false | some (i, x, y) => F_cn_1 (-x) (-y)
def F_ae_3 (n : Nat) (a b : Nat -> Int) (fx fy tx ty : Int) : Int := match pmH n a b fx fy tx ty with | none => 0 | some (i, x, y) => F_cs_0 (a i) (b i) (a (nxE n i)) (b (nxE n i))
def F_ae_4 (n : Nat) (a b : Nat -> Int) (fx fy tx ty : Int) : Bool := match pmH n a b fx fy tx ty with | none => false | some (i, x, y) => F_cs_1 (a i) (b i) (a (nxE n i)) (b (nxE n i))
def F_ae_5 (n : Nat) (a b : Nat -> Int) (fx fy tx ty : Int) : Int := match pmH n a b fx fy tx ty with | none => 0 | some (i, x, y) => F_cs_2 (a i) (b i) (a (nxE n i)) (b (nxE n i))
def F_ae_6 (n : Nat) (a b : Nat -> Int) (fx fy tx ty : Int) : Bool := match pmH n a b fx fy tx ty with | none => false | some (i, x, y) => F_cs_3 (a i) (b i) (a (nxE n i)) (b (nxE n i))
def inA (i x z : Int) : Int := if i < 0 then z else x
theorem gt_eq {n : Nat} {a b : Nat -> Int} {px py : Int} {j : Nat} (hj : j < n) (hv : ∀ k, k < n -> spotOK (a k) (b k) = true) (hp : spotOK px py = true) : F_e8_0 (a j) (b j) (a (nxE n j)) (b (nxE n j)) px py = gT n a b px py j := turn_eq (hv j hj) (hv _ (nxE_lt hj)) hp
theorem W_pm_ok {n : Nat} {a b : Nat -> Int} {fx fy tx ty : Int} (hP : P_ae n a b fx fy tx ty) {x0 x1 : Int -> Int -> Int -> Int -> Bool -> Int -> Bool -> Int -> Bool -> Int -> Bool -> Prop}
    (h0 : ∀ i x y c d, castS (gT n a b fx fy) (gT n a b tx ty) n = some (i, x, y, c, d) -> x0 (inA i x (-1)) (inA i y 1) c d (decide (0 <= i)) (inA i (F_cn_0 (-x) (-y)) 0) (cond (decide (0 <= i)) (F_cn_1 (-x) (-y)) false) (inA i (F_cs_0 (a i.toNat) (b i.toNat) (a (nxE n i.toNat)) (b (nxE n i.toNat))) 0) (cond (decide (0 <= i)) (F_cs_1 (a i.toNat) (b i.toNat) (a (nxE n i.toNat)) (b (nxE n i.toNat))) false) (inA i (F_cs_2 (a i.toNat) (b i.toNat) (a (nxE n i.toNat)) (b (nxE n i.toNat))) 0) (cond (decide (0 <= i)) (F_cs_3 (a i.toNat) (b i.toNat) (a (nxE n i.toNat)) (b (nxE n i.toNat))) false))
    (h1 : castS (gT n a b fx fy) (gT n a b tx ty) n = none -> ∀ w0 w1 w2 w3 w4 w5 w6 w7 w8 w9 w10, x1 w0 w1 w2 w3 w4 w5 w6 w7 w8 w9 w10) : ∀ (r j : Nat) (i x y c d : Int), r + j = n -> castS (gT n a b fx fy) (gT n a b tx ty) j = some (i, x, y, c, d) ->
    W_ae_0 n a b fx fy tx ty r j (inA i x (-1)) (inA i y 1) c d (decide (0 <= i)) (inA i (F_cn_0 (-x) (-y)) 0) (cond (decide (0 <= i)) (F_cn_1 (-x) (-y)) false) (inA i (F_cs_0 (a i.toNat) (b i.toNat) (a (nxE n i.toNat)) (b (nxE n i.toNat))) 0) (cond (decide (0 <= i)) (F_cs_1 (a i.toNat) (b i.toNat) (a (nxE n i.toNat)) (b (nxE n i.toNat))) false) (inA i (F_cs_2 (a i.toNat) (b i.toNat) (a (nxE n i.toNat)) (b (nxE n i.toNat))) 0) (cond (decide (0 <= i)) (F_cs_3 (a i.toNat) (b i.toNat) (a (nxE n i.toNat)) (b (nxE n i.toNat))) false) x0 x1
  | 0, j, i, x, y, c, d, hr, hs => by
    have : j = n := by omega
    subst this
    exact h0 i x y c d hs
  | r + 1, j, i, x, y, c, d, hr, hs => by
    show B_ae_0 n a b fx fy tx ty j _ _ _ _ _ _ _ _ _ _ _ _ _
    unfold B_ae_0
    simp only [Ts_iff]
    obtain ⟨⟨hn, hv⟩, hf, ht⟩ := hP
    have hj : j < n := by omega
    have e0 : E_ae_0 n a b j fx fy = gT n a b fx fy j := gt_eq hj hv hf
    have e1 : E_ae_1 n a b j tx ty = gT n a b tx ty j := gt_eq hj hv ht
    have b0 := gT_in hj hv hf
    have b1 := gT_in hj hv ht
    have hst := castS_ok (B := 35184372088832) (by omega) (fun k hk => gT_in hk hv hf) (fun k hk => gT_in hk hv ht) (k := j) (by omega) hs
    have nx : castS (gT n a b fx fy) (gT n a b tx ty) (j + 1) = _ := rfl
    conv at nx => rhs; unfold castS; rw [hs]
    simp only at nx
    have rcs := fun i' x' y' c' d' => W_pm_ok ⟨⟨hn, hv⟩, hf, ht⟩ h0 h1 r (j + 1) i' x' y' c' d' (by omega)
    unfold E_ae_10 E_ae_11 E_ae_3 E_ae_4 E_ae_5 E_ae_6 E_ae_7 E_ae_8
    rw [e0, e1]
    have pn := normal_pk (hv j hj) (hv _ (nxE_lt hj))
    generalize gT n a b fx fy j = g at *
    generalize gT n a b tx ty j = h at *
    have es1 : isub .i64 h g = h - g := isub64 (by omega) (by omega)
    have es2 : isub .i64 g h = g - h := isub64 (by omega) (by omega)
    have en : ineg .i64 g = -g := ineg64 (by omega) (by omega)
    rw [es1, es2, en]
    unfold P_dg F_dg_0
    refine ⟨trivial, trivial, trivial, cond_intro (fun hc => ?_) (fun hc => ?_)⟩
    · rw [ilt_t] at hc
      rw [if_pos hc] at nx
      refine cond_intro (fun hd => ?_) (fun hd => ?_)
      · rw [ilt_t] at hd
        rw [if_pos hd] at nx
        exact h1 (castS_none nx (by omega)) _ _ _ _ _ _ _ _ _ _ _
      · rw [ilt_f] at hd
        rw [if_neg (by omega)] at nx
        rw [ilt_t.2 hc, cond_true]
        have hA : Num' (inA i x (-1)) := by unfold inA; split <;> exact ⟨by omega, by omega⟩
        have hB : Num' (inA i y 1) := by unfold inA; split <;> exact ⟨by omega, by omega⟩
        obtain ⟨po, eo⟩ := fxOrder_ok (a := -g) (b := inA i y 1) (c := inA i x (-1)) (d := h - g) ⟨by omega, by omega⟩ hB hA ⟨by omega, by omega⟩
        rw [eo]
        have hor : igt (ordZ (-g * inA i y 1) (inA i x (-1) * (h - g))) 0 = true ↔ (i < 0 ∨ 0 < ordZ (-g * y) (x * (h - g))) := by
          rw [igt_t]
          unfold inA
          by_cases hi : i < 0
          · rw [if_pos hi, if_pos hi, ordZ_g (by omega)]
            exact ⟨fun _ => .inl hi, fun _ => by omega⟩
          · rw [if_neg hi, if_neg hi]
            exact ⟨fun q => .inr q, fun q => q.resolve_left hi⟩
        refine ⟨po, cond_intro (fun he => ?_) (fun he => ?_)⟩
        · rw [if_pos (hor.1 he)] at nx
          obtain ⟨pr, _⟩ := Ratio_pk (a := g) (b := g - h) ⟨by omega, by omega⟩ ⟨by omega, by omega⟩
          refine ⟨pr, pn.1, trivial, ?_⟩
          have rr := rcs _ _ _ _ _ nx
          unfold inA at rr
          rw [Int.toNat_natCast] at rr
          simp only [if_neg (show ¬ ((j : Int) < 0) by omega), show decide (0 <= (j : Int)) = true from by simp, cond_true, Int.neg_neg, Int.neg_sub] at rr
          exact rr
        · have : ¬ (i < 0 ∨ 0 < ordZ (-g * y) (x * (h - g))) := fun q => by rw [hor.2 q] at he; cases he
          rw [if_neg this] at nx
          exact rcs _ _ _ _ _ nx
    · rw [ilt_f] at hc
      rw [if_neg (by omega)] at nx
      rw [ilt_f.2 hc, cond_false]
      refine cond_intro (fun hd => ?_) (fun hd => ?_)
      · rw [ilt_t] at hd
        obtain ⟨po, eo⟩ := fxOrder_ok (a := c) (b := g - h) (c := g) (d := d) ⟨by omega, by omega⟩ ⟨by omega, by omega⟩ ⟨by omega, by omega⟩ ⟨by omega, by omega⟩
        rw [eo]
        refine ⟨po, cond_intro (fun he => ?_) (fun he => ?_)⟩
        · rw [igt_t] at he
          have : ordZ (g * d) (c * (g - h)) < 0 := by
            rcases Int.lt_trichotomy (c * (g - h)) (g * d) with q | q | q
            · rw [ordZ_l q] at he; omega
            · rw [ordZ_e q] at he; omega
            · rw [ordZ_l q]; omega
          rw [if_pos ⟨hd, this⟩] at nx
          exact rcs _ _ _ _ _ nx
        · rw [igt_f] at he
          have : ¬ ordZ (g * d) (c * (g - h)) < 0 := by
            rcases Int.lt_trichotomy (c * (g - h)) (g * d) with q | q | q
            · rw [ordZ_g q]; omega
            · rw [ordZ_e q.symm]; omega
            · rw [ordZ_g q] at he; omega
          rw [if_neg (fun q => this q.2)] at nx
          exact rcs _ _ _ _ _ nx
      · rw [ilt_f] at hd
        rw [if_neg (by omega)] at nx
        exact rcs _ _ _ _ _ nx
theorem H_ae (gw : Nat) (gk gn : Nat -> Int) (gb gd gh gj : Int) {K0 : Bool -> Int -> Bool -> Int -> Bool -> Int -> Bool -> Prop} (h : P_ae gw gk gn gb gd gh gj) (hK : K0 (F_ae_0 gw gk gn gb gd gh gj) (F_ae_1 gw gk gn gb gd gh gj) (F_ae_2 gw gk gn gb gd gh gj) (F_ae_3 gw gk gn gb gd gh gj) (F_ae_4 gw gk gn gb gd gh gj) (F_ae_5 gw gk gn gb gd gh gj) (F_ae_6 gw gk gn gb gd gh gj)) : B_ae gw gk gn gb gd gh gj K0 (fun p0 p1 p2 p3 p4 p5 p6 p7 p8 p9 p10 y0 y1 => PP_ae_0 gw gk gn gb gd gh gj  /\ W_ae_0 gw gk gn gb gd gh gj  (NN_ae_0 gw gk gn gb gd gh gj ) 0 p0 p1 p2 p3 p4 p5 p6 p7 p8 p9 p10 y0 y1) := by
  unfold B_ae
  simp only [Ts_iff]
  have hP := h
  obtain ⟨⟨hn, hv⟩, hf, ht⟩ := h
  unfold F_ae_0 F_ae_1 F_ae_2 F_ae_3 F_ae_4 F_ae_5 F_ae_6 pmH castH at hK
  refine ⟨trivial, hn, ?_⟩
  refine W_pm_ok hP (fun i x y c d hs => ?_) (fun hs _ _ _ _ _ _ _ _ _ _ _ => ?_) gw 0 (-1) 0 1 1 1 (by omega) rfl
  · rw [hs] at hK
    simp only at hK
    have hst := castS_ok (B := 35184372088832) (by omega) (fun k hk => gT_in hk hv hf) (fun k hk => gT_in hk hv ht) (k := gw) (by omega) hs
    by_cases hi : i < 0
    · rw [show decide (0 <= i) = false by simp; omega]
      rw [if_pos (.inl hi)] at hK
      exact hK
    · rw [show decide (0 <= i) = true by simp; omega]
      unfold P_dg F_dg_0 inA
      simp only [if_neg hi, Bool.not_true, cond_false, cond_true]
      obtain ⟨po, eo⟩ := fxOrder_ok (a := x) (b := d) (c := c) (d := y) ⟨by omega, by omega⟩ ⟨by omega, by omega⟩ ⟨by omega, by omega⟩ ⟨by omega, by omega⟩
      rw [eo]
      refine ⟨po, cond_intro (fun he => ?_) (fun he => ?_)⟩
      · rw [igt_t] at he
        rw [if_pos (.inr he)] at hK
        exact hK
      · rw [igt_f] at he
        rw [if_neg (by omega)] at hK
        exact hK
  · rw [hs] at hK
    exact hK
def E_bg_0 (gb gh gd gj : Int) : Bool := (F_bq_0 2 (pushF 1 (fun _ => gb) gh) (pushF 1 (fun _ => gd) gj))
def E_bg_1 (cm ge gg gm : Int) (gq : Nat) (gu gv : Nat -> Int) (gb gd : Int) : Bool := (F_dm_0 (F_ar_1_0 cm ge gg gm gq gu gv) (F_ar_1_1 cm ge gg gm gq gu gv) (F_ar_1_2 cm ge gg gm gq gu gv) gb gd)
def E_bg_2 (cm ge gg gm : Int) (gq : Nat) (gu gv : Nat -> Int) (gb gd gh gj : Int) : Bool := (F_aa_0 (F_ar_1_0 cm ge gg gm gq gu gv) (F_ar_1_1 cm ge gg gm gq gu gv) (F_ar_1_2 cm ge gg gm gq gu gv) gb gd gh gj)
def E_bg_3 (cm ge gg gm : Int) (gq : Nat) (gu gv : Nat -> Int) (gb gd gh gj : Int) : Int := (F_aa_1 (F_ar_1_0 cm ge gg gm gq gu gv) (F_ar_1_1 cm ge gg gm gq gu gv) (F_ar_1_2 cm ge gg gm gq gu gv) gb gd gh gj)
def E_bg_4 (cm ge gg gm : Int) (gq : Nat) (gu gv : Nat -> Int) (gb gd gh gj : Int) : Bool := (F_aa_2 (F_ar_1_0 cm ge gg gm gq gu gv) (F_ar_1_1 cm ge gg gm gq gu gv) (F_ar_1_2 cm ge gg gm gq gu gv) gb gd gh gj)
def E_bg_5 (cm ge gg gm : Int) (gq : Nat) (gu gv : Nat -> Int) (gb gd gh gj : Int) : Int := (F_aa_3 (F_ar_1_0 cm ge gg gm gq gu gv) (F_ar_1_1 cm ge gg gm gq gu gv) (F_ar_1_2 cm ge gg gm gq gu gv) gb gd gh gj)
def E_bg_6 (cm ge gg gm : Int) (gq : Nat) (gu gv : Nat -> Int) (gb gd gh gj : Int) : Bool := (F_aa_4 (F_ar_1_0 cm ge gg gm gq gu gv) (F_ar_1_1 cm ge gg gm gq gu gv) (F_ar_1_2 cm ge gg gm gq gu gv) gb gd gh gj)
def E_bg_7 (cm ge gg gm : Int) (gq : Nat) (gu gv : Nat -> Int) (gb gd gh gj : Int) : Int := (F_aa_5 (F_ar_1_0 cm ge gg gm gq gu gv) (F_ar_1_1 cm ge gg gm gq gu gv) (F_ar_1_2 cm ge gg gm gq gu gv) gb gd gh gj)
def E_bg_8 (cm ge gg gm : Int) (gq : Nat) (gu gv : Nat -> Int) (gb gd gh gj : Int) : Bool := (F_aa_6 (F_ar_1_0 cm ge gg gm gq gu gv) (F_ar_1_1 cm ge gg gm gq gu gv) (F_ar_1_2 cm ge gg gm gq gu gv) gb gd gh gj)
def E_bg_9 (cm ge gg gm : Int) (gq : Nat) (gu gv : Nat -> Int) (gb gd : Int) : Bool := (F_ap_0 (F_ar_2_0 cm ge gg gm gq gu gv) (F_ar_2_1 cm ge gg gm gq gu gv) (F_ar_2_2 cm ge gg gm gq gu gv) gb gd)
def E_bg_10 (cm ge gg gm : Int) (gq : Nat) (gu gv : Nat -> Int) (gb gd gh gj : Int) : Bool := (F_ae_0 (F_ar_2_0 cm ge gg gm gq gu gv) (F_ar_2_1 cm ge gg gm gq gu gv) (F_ar_2_2 cm ge gg gm gq gu gv) gb gd gh gj)
def E_bg_11 (cm ge gg gm : Int) (gq : Nat) (gu gv : Nat -> Int) (gb gd gh gj : Int) : Int := (F_ae_1 (F_ar_2_0 cm ge gg gm gq gu gv) (F_ar_2_1 cm ge gg gm gq gu gv) (F_ar_2_2 cm ge gg gm gq gu gv) gb gd gh gj)
def E_bg_12 (cm ge gg gm : Int) (gq : Nat) (gu gv : Nat -> Int) (gb gd gh gj : Int) : Bool := (F_ae_2 (F_ar_2_0 cm ge gg gm gq gu gv) (F_ar_2_1 cm ge gg gm gq gu gv) (F_ar_2_2 cm ge gg gm gq gu gv) gb gd gh gj)
def E_bg_13 (cm ge gg gm : Int) (gq : Nat) (gu gv : Nat -> Int) (gb gd gh gj : Int) : Int := (F_ae_3 (F_ar_2_0 cm ge gg gm gq gu gv) (F_ar_2_1 cm ge gg gm gq gu gv) (F_ar_2_2 cm ge gg gm gq gu gv) gb gd gh gj)
def E_bg_14 (cm ge gg gm : Int) (gq : Nat) (gu gv : Nat -> Int) (gb gd gh gj : Int) : Bool := (F_ae_4 (F_ar_2_0 cm ge gg gm gq gu gv) (F_ar_2_1 cm ge gg gm gq gu gv) (F_ar_2_2 cm ge gg gm gq gu gv) gb gd gh gj)
def E_bg_15 (cm ge gg gm : Int) (gq : Nat) (gu gv : Nat -> Int) (gb gd gh gj : Int) : Int := (F_ae_5 (F_ar_2_0 cm ge gg gm gq gu gv) (F_ar_2_1 cm ge gg gm gq gu gv) (F_ar_2_2 cm ge gg gm gq gu gv) gb gd gh gj)
def E_bg_16 (cm ge gg gm : Int) (gq : Nat) (gu gv : Nat -> Int) (gb gd gh gj : Int) : Bool := (F_ae_6 (F_ar_2_0 cm ge gg gm gq gu gv) (F_ar_2_1 cm ge gg gm gq gu gv) (F_ar_2_2 cm ge gg gm gq gu gv) gb gd gh gj)
def B_bg (cm ge gg gm : Int) (gq : Nat) (gu gv : Nat -> Int) (gb gd gh gj : Int) (K0 : Bool -> Int -> Bool -> Int -> Bool -> Int -> Bool -> Prop)  : Prop := Ts 5 (((P_ar cm ge gg gm gq gu gv) /\ cond (C_ar_0 cm ge gg gm gq gu gv) (Ts 9 (K0 false 0 false 0 false 0 false)) (cond (C_ar_1 cm ge gg gm gq gu gv) (Ts 7 (((P_bq 2 (pushF 1 (fun _ => gb) gh) (pushF 1 (fun _ => gd) gj)) /\ Ts 3 (cond (!(E_bg_0 gb gh gd gj)) (Ts 3 (K0 false 0 false 0 false 0 false)) (Ts 2 (((P_dm (F_ar_1_0 cm ge gg gm gq gu gv) (F_ar_1_1 cm ge gg gm gq gu gv) (F_ar_1_2 cm ge gg gm gq gu gv) gb gd) /\ Ts 1 (cond (E_bg_1 cm ge gg gm gq gu gv gb gd) (Ts 3 (K0 true 0 false 0 false 0 false)) (Ts 3 (((P_aa (F_ar_1_0 cm ge gg gm gq gu gv) (F_ar_1_1 cm ge gg gm gq gu gv) (F_ar_1_2 cm ge gg gm gq gu gv) gb gd gh gj) /\ Ts 2 (K0 (E_bg_2 cm ge gg gm gq gu gv gb gd gh gj) (E_bg_3 cm ge gg gm gq gu gv gb gd gh gj) (E_bg_4 cm ge gg gm gq gu gv gb gd gh gj) (E_bg_5 cm ge gg gm gq gu gv gb gd gh gj) (E_bg_6 cm ge gg gm gq gu gv gb gd gh gj) (E_bg_7 cm ge gg gm gq gu gv gb gd gh gj) (E_bg_8 cm ge gg gm gq gu gv gb gd gh gj))))))))))))) (Ts 7 (((P_bq 2 (pushF 1 (fun _ => gb) gh) (pushF 1 (fun _ => gd) gj)) /\ Ts 3 (cond (!(E_bg_0 gb gh gd gj)) (Ts 3 (K0 false 0 false 0 false 0 false)) (Ts 2 (((P_ap (F_ar_2_0 cm ge gg gm gq gu gv) (F_ar_2_1 cm ge gg gm gq gu gv) (F_ar_2_2 cm ge gg gm gq gu gv) gb gd) /\ Ts 1 (cond (E_bg_9 cm ge gg gm gq gu gv gb gd) (Ts 3 (K0 true 0 false 0 false 0 false)) (Ts 3 (((P_ae (F_ar_2_0 cm ge gg gm gq gu gv) (F_ar_2_1 cm ge gg gm gq gu gv) (F_ar_2_2 cm ge gg gm gq gu gv) gb gd gh gj) /\ Ts 2 (K0 (E_bg_10 cm ge gg gm gq gu gv gb gd gh gj) (E_bg_11 cm ge gg gm gq gu gv gb gd gh gj) (E_bg_12 cm ge gg gm gq gu gv gb gd gh gj) (E_bg_13 cm ge gg gm gq gu gv gb gd gh gj) (E_bg_14 cm ge gg gm gq gu gv gb gd gh gj) (E_bg_15 cm ge gg gm gq gu gv gb gd gh gj) (E_bg_16 cm ge gg gm gq gu gv gb gd gh gj))))))))))))))))
def P_bg (cm ge gg gm : Int) (gq : Nat) (gu gv : Nat -> Int) (gb gd gh gj : Int) : Prop := ((P_ar cm ge gg gm gq gu gv) /\ (cond (C_ar_0 cm ge gg gm gq gu gv) True (cond (C_ar_1 cm ge gg gm gq gu gv) ((P_bq 2 (pushF 1 (fun _ => gb) gh) (pushF 1 (fun _ => gd) gj)) /\ (cond (!(E_bg_0 gb gh gd gj)) True (cond (E_bg_1 cm ge gg gm gq gu gv gb gd) True (P_aa (F_ar_1_0 cm ge gg gm gq gu gv) (F_ar_1_1 cm ge gg gm gq gu gv) (F_ar_1_2 cm ge gg gm gq gu gv) gb gd gh gj)))) ((P_bq 2 (pushF 1 (fun _ => gb) gh) (pushF 1 (fun _ => gd) gj)) /\ (cond (!(E_bg_0 gb gh gd gj)) True ((P_ap (F_ar_2_0 cm ge gg gm gq gu gv) (F_ar_2_1 cm ge gg gm gq gu gv) (F_ar_2_2 cm ge gg gm gq gu gv) gb gd) /\ (cond (E_bg_9 cm ge gg gm gq gu gv gb gd) True (P_ae (F_ar_2_0 cm ge gg gm gq gu gv) (F_ar_2_1 cm ge gg gm gq gu gv) (F_ar_2_2 cm ge gg gm gq gu gv) gb gd gh gj))))))))
def F_bg_0 (cm ge gg gm : Int) (gq : Nat) (gu gv : Nat -> Int) (gb gd gh gj : Int) : Bool := (cond (C_ar_0 cm ge gg gm gq gu gv) false (cond (C_ar_1 cm ge gg gm gq gu gv) (cond (!(E_bg_0 gb gh gd gj)) false (cond (E_bg_1 cm ge gg gm gq gu gv gb gd) true (E_bg_2 cm ge gg gm gq gu gv gb gd gh gj))) (cond (!(E_bg_0 gb gh gd gj)) false (cond (E_bg_9 cm ge gg gm gq gu gv gb gd) true (E_bg_10 cm ge gg gm gq gu gv gb gd gh gj)))))
def F_bg_1 (cm ge gg gm : Int) (gq : Nat) (gu gv : Nat -> Int) (gb gd gh gj : Int) : Int := (cond (C_ar_0 cm ge gg gm gq gu gv) 0 (cond (C_ar_1 cm ge gg gm gq gu gv) (cond (!(E_bg_0 gb gh gd gj)) 0 (cond (E_bg_1 cm ge gg gm gq gu gv gb gd) 0 (E_bg_3 cm ge gg gm gq gu gv gb gd gh gj))) (cond (!(E_bg_0 gb gh gd gj)) 0 (cond (E_bg_9 cm ge gg gm gq gu gv gb gd) 0 (E_bg_11 cm ge gg gm gq gu gv gb gd gh gj)))))
def F_bg_2 (cm ge gg gm : Int) (gq : Nat) (gu gv : Nat -> Int) (gb gd gh gj : Int) : Bool := (cond (C_ar_0 cm ge gg gm gq gu gv) false (cond (C_ar_1 cm ge gg gm gq gu gv) (cond (!(E_bg_0 gb gh gd gj)) false (cond (E_bg_1 cm ge gg gm gq gu gv gb gd) false (E_bg_4 cm ge gg gm gq gu gv gb gd gh gj))) (cond (!(E_bg_0 gb gh gd gj)) false (cond (E_bg_9 cm ge gg gm gq gu gv gb gd) false (E_bg_12 cm ge gg gm gq gu gv gb gd gh gj)))))
def F_bg_3 (cm ge gg gm : Int) (gq : Nat) (gu gv : Nat -> Int) (gb gd gh gj : Int) : Int := (cond (C_ar_0 cm ge gg gm gq gu gv) 0 (cond (C_ar_1 cm ge gg gm gq gu gv) (cond (!(E_bg_0 gb gh gd gj)) 0 (cond (E_bg_1 cm ge gg gm gq gu gv gb gd) 0 (E_bg_5 cm ge gg gm gq gu gv gb gd gh gj))) (cond (!(E_bg_0 gb gh gd gj)) 0 (cond (E_bg_9 cm ge gg gm gq gu gv gb gd) 0 (E_bg_13 cm ge gg gm gq gu gv gb gd gh gj)))))
def F_bg_4 (cm ge gg gm : Int) (gq : Nat) (gu gv : Nat -> Int) (gb gd gh gj : Int) : Bool := (cond (C_ar_0 cm ge gg gm gq gu gv) false (cond (C_ar_1 cm ge gg gm gq gu gv) (cond (!(E_bg_0 gb gh gd gj)) false (cond (E_bg_1 cm ge gg gm gq gu gv gb gd) false (E_bg_6 cm ge gg gm gq gu gv gb gd gh gj))) (cond (!(E_bg_0 gb gh gd gj)) false (cond (E_bg_9 cm ge gg gm gq gu gv gb gd) false (E_bg_14 cm ge gg gm gq gu gv gb gd gh gj)))))
def F_bg_5 (cm ge gg gm : Int) (gq : Nat) (gu gv : Nat -> Int) (gb gd gh gj : Int) : Int := (cond (C_ar_0 cm ge gg gm gq gu gv) 0 (cond (C_ar_1 cm ge gg gm gq gu gv) (cond (!(E_bg_0 gb gh gd gj)) 0 (cond (E_bg_1 cm ge gg gm gq gu gv gb gd) 0 (E_bg_7 cm ge gg gm gq gu gv gb gd gh gj))) (cond (!(E_bg_0 gb gh gd gj)) 0 (cond (E_bg_9 cm ge gg gm gq gu gv gb gd) 0 (E_bg_15 cm ge gg gm gq gu gv gb gd gh gj)))))
def F_bg_6 (cm ge gg gm : Int) (gq : Nat) (gu gv : Nat -> Int) (gb gd gh gj : Int) : Bool := (cond (C_ar_0 cm ge gg gm gq gu gv) false (cond (C_ar_1 cm ge gg gm gq gu gv) (cond (!(E_bg_0 gb gh gd gj)) false (cond (E_bg_1 cm ge gg gm gq gu gv gb gd) false (E_bg_8 cm ge gg gm gq gu gv gb gd gh gj))) (cond (!(E_bg_0 gb gh gd gj)) false (cond (E_bg_9 cm ge gg gm gq gu gv gb gd) false (E_bg_16 cm ge gg gm gq gu gv gb gd gh gj)))))
theorem H_bg (cm ge gg gm : Int) (gq : Nat) (gu gv : Nat -> Int) (gb gd gh gj : Int) {K0 : Bool -> Int -> Bool -> Int -> Bool -> Int -> Bool -> Prop} (h : P_bg cm ge gg gm gq gu gv gb gd gh gj) (hK : K0 (F_bg_0 cm ge gg gm gq gu gv gb gd gh gj) (F_bg_1 cm ge gg gm gq gu gv gb gd gh gj) (F_bg_2 cm ge gg gm gq gu gv gb gd gh gj) (F_bg_3 cm ge gg gm gq gu gv gb gd gh gj) (F_bg_4 cm ge gg gm gq gu gv gb gd gh gj) (F_bg_5 cm ge gg gm gq gu gv gb gd gh gj) (F_bg_6 cm ge gg gm gq gu gv gb gd gh gj)) : B_bg cm ge gg gm gq gu gv gb gd gh gj K0  := by
 unfold B_bg P_bg F_bg_0 F_bg_1 F_bg_2 F_bg_3 F_bg_4 F_bg_5 F_bg_6 at *
 simp only [Ts_iff, true_and]; try simp only [Ts_iff, true_and] at h
 repeat' first | exact hK | (refine cond_intro (fun c => ?_) (fun c => ?_) <;> try simp only [c, cond_true, cond_false] at h hK ⊢) | refine ⟨rfl, ?_⟩ | refine ⟨trivial, ?_⟩ | refine ⟨by decide, ?_⟩ | (refine ⟨h.1, ?_⟩; replace h := h.2) | refine ⟨h, ?_⟩
def B_dh (cm ga : Int) (K0 : Bool -> Prop)  : Prop := Ts 6 (cond (ige cm (-2097152)) (Ts 5 (cond (ile cm 2097152) (Ts 5 (cond (ige ga (-2097152)) (Ts 5 (K0 (ile ga 2097152))) (Ts 2 (K0 false)))) (Ts 4 (K0 false)))) (Ts 6 (K0 false)))
def P_dh (cm ga : Int) : Prop := True
def F_dh_0 (cm ga : Int) : Bool := (cond (ige cm (-2097152)) (cond (ile cm 2097152) (cond (ige ga (-2097152)) (ile ga 2097152) false) false) false)
theorem H_dh (cm ga : Int) {K0 : Bool -> Prop} (h : P_dh cm ga) (hK : K0 (F_dh_0 cm ga)) : B_dh cm ga K0  := by
 unfold B_dh P_dh F_dh_0 at *
 simp only [Ts_iff, true_and]
 repeat' first | exact hK | (refine cond_intro (fun c => ?_) (fun c => ?_) <;> try simp only [c, cond_true, cond_false] at h hK ⊢)
def B_du (cm ga gm im : Int) (K0 : Int -> Prop)  : Prop := Ts 7 (((P_dh cm ga) /\ Ts 2 (cond (!(F_dh_0 cm ga)) (Ts 2 (K0 3)) (Ts 5 (((P_dh gm im) /\ Ts 2 (cond (!(F_dh_0 gm im)) (Ts 1 (K0 3)) (Ts 6 (cond (igt cm gm) (Ts 2 (K0 5)) (Ts 6 (cond (igt ga im) (Ts 1 (K0 5)) (Ts 1 (K0 0)))))))))))))
def P_du (cm ga gm im : Int) : Prop := True
def F_du_0 (cm ga gm im : Int) : Int := (cond (!(F_dh_0 cm ga)) 3 (cond (!(F_dh_0 gm im)) 3 (cond (igt cm gm) 5 (cond (igt ga im) 5 0))))
theorem H_du (cm ga gm im : Int) {K0 : Int -> Prop} (h : P_du cm ga gm im) (hK : K0 (F_du_0 cm ga gm im)) : B_du cm ga gm im K0  := by
 unfold B_du P_du F_du_0 at *
 simp only [Ts_iff, true_and]
 repeat' first | exact hK | (refine cond_intro (fun c => ?_) (fun c => ?_) <;> try simp only [c, cond_true, cond_false] at h hK ⊢) | refine ⟨rfl, ?_⟩ | refine ⟨trivial, ?_⟩ | refine ⟨by decide, ?_⟩ | (refine ⟨h.1, ?_⟩; replace h := h.2) | refine ⟨h, ?_⟩
def B_cd (cm ga a1 : Int) (K0 : Int -> Int -> Int -> Int -> Prop)  : Prop := Ts 21 (K0 (isub .i64 cm a1) (isub .i64 ga a1) (iadd .i64 cm a1) (iadd .i64 ga a1))
def P_cd (cm ga a1 : Int) : Prop := True
def F_cd_0 (cm ga a1 : Int) : Int := (isub .i64 cm a1)
def F_cd_1 (cm ga a1 : Int) : Int := (isub .i64 ga a1)
def F_cd_2 (cm ga a1 : Int) : Int := (iadd .i64 cm a1)
def F_cd_3 (cm ga a1 : Int) : Int := (iadd .i64 ga a1)
theorem H_cd (cm ga a1 : Int) {K0 : Int -> Int -> Int -> Int -> Prop} (h : P_cd cm ga a1) (hK : K0 (F_cd_0 cm ga a1) (F_cd_1 cm ga a1) (F_cd_2 cm ga a1) (F_cd_3 cm ga a1)) : B_cd cm ga a1 K0  := by
 unfold B_cd P_cd F_cd_0 F_cd_1 F_cd_2 F_cd_3 at *
 exact Ts_iff.2 hK
def B_fb (cm ga gb gd : Int) (K0 : Int -> Prop)  : Prop := Ts 15 (K0 (isub .i64 (imul .i64 cm gd) (imul .i64 ga gb)))
def P_fb (cm ga gb gd : Int) : Prop := True
def F_fb_0 (cm ga gb gd : Int) : Int := (isub .i64 (imul .i64 cm gd) (imul .i64 ga gb))
theorem H_fb (cm ga gb gd : Int) {K0 : Int -> Prop} (h : P_fb cm ga gb gd) (hK : K0 (F_fb_0 cm ga gb gd)) : B_fb cm ga gb gd K0  := by
 unfold B_fb P_fb F_fb_0 at *
 exact Ts_iff.2 hK
def B_a8 (cm ga gb gd : Int) (K0 : Int -> Int -> Prop)  : Prop := Ts 16 (K0 (isub .i64 cm gb) (isub .i64 ga gd))
def P_a8 (cm ga gb gd : Int) : Prop := True
def F_a8_0 (cm ga gb gd : Int) : Int := (isub .i64 cm gb)
def F_a8_1 (cm ga gb gd : Int) : Int := (isub .i64 ga gd)
theorem H_a8 (cm ga gb gd : Int) {K0 : Int -> Int -> Prop} (h : P_a8 cm ga gb gd) (hK : K0 (F_a8_0 cm ga gb gd) (F_a8_1 cm ga gb gd)) : B_a8 cm ga gb gd K0  := by
 unfold B_a8 P_a8 F_a8_0 F_a8_1 at *
 exact Ts_iff.2 hK
def B_fk (cm ga gb gd gh gj : Int) (K0 : Int -> Prop)  : Prop := Ts 5 (((P_dh cm ga) /\ Ts 2 (cond (!(F_dh_0 cm ga)) (Ts 4 (K0 0)) (Ts 1 (((P_dh gb gd) /\ Ts 3 (cond (!(F_dh_0 gb gd)) (Ts 2 (K0 0)) (Ts 1 (((P_dh gh gj) /\ Ts 2 (cond (!(F_dh_0 gh gj)) (Ts 1 (K0 0)) (Ts 2 (((P_a8 gb gd cm ga) /\ Ts 2 (((P_a8 gh gj cm ga) /\ ((P_fb (F_a8_0 gb gd cm ga) (F_a8_1 gb gd cm ga) (F_a8_0 gh gj cm ga) (F_a8_1 gh gj cm ga)) /\ Ts 1 ((true = true /\ Ts 2 (cond (igt (F_fb_0 (F_a8_0 gb gd cm ga) (F_a8_1 gb gd cm ga) (F_a8_0 gh gj cm ga) (F_a8_1 gh gj cm ga)) 0) (Ts 1 (K0 1)) (Ts 2 (cond (ilt (F_fb_0 (F_a8_0 gb gd cm ga) (F_a8_1 gb gd cm ga) (F_a8_0 gh gj cm ga) (F_a8_1 gh gj cm ga)) 0) (Ts 1 (K0 (-1))) (Ts 1 (K0 0))))))))))))))))))))))))
def P_fk (cm ga gb gd gh gj : Int) : Prop := True
def F_fk_0 (cm ga gb gd gh gj : Int) : Int := (cond (!(F_dh_0 cm ga)) 0 (cond (!(F_dh_0 gb gd)) 0 (cond (!(F_dh_0 gh gj)) 0 (cond (igt (F_fb_0 (F_a8_0 gb gd cm ga) (F_a8_1 gb gd cm ga) (F_a8_0 gh gj cm ga) (F_a8_1 gh gj cm ga)) 0) 1 (cond (ilt (F_fb_0 (F_a8_0 gb gd cm ga) (F_a8_1 gb gd cm ga) (F_a8_0 gh gj cm ga) (F_a8_1 gh gj cm ga)) 0) (-1) 0)))))
theorem H_fk (cm ga gb gd gh gj : Int) {K0 : Int -> Prop} (h : P_fk cm ga gb gd gh gj) (hK : K0 (F_fk_0 cm ga gb gd gh gj)) : B_fk cm ga gb gd gh gj K0  := by
 unfold B_fk P_fk F_fk_0 at *
 simp only [Ts_iff, true_and]
 repeat' first | exact hK | (refine cond_intro (fun c => ?_) (fun c => ?_) <;> try simp only [c, cond_true, cond_false] at h hK ⊢) | refine ⟨rfl, ?_⟩ | refine ⟨trivial, ?_⟩ | refine ⟨by decide, ?_⟩ | (refine ⟨h.1, ?_⟩; replace h := h.2) | refine ⟨h, ?_⟩
def B_aw_0_0 (gp : Nat) (cm ga : Nat -> Int) (gz i8 : Int) (c x0 x1 : Int -> Prop)  : Prop := Ts 4 (cond (ilt i8 ((gp : Nat) : Int)) (Ts 2 (((0 <= i8 /\ i8 < ((gp : Nat) : Int)) /\ Ts 1 (((P_dh (cm (Int.toNat i8)) (ga (Int.toNat i8))) /\ Ts 2 (cond (!(F_dh_0 (cm (Int.toNat i8)) (ga (Int.toNat i8)))) (Ts 1 ((true = true /\ Ts 1 (x1 i8)))) (Ts 4 (cond (ine i8 gz) (Ts 5 (cond (ine i8 (irem .i64 (iadd .i64 gz 1) ((gp : Nat) : Int))) (Ts 2 (((0 <= gz /\ gz < ((gp : Nat) : Int)) /\ Ts 3 (((0 <= (irem .i64 (iadd .i64 gz 1) ((gp : Nat) : Int)) /\ (irem .i64 (iadd .i64 gz 1) ((gp : Nat) : Int)) < ((gp : Nat) : Int)) /\ Ts 3 (((0 <= i8 /\ i8 < ((gp : Nat) : Int)) /\ Ts 1 (((P_fk (cm (Int.toNat gz)) (ga (Int.toNat gz)) (cm (Int.toNat (irem .i64 (iadd .i64 gz 1) ((gp : Nat) : Int)))) (ga (Int.toNat (irem .i64 (iadd .i64 gz 1) ((gp : Nat) : Int)))) (cm (Int.toNat i8)) (ga (Int.toNat i8))) /\ Ts 3 ((true = true /\ cond (ile (F_fk_0 (cm (Int.toNat gz)) (ga (Int.toNat gz)) (cm (Int.toNat (irem .i64 (iadd .i64 gz 1) ((gp : Nat) : Int)))) (ga (Int.toNat (irem .i64 (iadd .i64 gz 1) ((gp : Nat) : Int)))) (cm (Int.toNat i8)) (ga (Int.toNat i8))) 0) (Ts 1 (x1 i8)) (Ts 3 (c (iadd .i64 i8 1)))))))))))))) (Ts 2 ((true = true /\ Ts 3 (c (iadd .i64 i8 1))))))) (Ts 4 ((true = true /\ Ts 3 (c (iadd .i64 i8 1))))))))))))) (x0 i8))
def W_aw_0_0 (gp : Nat) (cm ga : Nat -> Int) (gz : Int) : Nat -> Int -> (Int -> Prop) -> (Int -> Prop) -> Prop
  | 0, _, _, _ => False
  | f + 1, w0, x0, x1 => B_aw_0_0 gp cm ga gz w0 (fun u0 => W_aw_0_0 gp cm ga gz f u0 x0 x1) x0 x1 
theorem BM_aw_0_0 (gp : Nat) (cm ga : Nat -> Int) (gz i8 : Int) {c c' : Int -> Prop} {x0 y0 : Int -> Prop} {x1 y1 : Int -> Prop} (hc : ∀ w0, c w0 -> c' w0) (h0 : ∀ o0, x0 o0 -> y0 o0) (h1 : ∀ o0, x1 o0 -> y1 o0) : B_aw_0_0 gp cm ga gz i8 c x0 x1  -> B_aw_0_0 gp cm ga gz i8 c' y0 y1  := by
  unfold B_aw_0_0
  repeat' first
    | exact hc _
    | exact h0 _
    | exact h1 _
    | refine Ts_imp ?_
    | refine cond_imp ?_ ?_
    | refine and_imp' ?_
theorem WM_aw_0_0 (gp : Nat) (cm ga : Nat -> Int) (gz : Int) {x0 y0 : Int -> Prop} {x1 y1 : Int -> Prop} (h0 : ∀ o0, x0 o0 -> y0 o0) (h1 : ∀ o0, x1 o0 -> y1 o0) : ∀ (f : Nat) (i8 : Int), W_aw_0_0 gp cm ga gz f i8 x0 x1 -> W_aw_0_0 gp cm ga gz f i8 y0 y1
  | 0, w0 => fun h => h
  | f + 1, w0 => BM_aw_0_0 gp cm ga gz w0 (fun u0 => WM_aw_0_0 gp cm ga gz h0 h1 f u0) h0 h1
def B_aw_0 (gp : Nat) (cm ga : Nat -> Int) (gz : Int) (c x0 x1 : Int -> Prop) (l0 : Int -> (Int -> Prop) -> (Int -> Prop) -> Prop) : Prop := Ts 4 (cond (ilt gz ((gp : Nat) : Int)) (Ts 4 (((((gp : Nat) : Int) ≠ 0) /\ Ts 2 ((l0 0 (fun l6 => Ts 3 (c (iadd .i64 gz 1))) (fun l6 => x1 gz)))))) (x0 gz))
def W_aw_0 (gp : Nat) (cm ga : Nat -> Int) : Nat -> Int -> (Int -> Prop) -> (Int -> Prop) -> Prop
  | 0, _, _, _ => False
  | f + 1, w0, x0, x1 => B_aw_0 gp cm ga w0 (fun u0 => W_aw_0 gp cm ga f u0 x0 x1) x0 x1 (W_aw_0_0 gp cm ga w0 fuel)
theorem BM_aw_0 (gp : Nat) (cm ga : Nat -> Int) (gz : Int) {c c' : Int -> Prop} {x0 y0 : Int -> Prop} {x1 y1 : Int -> Prop} (hc : ∀ w0, c w0 -> c' w0) (h0 : ∀ o0, x0 o0 -> y0 o0) (h1 : ∀ o0, x1 o0 -> y1 o0) : B_aw_0 gp cm ga gz c x0 x1 (W_aw_0_0 gp cm ga gz fuel) -> B_aw_0 gp cm ga gz c' y0 y1 (W_aw_0_0 gp cm ga gz fuel) := by
  unfold B_aw_0
  repeat' first
    | exact hc _
    | exact h0 _
    | exact h1 _
    | refine Ts_imp ?_
    | refine cond_imp ?_ ?_
    | refine and_imp' ?_
    | refine WM_aw_0_0 _ _ _ _  (fun _ => ?_) (fun _ => ?_) _ _ 
theorem WM_aw_0 (gp : Nat) (cm ga : Nat -> Int) {x0 y0 : Int -> Prop} {x1 y1 : Int -> Prop} (h0 : ∀ o0, x0 o0 -> y0 o0) (h1 : ∀ o0, x1 o0 -> y1 o0) : ∀ (f : Nat) (gz : Int), W_aw_0 gp cm ga f gz x0 x1 -> W_aw_0 gp cm ga f gz y0 y1
  | 0, w0 => fun h => h
  | f + 1, w0 => BM_aw_0 gp cm ga w0 (fun u0 => WM_aw_0 gp cm ga h0 h1 f u0) h0 h1
def B_aw (gp : Nat) (cm ga : Nat -> Int) (K0 : Bool -> Prop) (l0 : Int -> (Int -> Prop) -> (Int -> Prop) -> Prop) : Prop := Ts 4 (cond (ilt ((gp : Nat) : Int) 3) (Ts 1 (K0 false)) (Ts 1 ((l0 0 (fun kc => Ts 1 (K0 true)) (fun kc => K0 false)))))
theorem valid_eq (a b : Int) : F_dh_0 a b = spotOK a b := by
  rw [Bool.eq_iff_iff, spotOK_iff]
  unfold F_dh_0
  have tt : ∀ {b x y : Bool}, (cond b x y = true) ↔ ((b = true /\ x = true) ∨ (b = false /\ y = true)) := fun {b x y} => by cases b <;> simp
  simp only [tt, ige_t, ile_t, ige_f, ile_f, Bool.false_eq_true, and_false, or_false]
  all_goals omega
theorem side_r3 {x0 y0 x1 y1 x2 y2 : Int} (h0 : spotOK x0 y0 = true) (h1 : spotOK x1 y1 = true) (h2 : spotOK x2 y2 = true) : F_fk_0 x0 y0 x1 y1 x2 y2 = (if 0 < (x1 - x0) * (y2 - y0) - (y1 - y0) * (x2 - x0) then 1 else if (x1 - x0) * (y2 - y0) - (y1 - y0) * (x2 - x0) < 0 then -1 else 0) := by
  unfold F_fk_0
  rw [valid_eq, valid_eq, valid_eq, h0, h1, h2]
  have e : F_fb_0 (F_a8_0 x1 y1 x0 y0) (F_a8_1 x1 y1 x0 y0) (F_a8_0 x2 y2 x0 y0) (F_a8_1 x2 y2 x0 y0) = (x1 - x0) * (y2 - y0) - (y1 - y0) * (x2 - x0) := by
    rw [spotOK_iff] at h0 h1 h2
    unfold F_fb_0 F_a8_0 F_a8_1
    rw [isub64 (a := x1) (by omega) (by omega), isub64 (a := y2) (by omega) (by omega), isub64 (a := y1) (by omega) (by omega), isub64 (a := x2) (by omega) (by omega)]
    have m1 := mul_in (p := x1 - x0) (q := y2 - y0) (B := 4194304) (by omega) (by omega) (by omega) (by omega)
    have m2 := mul_in (p := y1 - y0) (q := x2 - x0) (B := 4194304) (by omega) (by omega) (by omega) (by omega)
    rw [imul64 (a := x1 - x0) (by omega) (by omega), imul64 (a := y1 - y0) (by omega) (by omega), isub64 (by omega) (by omega)]
  rw [e]
  simp only [Bool.not_true, cond_false]
  cases hg : igt ((x1 - x0) * (y2 - y0) - (y1 - y0) * (x2 - x0)) 0 with
  | true => rw [igt_t] at hg; rw [if_pos hg]; rfl
  | false =>
    rw [igt_f] at hg
    rw [if_neg (by omega), cond_false]
    cases hl : ilt ((x1 - x0) * (y2 - y0) - (y1 - y0) * (x2 - x0)) 0 with
    | true => rw [ilt_t] at hl; rw [if_pos hl]; rfl
    | false => rw [ilt_f] at hl; rw [if_neg (by omega)]; rfl
theorem side_r3_bad {x0 y0 x1 y1 x2 y2 : Int} (h : ¬ (spotOK x0 y0 = true /\ spotOK x1 y1 = true /\ spotOK x2 y2 = true)) : F_fk_0 x0 y0 x1 y1 x2 y2 = 0 := by
  unfold F_fk_0
  rw [valid_eq, valid_eq, valid_eq]
  cases h0 : spotOK x0 y0 with
  | false => rfl
  | true =>
    cases h1 : spotOK x1 y1 with
    | false => rfl
    | true =>
      cases h2 : spotOK x2 y2 with
      | false => rfl
      | true => exact absurd ⟨h0, h1, h2⟩ h
theorem side_pos_iff {x0 y0 x1 y1 x2 y2 : Int} : 0 < F_fk_0 x0 y0 x1 y1 x2 y2 ↔ (spotOK x0 y0 = true /\ spotOK x1 y1 = true /\ spotOK x2 y2 = true) /\ 0 < (x1 - x0) * (y2 - y0) - (y1 - y0) * (x2 - x0) := by
  by_cases h : spotOK x0 y0 = true /\ spotOK x1 y1 = true /\ spotOK x2 y2 = true
  · rw [side_r3 h.1 h.2.1 h.2.2]
    constructor
    · intro hh
      refine ⟨h, ?_⟩
      split at hh
      · assumption
      · split at hh <;> omega
    · intro hh; rw [if_pos hh.2]; omega
  · rw [side_r3_bad h]
    exact ⟨fun hh => by omega, fun hh => absurd hh.1 h⟩
def P_aw (n : Nat) (a b : Nat -> Int) : Prop := n <= 1000000
def F_aw_0 (n : Nat) (a b : Nat -> Int) : Bool := convF n a b
def ok3 (n : Nat) (a b : Nat -> Int) (i j : Nat) : Prop := spotOK (a j) (b j) = true /\ (j ≠ i -> j ≠ nxE n i -> 0 < F_fk_0 (a i) (b i) (a (nxE n i)) (b (nxE n i)) (a j) (b j))
theorem ok3_of {n : Nat} {a b : Nat -> Int} (h : convP n a b) {i j : Nat} (hi : i < n) (hj : j < n) : ok3 n a b i j :=
  ⟨h.1 j hj, fun h1 h2 => side_pos_iff.2 ⟨⟨h.1 i hi, h.1 _ (nxE_lt hi), h.1 j hj⟩, h.2 i hi j hj h1 h2⟩⟩
theorem convP_of {n : Nat} {a b : Nat -> Int} (h : ∀ i j, i < n -> j < n -> ok3 n a b i j) (hn : 0 < n) : convP n a b :=
  ⟨fun k hk => (h 0 k hn hk).1, fun i hi j hj h1 h2 => (side_pos_iff.1 ((h i j hi hj).2 h1 h2)).2⟩
theorem W_aw_0_0_ok {n : Nat} {a b : Nat -> Int} (hn : n <= 1000000) {i : Nat} (hi : i < n) {x0 x1 : Int -> Prop} : ∀ (f j : Nat), j <= n -> n < f + j -> ((∀ j', j <= j' -> j' < n -> ok3 n a b i j') -> ∀ v, x0 v) -> (∀ j', j' < n -> ¬ ok3 n a b i j' -> ∀ v, x1 v) -> W_aw_0_0 n a b i f j x0 x1
  | 0, j, h1, h2, _, _ => by omega
  | f + 1, j, h1, h2, h3, h4 => by
    show B_aw_0_0 n a b i j _ _ _
    unfold B_aw_0_0
    simp only [Ts_iff, true_and, Int.toNat_natCast, Nat.zero_add]
    rw [nx_rem hi hn, Int.toNat_natCast, valid_eq]
    refine cond_intro (fun hc => ?_) (fun hc => ?_)
    · rw [ilt_t] at hc
      have hj : j < n := by omega
      have hnx := nxE_lt hi
      have next : ok3 n a b i j -> W_aw_0_0 n a b i f (iadd .i64 (j : Int) 1) x0 x1 := fun hh => by
        rw [iadd64 (by omega) (by omega)]
        refine W_aw_0_0_ok hn hi f (j + 1) (by omega) (by omega) (fun h => h3 fun j' hj1 hj2 => ?_) h4
        by_cases hk : j' = j
        · subst hk; exact hh
        · exact h j' (by omega) hj2
      refine ⟨⟨by omega, hc⟩, trivial, cond_intro (fun he => ?_) (fun he => ?_)⟩
      · refine h4 j hj (fun hk => ?_) _
        rw [hk.1] at he
        cases he
      · have hvj : spotOK (a j) (b j) = true := by
          cases hh : spotOK (a j) (b j) with
          | true => rfl
          | false => rw [hh] at he; cases he
        refine cond_intro (fun hf => ?_) (fun hf => ?_)
        · rw [ine_t] at hf
          refine cond_intro (fun hg => ?_) (fun hg => ?_)
          · rw [ine_t] at hg
            refine ⟨⟨by omega, by omega⟩, ⟨by omega, by omega⟩, ⟨by omega, by omega⟩, trivial, cond_intro (fun hs => ?_) (fun hs => ?_)⟩
            · rw [ile_t] at hs
              refine h4 j hj (fun hk => ?_) _
              have := hk.2 (by omega) (by omega)
              omega
            · rw [ile_f] at hs
              exact next ⟨hvj, fun _ _ => hs⟩
          · rw [ine_f] at hg
            exact next ⟨hvj, fun _ h => absurd (by omega) h⟩
        · rw [ine_f] at hf
          exact next ⟨hvj, fun h _ => absurd (by omega) h⟩
    · exact h3 (fun j' hj1 hj2 => by rw [ilt_f] at hc; omega) _
theorem W_aw_0_ok {n : Nat} {a b : Nat -> Int} (hn : n <= 1000000) {x0 x1 : Int -> Prop} : ∀ (f i : Nat), i <= n -> n < f + i -> ((∀ i' j, i <= i' -> i' < n -> j < n -> ok3 n a b i' j) -> ∀ v, x0 v) -> (∀ i' j, i' < n -> j < n -> ¬ ok3 n a b i' j -> ∀ v, x1 v) -> W_aw_0 n a b f i x0 x1
  | 0, i, h1, h2, _, _ => by omega
  | f + 1, i, h1, h2, h3, h4 => by
    show B_aw_0 n a b i _ _ _ _
    unfold B_aw_0
    simp only [Ts_iff]
    refine cond_intro (fun hc => ?_) (fun hc => ?_)
    · rw [ilt_t] at hc
      have hi : i < n := by omega
      refine ⟨by omega, ?_⟩
      refine W_aw_0_0_ok hn hi fuel 0 (Nat.zero_le _) (by rw [fuel_eq]; omega) (fun hh v => ?_) (fun j hj hr v => h4 i j hi hj hr _)
      rw [iadd64 (by omega) (by omega)]
      refine W_aw_0_ok hn f (i + 1) (by omega) (by omega) (fun h => h3 fun i' j hi1 hi2 hj => ?_) h4
      by_cases hik : i' = i
      · subst hik; exact hh j (Nat.zero_le _) hj
      · exact h i' j (by omega) hi2 hj
    · exact h3 (fun i' j hi1 hi2 => by rw [ilt_f] at hc; omega) _
theorem H_aw (gp : Nat) (cm ga : Nat -> Int) {K0 : Bool -> Prop} (h : P_aw gp cm ga) (hK : K0 (F_aw_0 gp cm ga)) : B_aw gp cm ga K0 (W_aw_0 gp cm ga fuel) := by
  have no : ¬ (3 <= gp /\ convP gp cm ga) -> K0 false := fun hh => by
    unfold F_aw_0 at hK
    rw [convF_false hh] at hK
    exact hK
  have hn : gp <= 1000000 := h
  unfold B_aw
  simp only [Ts_iff]
  refine cond_intro (fun hc => ?_) (fun hc => ?_)
  · rw [ilt_t] at hc
    exact no (fun hh => by omega)
  · rw [ilt_f] at hc
    refine W_aw_0_ok hn fuel 0 (Nat.zero_le _) (by rw [fuel_eq]; omega) (fun hh v => ?_) (fun i j hi hj hr v => no (fun hh => hr (ok3_of hh.2 hi hj)))
    unfold F_aw_0 at hK
    rw [convF_iff.2 ⟨by omega, convP_of (fun i j hi hj => hh i j (Nat.zero_le _) hi hj) (by omega)⟩] at hK
    exact hK
def B_bi_0 (cm ge gg gm : Int) (gq : Nat) (gu gv : Nat -> Int) (gz : Int) (c x0 : Int -> Prop) (x1 : Int -> Int -> Prop)  : Prop := Ts 5 (cond (ilt gz ((gq : Nat) : Int)) (Ts 3 (((0 <= gz /\ gz < ((gq : Nat) : Int)) /\ Ts 1 (((P_dh (gu (Int.toNat gz)) (gv (Int.toNat gz))) /\ Ts 1 (cond (!(F_dh_0 (gu (Int.toNat gz)) (gv (Int.toNat gz)))) (Ts 1 (x1 3 gz)) (Ts 3 (c (iadd .i64 gz 1))))))))) (x0 gz))
def W_bi_0 (cm ge gg gm : Int) (gq : Nat) (gu gv : Nat -> Int) : Nat -> Int -> (Int -> Prop) -> (Int -> Int -> Prop) -> Prop
  | 0, _, _, _ => False
  | f + 1, w0, x0, x1 => B_bi_0 cm ge gg gm gq gu gv w0 (fun u0 => W_bi_0 cm ge gg gm gq gu gv f u0 x0 x1) x0 x1 
theorem BM_bi_0 (cm ge gg gm : Int) (gq : Nat) (gu gv : Nat -> Int) (gz : Int) {c c' : Int -> Prop} {x0 y0 : Int -> Prop} {x1 y1 : Int -> Int -> Prop} (hc : ∀ w0, c w0 -> c' w0) (h0 : ∀ o0, x0 o0 -> y0 o0) (h1 : ∀ o0 o1, x1 o0 o1 -> y1 o0 o1) : B_bi_0 cm ge gg gm gq gu gv gz c x0 x1  -> B_bi_0 cm ge gg gm gq gu gv gz c' y0 y1  := by
  unfold B_bi_0
  repeat' first
    | exact hc _
    | exact h0 _
    | exact h1 _ _
    | refine Ts_imp ?_
    | refine cond_imp ?_ ?_
    | refine and_imp' ?_
theorem WM_bi_0 (cm ge gg gm : Int) (gq : Nat) (gu gv : Nat -> Int) {x0 y0 : Int -> Prop} {x1 y1 : Int -> Int -> Prop} (h0 : ∀ o0, x0 o0 -> y0 o0) (h1 : ∀ o0 o1, x1 o0 o1 -> y1 o0 o1) : ∀ (f : Nat) (gz : Int), W_bi_0 cm ge gg gm gq gu gv f gz x0 x1 -> W_bi_0 cm ge gg gm gq gu gv f gz y0 y1
  | 0, w0 => fun h => h
  | f + 1, w0 => BM_bi_0 cm ge gg gm gq gu gv w0 (fun u0 => WM_bi_0 cm ge gg gm gq gu gv h0 h1 f u0) h0 h1
def B_bi (cm ge gg gm : Int) (gq : Nat) (gu gv : Nat -> Int) (K0 : Int -> Prop) (l0 : Int -> (Int -> Prop) -> (Int -> Int -> Prop) -> Prop) : Prop := Ts 6 (cond (ine cm 1) (Ts 4 (cond (ine cm 2) (Ts 1 (K0 8)) (Ts 2 (((P_dh ge gg) /\ Ts 1 (cond (!(F_dh_0 ge gg)) (Ts 1 (K0 3)) (Ts 1 ((l0 0 (fun kc => Ts 3 (cond (ieq cm 1) (Ts 4 (cond (ige gm 1) (Ts 4 (cond (igt gm 2097152) (Ts 3 (K0 3)) (Ts 4 (((P_cd ge gg gm) /\ ((P_du (F_cd_0 ge gg gm) (F_cd_1 ge gg gm) (F_cd_2 ge gg gm) (F_cd_3 ge gg gm)) /\ Ts 3 (cond (ine (F_du_0 (F_cd_0 ge gg gm) (F_cd_1 ge gg gm) (F_cd_2 ge gg gm) (F_cd_3 ge gg gm)) 0) (Ts 1 (K0 3)) (Ts 4 (cond (ilt gm 1) (Ts 2 (K0 5)) (Ts 5 (cond (igt ((gq : Nat) : Int) 0) (Ts 1 (K0 5)) (Ts 1 (K0 0))))))))))))) (Ts 5 (cond (ilt gm 1) (Ts 2 (K0 5)) (Ts 5 (cond (igt ((gq : Nat) : Int) 0) (Ts 1 (K0 5)) (Ts 1 (K0 0)))))))) (Ts 4 (cond (ine gm 0) (Ts 6 (K0 5)) (Ts 6 (cond (ilt ((gq : Nat) : Int) 3) (Ts 4 (K0 5)) (Ts 6 (cond (igt ((gq : Nat) : Int) 8) (Ts 2 (K0 5)) (Ts 2 (((P_aw gq gu gv) /\ Ts 2 (cond (!(F_aw_0 gq gu gv)) (Ts 1 (K0 5)) (Ts 1 (K0 0)))))))))))))) (fun i9 kc => K0 i9)))))))))) (Ts 3 (((P_dh ge gg) /\ Ts 1 (cond (!(F_dh_0 ge gg)) (Ts 1 (K0 3)) (Ts 1 ((l0 0 (fun kc => Ts 3 (cond (ieq cm 1) (Ts 4 (cond (ige gm 1) (Ts 4 (cond (igt gm 2097152) (Ts 3 (K0 3)) (Ts 4 (((P_cd ge gg gm) /\ ((P_du (F_cd_0 ge gg gm) (F_cd_1 ge gg gm) (F_cd_2 ge gg gm) (F_cd_3 ge gg gm)) /\ Ts 3 (cond (ine (F_du_0 (F_cd_0 ge gg gm) (F_cd_1 ge gg gm) (F_cd_2 ge gg gm) (F_cd_3 ge gg gm)) 0) (Ts 1 (K0 3)) (Ts 4 (cond (ilt gm 1) (Ts 2 (K0 5)) (Ts 5 (cond (igt ((gq : Nat) : Int) 0) (Ts 1 (K0 5)) (Ts 1 (K0 0))))))))))))) (Ts 5 (cond (ilt gm 1) (Ts 2 (K0 5)) (Ts 5 (cond (igt ((gq : Nat) : Int) 0) (Ts 1 (K0 5)) (Ts 1 (K0 0)))))))) (Ts 4 (cond (ine gm 0) (Ts 6 (K0 5)) (Ts 6 (cond (ilt ((gq : Nat) : Int) 3) (Ts 4 (K0 5)) (Ts 6 (cond (igt ((gq : Nat) : Int) 8) (Ts 2 (K0 5)) (Ts 2 (((P_aw gq gu gv) /\ Ts 2 (cond (!(F_aw_0 gq gu gv)) (Ts 1 (K0 5)) (Ts 1 (K0 0)))))))))))))) (fun i9 kc => K0 i9)))))))))
def P_bi (k ba bb c : Int) (n : Nat) (da db : Nat -> Int) : Prop := n <= 1000000
def F_bi_0 (k ba bb c : Int) (n : Nat) (da db : Nat -> Int) : Int := cond (!(ieq k 1) && ine k 2) 8 (cond (!(F_dh_0 ba bb)) 3 (cond (!(spotsOK n da db)) 3 (cond (ieq k 1) (cond (ige c 1 && (igt c 2097152 || ine (F_du_0 (F_cd_0 ba bb c) (F_cd_1 ba bb c) (F_cd_2 ba bb c) (F_cd_3 ba bb c)) 0)) 3 (cond (ilt c 1) 5 (cond (igt (n : Int) 0) 5 0))) (cond (ine c 0) 5 (cond (ilt (n : Int) 3) 5 (cond (igt (n : Int) 8) 5 (cond (!(F_aw_0 n da db)) 5 0)))))))
theorem W_bi_ok {k ba bb c : Int} {n : Nat} {da db : Nat -> Int} (hn : n <= 1000000) {x0 : Int -> Prop} {x1 : Int -> Int -> Prop} : ∀ (f i : Nat), i <= n -> n < f + i -> ((∀ j, i <= j -> j < n -> spotOK (da j) (db j) = true) -> ∀ v, x0 v) -> (∀ j, j < n -> spotOK (da j) (db j) = false -> ∀ v, x1 3 v) -> W_bi_0 k ba bb c n da db f i x0 x1
  | 0, i, h1, h2, _, _ => by omega
  | f + 1, i, h1, h2, h3, h4 => by
    show B_bi_0 k ba bb c n da db i _ _ _
    unfold B_bi_0
    simp only [Ts_iff, true_and, Int.toNat_natCast, Nat.zero_add]
    rw [valid_eq]
    refine cond_intro (fun hc => ?_) (fun hc => ?_)
    · rw [ilt_t] at hc
      refine ⟨⟨by omega, hc⟩, trivial, cond_intro (fun he => ?_) (fun he => ?_)⟩
      · exact h4 i (by omega) (by simpa using he) _
      · rw [iadd64 (by omega) (by omega)]
        refine W_bi_ok hn f (i + 1) (by omega) (by omega) (fun h => h3 fun j hj1 hj2 => ?_) h4
        by_cases hk : j = i
        · subst hk; simpa using he
        · exact h j (by omega) hj2
    · rw [ilt_f] at hc
      exact h3 (fun j hj1 hj2 => by omega) _
theorem H_bi (k ba bb c : Int) (n : Nat) (da db : Nat -> Int) {K0 : Int -> Prop} (h : P_bi k ba bb c n da db) (hK : K0 (F_bi_0 k ba bb c n da db)) : B_bi k ba bb c n da db K0 (W_bi_0 k ba bb c n da db fuel) := by
  have hn : n <= 1000000 := h
  have pf1 : P_aw n da db := hn
  have pf2 := pf1
  have pf3 := pf1
  have pf4 := pf1
  unfold F_bi_0 at hK
  unfold B_bi
  simp only [Ts_iff, true_and]
  have main : (ine k 1 && ine k 2) = false -> F_dh_0 ba bb = true -> (spotsOK n da db = true -> K0 (cond (ieq k 1) (cond (ige c 1 && (igt c 2097152 || ine (F_du_0 (F_cd_0 ba bb c) (F_cd_1 ba bb c) (F_cd_2 ba bb c) (F_cd_3 ba bb c)) 0)) 3 (cond (ilt c 1) 5 (cond (igt (n : Int) 0) 5 0))) (cond (ine c 0) 5 (cond (ilt (n : Int) 3) 5 (cond (igt (n : Int) 8) 5 (cond (!(F_aw_0 n da db)) 5 0)))))) /\ (spotsOK n da db = false -> K0 3) := by
    intro g1 g2
    have e : (!(ieq k 1) && ine k 2) = false := by rw [← g1]; congr 1; rw [ieq_eq, ine_eq]; rfl
    rw [e, g2] at hK
    exact ⟨fun g3 => by rw [g3] at hK; exact hK, fun g3 => by rw [g3] at hK; exact hK⟩
  have loop : (ine k 1 && ine k 2) = false -> F_dh_0 ba bb = true -> ∀ {x0 : Int -> Prop}, (K0 (cond (ieq k 1) (cond (ige c 1 && (igt c 2097152 || ine (F_du_0 (F_cd_0 ba bb c) (F_cd_1 ba bb c) (F_cd_2 ba bb c) (F_cd_3 ba bb c)) 0)) 3 (cond (ilt c 1) 5 (cond (igt (n : Int) 0) 5 0))) (cond (ine c 0) 5 (cond (ilt (n : Int) 3) 5 (cond (igt (n : Int) 8) 5 (cond (!(F_aw_0 n da db)) 5 0))))) -> ∀ v, x0 v) -> W_bi_0 k ba bb c n da db fuel 0 x0 (fun i9 kc => K0 i9) := by
    intro g1 g2 x0 hx
    obtain ⟨m1, m2⟩ := main g1 g2
    refine W_bi_ok hn fuel 0 (Nat.zero_le _) (by rw [fuel_eq]; omega) (fun hh => hx (m1 (spotsOK_iff.2 fun j hj => hh j (Nat.zero_le _) hj))) (fun j hj hb v => m2 ?_)
    cases hs : spotsOK n da db with
    | false => rfl
    | true => rw [spotsOK_iff.1 hs j hj] at hb; cases hb
  clear main
  refine cond_intro (fun h1 => ?_) (fun h1 => ?_)
  · refine cond_intro (fun h2 => ?_) (fun h2 => ?_)
    · have e : (!(ieq k 1) && ine k 2) = true := by
        rw [h2, Bool.and_true, Bool.not_eq_true']
        rw [ine_t] at h1
        exact ieq_f.2 h1
      rw [e] at hK
      exact hK
    · refine ⟨trivial, cond_intro (fun h3 => ?_) (fun h3 => ?_)⟩
      · have e : (!(ieq k 1) && ine k 2) = false := by rw [h2, Bool.and_false]
        rw [e, h3] at hK
        exact hK
      · refine loop (by rw [h2, Bool.and_false]) (by simpa using h3) (fun hK v => ?_)
        clear loop
        repeat' first
          | exact hK
          | (refine cond_intro (fun hc => ?_) (fun hc => ?_) <;> (try simp only [Bool.not_eq_true', Bool.not_eq_false'] at hc) <;> (try simp only [hc, cond_true, cond_false, Bool.not_true, Bool.not_false, Bool.true_and, Bool.and_true, Bool.false_and, Bool.and_false, Bool.true_or, Bool.or_true, Bool.false_or, Bool.or_false] at hK) <;> (try simp only [hc, cond_true, cond_false, Bool.not_true, Bool.not_false]))
          | (refine ⟨pf1, ?_⟩)
          | (refine ⟨pf2, ?_⟩)
          | (refine ⟨pf3, ?_⟩)
          | (refine ⟨pf4, ?_⟩)
          | (refine ⟨trivial, ?_⟩)
          | (refine ⟨rfl, ?_⟩)
  · refine ⟨trivial, cond_intro (fun h3 => ?_) (fun h3 => ?_)⟩
    · have e : (!(ieq k 1) && ine k 2) = false := by
        rw [ine_f] at h1
        rw [ieq_t.2 h1]
        rfl
      rw [e, h3] at hK
      exact hK
    · refine loop (by rw [h1, Bool.false_and]) (by simpa using h3) (fun hK v => ?_)
      clear loop
      repeat' first
        | exact hK
        | (refine cond_intro (fun hc => ?_) (fun hc => ?_) <;> (try simp only [Bool.not_eq_true', Bool.not_eq_false'] at hc) <;> (try simp only [hc, cond_true, cond_false, Bool.not_true, Bool.not_false, Bool.true_and, Bool.and_true, Bool.false_and, Bool.and_false, Bool.true_or, Bool.or_true, Bool.false_or, Bool.or_false] at hK) <;> (try simp only [hc, cond_true, cond_false, Bool.not_true, Bool.not_false]))
        | (refine ⟨pf1, ?_⟩)
        | (refine ⟨pf2, ?_⟩)
        | (refine ⟨pf3, ?_⟩)
        | (refine ⟨pf4, ?_⟩)
        | (refine ⟨trivial, ?_⟩)
        | (refine ⟨rfl, ?_⟩)
theorem valid_iff (a b : Int) : F_dh_0 a b = true ↔ (-2097152 <= a /\ a <= 2097152 /\ -2097152 <= b /\ b <= 2097152) := by
  unfold F_dh_0
  simp only [cond_tt, ige_t, ile_t, ige_f, ile_f, Bool.false_eq_true, and_false, or_false]
  all_goals omega
theorem check_r3 (a b c d : Int) : (F_du_0 a b c d = 3 /\ ¬ boxIn a b c d) ∨ (F_du_0 a b c d = 5 /\ boxIn a b c d /\ (c < a ∨ d < b)) ∨ (F_du_0 a b c d = 0 /\ boxIn a b c d /\ a <= c /\ b <= d) := by
  unfold F_du_0 boxIn
  have e1 := valid_iff a b
  have e2 := valid_iff c d
  cases h1 : F_dh_0 a b with
  | false => rw [h1] at e1; left; exact ⟨rfl, fun h => by have := e1.2 h.1; cases this⟩
  | true =>
    rw [h1] at e1
    have e1 := e1.1 rfl
    cases h2 : F_dh_0 c d with
    | false => rw [h2] at e2; left; exact ⟨rfl, fun h => by have := e2.2 h.2; cases this⟩
    | true =>
      rw [h2] at e2
      have e2 := e2.1 rfl
      right
      cases h1 : igt a c with
      | true => rw [igt_t] at h1; exact .inl ⟨rfl, ⟨e1, e2⟩, .inl h1⟩
      | false =>
        rw [igt_f] at h1
        cases h2 : igt b d with
        | true => rw [igt_t] at h2; exact .inl ⟨rfl, ⟨e1, e2⟩, .inr h2⟩
        | false => rw [igt_f] at h2; exact .inr ⟨rfl, ⟨e1, e2⟩, h1, h2⟩
theorem check_eq (a b c d : Int) : F_cw_0 a b c d = F_du_0 a b c d := by
  rcases check_sd a b c d with ⟨h1, h2⟩ | ⟨h1, h2, h3⟩ | ⟨h1, h2, h3⟩ <;> rcases check_r3 a b c d with ⟨g1, g2⟩ | ⟨g1, g2, g3⟩ | ⟨g1, g2, g3⟩ <;> rw [h1, g1] <;> exfalso <;>
    first | exact h2 g2 | exact g2 h2 | omega
theorem bool_eq {x y : Bool} {p q : Prop} (hx : x = true ↔ p) (hy : y = true ↔ q) (h : p ↔ q) : x = y := by
  rw [Bool.eq_iff_iff, hx, hy, h]
theorem crossT_congr {n : Nat} {a b a' b' : Nat -> Int} (h : ∀ k, k < n -> a k = a' k /\ b k = b' k) {i j k : Nat} (hi : i < n) (hj : j < n) (hk : k < n) : crossT a b i k j = crossT a' b' i k j := by
  unfold crossT
  rw [(h i hi).1, (h i hi).2, (h j hj).1, (h j hj).2, (h k hk).1, (h k hk).2]
theorem convP_congr {n : Nat} {a b a' b' : Nat -> Int} (h : ∀ k, k < n -> a k = a' k /\ b k = b' k) : convP n a b ↔ convP n a' b' := by
  have go : ∀ {a b a' b' : Nat -> Int}, (∀ k, k < n -> a k = a' k /\ b k = b' k) -> convP n a b -> convP n a' b' := by
    intro a b a' b' h hc
    refine ⟨fun k hk => by rw [← (h k hk).1, ← (h k hk).2]; exact hc.1 k hk, fun i hi j hj h1 h2 => ?_⟩
    rw [← crossT_congr h hi hj (nxE_lt hi)]
    exact hc.2 i hi j hj h1 h2
  exact ⟨go h, go (fun k hk => ⟨(h k hk).1.symm, (h k hk).2.symm⟩)⟩
theorem convF_congr {n : Nat} {a b a' b' : Nat -> Int} (h : ∀ k, k < n -> a k = a' k /\ b k = b' k) : convF n a b = convF n a' b' := by
  rw [Bool.eq_iff_iff, convF_iff, convF_iff, convP_congr h]
theorem beqB_self (x : Bool) : beqB x x = true := by rw [beqB_eq]; simp
theorem fair1 (a b : Int) : F_bq_0 1 (fun _ => a) (fun _ => b) = spotOK a b := by
  unfold F_bq_0 spotsOK
  rw [show List.range 1 = [0] from rfl]
  simp only [List.all_cons, List.all_nil, Bool.and_true]
theorem spotsOK_congr {n : Nat} {a b a' b' : Nat -> Int} (h : ∀ k, k < n -> a k = a' k /\ b k = b' k) : spotsOK n a b = spotsOK n a' b' := by
  rw [Bool.eq_iff_iff, spotsOK_iff, spotsOK_iff]
  constructor
  · intro g k hk
    rw [← (h k hk).1, ← (h k hk).2]
    exact g k hk
  · intro g k hk
    rw [(h k hk).1, (h k hk).2]
    exact g k hk
theorem igt0_ige1 (c : Int) : igt c 0 = ige c 1 := by
  rw [Bool.eq_iff_iff, igt_t, ige_t]
  omega
theorem form_check {k ba bb c : Int} {n : Nat} {da db da' db' : Nat -> Int} (h : ∀ j, j < n -> da' j = da j /\ db' j = db j) : F_ci_0 k ba bb c n da' db' = F_bi_0 k ba bb c n da db := by
  unfold F_ci_0 F_bi_0
  have e1 : F_bq_0 n da' db' = spotsOK n da db := spotsOK_congr h
  have e2 : F_an_0 n da' db' = F_aw_0 n da db := convF_congr h
  have e3 : F_cw_0 (F_dl_0 ba bb c) (F_dl_1 ba bb c) (F_dl_2 ba bb c) (F_dl_3 ba bb c) = F_du_0 (F_cd_0 ba bb c) (F_cd_1 ba bb c) (F_cd_2 ba bb c) (F_cd_3 ba bb c) := check_eq _ _ _ _
  rw [fair1, valid_eq, e1, e2, e3, igt0_ige1]
  cases hl : ilt (n : Int) 3 with
  | false => rfl
  | true =>
    rw [ilt_t] at hl
    have e4 : F_aw_0 n da db = false := convF_false (fun hh => by omega)
    have e5 : igt (n : Int) 8 = false := by rw [igt_f]; omega
    rw [e4, e5]
    rfl
theorem turn_side {x0 y0 x1 y1 x2 y2 : Int} (h0 : spotOK x0 y0 = true) (h1 : spotOK x1 y1 = true) (h2 : spotOK x2 y2 = true) : ilt (F_e8_0 x0 y0 x1 y1 x2 y2) 0 = ilt (F_fk_0 x0 y0 x1 y1 x2 y2) 0 := by
  rw [turn_eq h0 h1 h2, side_r3 h0 h1 h2, Bool.eq_iff_iff, ilt_t, ilt_t]
  split
  · omega
  · split <;> omega
theorem sameForm_eq {k ba bb c : Int} {n : Nat} {da db da' db' : Nat -> Int} (h : ∀ j, j < n -> da' j = da j /\ db' j = db j) : F_eg_0 k ba bb c n da' db' k ba bb c n da db = true := by
  unfold F_eg_0
  rw [ieq_t.2 rfl, ieq_t.2 rfl, ieq_t.2 rfl, ieq_t.2 rfl, sameSpots_iff.2 ⟨rfl, h⟩]
  rfl
theorem sameFormP {k ba bb c : Int} {n : Nat} {da db da' db' : Nat -> Int} (h : n <= 1000000) : P_eg k ba bb c n da' db' k ba bb c n da db :=
  cond_intro (fun _ => cond_intro (fun _ => cond_intro (fun _ => ⟨h, h⟩) (fun _ => trivial)) (fun _ => trivial)) (fun _ => trivial)
theorem copies (n : Nat) (da db : Nat -> Int) : ∀ j, j < n -> copyF da n j = da j /\ copyF db n j = db j := fun j hj => ⟨copyF_lt _ _ _ hj, copyF_lt _ _ _ hj⟩
theorem FormI.copy {k ba bb c : Int} {n : Nat} {da db : Nat -> Int} (h : FormI k ba bb c n da db) : FormI k ba bb c n (copyF da n) (copyF db n) :=
  ⟨h.1, h.2.1, fun j hj => by rw [(copies n da db j hj).1, (copies n da db j hj).2]; exact h.2.2 j hj⟩
def B_fw (cm ga gb gd : Int) (K0 : Int -> Prop)  : Prop := Ts 15 (K0 (iadd .i64 (imul .i64 cm gb) (imul .i64 ga gd)))
def P_fw (cm ga gb gd : Int) : Prop := True
def F_fw_0 (cm ga gb gd : Int) : Int := (iadd .i64 (imul .i64 cm gb) (imul .i64 ga gd))
theorem H_fw (cm ga gb gd : Int) {K0 : Int -> Prop} (h : P_fw cm ga gb gd) (hK : K0 (F_fw_0 cm ga gb gd)) : B_fw cm ga gb gd K0  := by
 unfold B_fw P_fw F_fw_0 at *
 exact Ts_iff.2 hK
def B_bp_0 (cm ge gg gm : Int) (gq : Nat) (gu gv : Nat -> Int) (gb gd iu : Int) (c x0 x1 : Int -> Prop)  : Prop := Ts 5 (cond (ilt iu ((gq : Nat) : Int)) (Ts 3 (((0 <= iu /\ iu < ((gq : Nat) : Int)) /\ Ts 8 (((((gq : Nat) : Int) ≠ 0) /\ ((0 <= (irem .i64 (iadd .i64 iu 1) ((gq : Nat) : Int)) /\ (irem .i64 (iadd .i64 iu 1) ((gq : Nat) : Int)) < ((gq : Nat) : Int)) /\ Ts 2 (((P_fk (gu (Int.toNat iu)) (gv (Int.toNat iu)) (gu (Int.toNat (irem .i64 (iadd .i64 iu 1) ((gq : Nat) : Int)))) (gv (Int.toNat (irem .i64 (iadd .i64 iu 1) ((gq : Nat) : Int)))) gb gd) /\ Ts 1 ((true = true /\ cond (ilt (F_fk_0 (gu (Int.toNat iu)) (gv (Int.toNat iu)) (gu (Int.toNat (irem .i64 (iadd .i64 iu 1) ((gq : Nat) : Int)))) (gv (Int.toNat (irem .i64 (iadd .i64 iu 1) ((gq : Nat) : Int)))) gb gd) 0) (Ts 1 (x1 iu)) (Ts 3 (c (iadd .i64 iu 1))))))))))))) (x0 iu))
def W_bp_0 (cm ge gg gm : Int) (gq : Nat) (gu gv : Nat -> Int) (gb gd : Int) : Nat -> Int -> (Int -> Prop) -> (Int -> Prop) -> Prop
  | 0, _, _, _ => False
  | f + 1, w0, x0, x1 => B_bp_0 cm ge gg gm gq gu gv gb gd w0 (fun u0 => W_bp_0 cm ge gg gm gq gu gv gb gd f u0 x0 x1) x0 x1 
theorem BM_bp_0 (cm ge gg gm : Int) (gq : Nat) (gu gv : Nat -> Int) (gb gd iu : Int) {c c' : Int -> Prop} {x0 y0 : Int -> Prop} {x1 y1 : Int -> Prop} (hc : ∀ w0, c w0 -> c' w0) (h0 : ∀ o0, x0 o0 -> y0 o0) (h1 : ∀ o0, x1 o0 -> y1 o0) : B_bp_0 cm ge gg gm gq gu gv gb gd iu c x0 x1  -> B_bp_0 cm ge gg gm gq gu gv gb gd iu c' y0 y1  := by
  unfold B_bp_0
  repeat' first
    | exact hc _
    | exact h0 _
    | exact h1 _
    | refine Ts_imp ?_
    | refine cond_imp ?_ ?_
    | refine and_imp' ?_
theorem WM_bp_0 (cm ge gg gm : Int) (gq : Nat) (gu gv : Nat -> Int) (gb gd : Int) {x0 y0 : Int -> Prop} {x1 y1 : Int -> Prop} (h0 : ∀ o0, x0 o0 -> y0 o0) (h1 : ∀ o0, x1 o0 -> y1 o0) : ∀ (f : Nat) (iu : Int), W_bp_0 cm ge gg gm gq gu gv gb gd f iu x0 x1 -> W_bp_0 cm ge gg gm gq gu gv gb gd f iu y0 y1
  | 0, w0 => fun h => h
  | f + 1, w0 => BM_bp_0 cm ge gg gm gq gu gv gb gd w0 (fun u0 => WM_bp_0 cm ge gg gm gq gu gv gb gd h0 h1 f u0) h0 h1
def B_bp (cm ge gg gm : Int) (gq : Nat) (gu gv : Nat -> Int) (gb gd : Int) (K0 : Bool -> Prop) (l0 : Int -> (Int -> Prop) -> (Int -> Prop) -> Prop) : Prop := Ts 6 (cond (ieq cm 1) (Ts 3 (((P_a8 gb gd ge gg) /\ Ts 4 (((P_fw (F_a8_0 gb gd ge gg) (F_a8_1 gb gd ge gg) (F_a8_0 gb gd ge gg) (F_a8_1 gb gd ge gg)) /\ Ts 7 ((true = true /\ K0 (ile (F_fw_0 (F_a8_0 gb gd ge gg) (F_a8_1 gb gd ge gg) (F_a8_0 gb gd ge gg) (F_a8_1 gb gd ge gg)) (imul .i64 gm gm))))))))) (Ts 1 ((l0 0 (fun lg => Ts 1 (K0 true)) (fun lg => K0 false)))))
def P_bp (k ba bb c : Int) (n : Nat) (da db : Nat -> Int) (px py : Int) : Prop := n <= 1000000
def has3 (n : Nat) (a b : Nat -> Int) (px py : Int) (j : Nat) : Bool := !(ilt (F_fk_0 (a j) (b j) (a (nxE n j)) (b (nxE n j)) px py) 0)
def F_bp_0 (k ba bb c : Int) (n : Nat) (da db : Nat -> Int) (px py : Int) : Bool := cond (ieq k 1) (ile (F_fw_0 (F_a8_0 px py ba bb) (F_a8_1 px py ba bb) (F_a8_0 px py ba bb) (F_a8_1 px py ba bb)) (imul .i64 c c)) ((List.range n).all fun j => has3 n da db px py j)
theorem W_bp_ok {k ba bb c : Int} {n : Nat} {da db : Nat -> Int} {px py : Int} (hn : n <= 1000000) {x0 x1 : Int -> Prop} : ∀ (f i : Nat), i <= n -> n < f + i -> ((∀ j, i <= j -> j < n -> has3 n da db px py j = true) -> ∀ v, x0 v) -> (∀ j, j < n -> has3 n da db px py j = false -> ∀ v, x1 v) -> W_bp_0 k ba bb c n da db px py f i x0 x1
  | 0, i, h1, h2, _, _ => by omega
  | f + 1, i, h1, h2, h3, h4 => by
    show B_bp_0 k ba bb c n da db px py i _ _ _
    unfold B_bp_0
    simp only [Ts_iff, true_and, Int.toNat_natCast, Nat.zero_add]
    refine cond_intro (fun hc => ?_) (fun hc => ?_)
    · rw [ilt_t] at hc
      have hi : i < n := by omega
      have hnx := nxE_lt hi
      rw [nx_rem hi hn, Int.toNat_natCast]
      refine ⟨⟨by omega, hc⟩, by omega, ⟨by omega, by omega⟩, trivial, cond_intro (fun he => ?_) (fun he => ?_)⟩
      · exact h4 i hi (by unfold has3; rw [he]; rfl) _
      · rw [iadd64 (by omega) (by omega)]
        refine W_bp_ok hn f (i + 1) (by omega) (by omega) (fun h => h3 fun j hj1 hj2 => ?_) h4
        by_cases hk : j = i
        · subst hk; unfold has3; rw [he]; rfl
        · exact h j (by omega) hj2
    · rw [ilt_f] at hc
      exact h3 (fun j hj1 hj2 => by omega) _
theorem H_bp (k ba bb c : Int) (n : Nat) (da db : Nat -> Int) (px py : Int) {K0 : Bool -> Prop} (h : P_bp k ba bb c n da db px py) (hK : K0 (F_bp_0 k ba bb c n da db px py)) : B_bp k ba bb c n da db px py K0 (W_bp_0 k ba bb c n da db px py fuel) := by
  have hn : n <= 1000000 := h
  unfold F_bp_0 at hK
  unfold B_bp
  simp only [Ts_iff, true_and]
  refine cond_intro (fun hc => ?_) (fun hc => ?_)
  · rw [hc] at hK
    exact ⟨trivial, trivial, hK⟩
  · rw [hc, cond_false] at hK
    refine W_bp_ok hn fuel 0 (Nat.zero_le _) (by rw [fuel_eq]; omega) (fun hh v => ?_) (fun j hj hb v => ?_)
    · have : ((List.range n).all fun j => has3 n da db px py j) = true := by rw [List.all_eq_true]; exact fun j hj => hh j (Nat.zero_le _) (List.mem_range.1 hj)
      rw [this] at hK
      exact hK
    · have : ((List.range n).all fun j => has3 n da db px py j) = false := by
        cases hf : ((List.range n).all fun j => has3 n da db px py j) with
        | false => rfl
        | true => rw [List.all_eq_true] at hf; rw [hf j (List.mem_range.2 hj)] at hb; cases hb
      rw [this] at hK
      exact hK
def E_ag_0 (gh gj gb gd : Int) : Int := (F_fw_0 (F_a8_0 gh gj gb gd) (F_a8_1 gh gj gb gd) (F_a8_0 gh gj gb gd) (F_a8_1 gh gj gb gd))
def E_ag_1 (gb gd ge gg gh gj : Int) : Int := (F_fw_0 (F_a8_0 gb gd ge gg) (F_a8_1 gb gd ge gg) (F_a8_0 gh gj gb gd) (F_a8_1 gh gj gb gd))
def E_ag_2 (gb gd ge gg : Int) : Int := (F_fw_0 (F_a8_0 gb gd ge gg) (F_a8_1 gb gd ge gg) (F_a8_0 gb gd ge gg) (F_a8_1 gb gd ge gg))
def E_ag_3 (gb gd ge gg gh gj gm : Int) : Int := (F_eh_0 (E_ag_1 gb gd ge gg gh gj) (E_ag_1 gb gd ge gg gh gj) (E_ag_0 gh gj gb gd) (isub .i64 (E_ag_2 gb gd ge gg) (imul .i64 gm gm)))
def E_ag_4 (gh gj gb gd : Int) : Int := (F_dt_0 (F_a8_0 gh gj gb gd) (F_a8_1 gh gj gb gd))
def E_ag_5 (gh gj gb gd : Int) : Bool := (F_dt_1 (F_a8_0 gh gj gb gd) (F_a8_1 gh gj gb gd))
def E_ag_6 (gh gj gb gd : Int) : Int := (F_dt_2 (F_a8_0 gh gj gb gd) (F_a8_1 gh gj gb gd))
def E_ag_7 (gh gj gb gd : Int) : Bool := (F_dt_3 (F_a8_0 gh gj gb gd) (F_a8_1 gh gj gb gd))
def E_ag_8 (gb gd ge gg : Int) : Int := (F_dt_0 (F_a8_0 gb gd ge gg) (F_a8_1 gb gd ge gg))
def E_ag_9 (gb gd ge gg : Int) : Bool := (F_dt_1 (F_a8_0 gb gd ge gg) (F_a8_1 gb gd ge gg))
def E_ag_10 (gb gd ge gg : Int) : Int := (F_dt_2 (F_a8_0 gb gd ge gg) (F_a8_1 gb gd ge gg))
def E_ag_11 (gb gd ge gg : Int) : Bool := (F_dt_3 (F_a8_0 gb gd ge gg) (F_a8_1 gb gd ge gg))
def E_ag_12 (gh gj gb gd : Int) : Int := (F_di_0 (E_ag_4 gh gj gb gd) (E_ag_5 gh gj gb gd) (E_ag_6 gh gj gb gd) (E_ag_7 gh gj gb gd))
def E_ag_13 (gh gj gb gd : Int) : Bool := (F_di_1 (E_ag_4 gh gj gb gd) (E_ag_5 gh gj gb gd) (E_ag_6 gh gj gb gd) (E_ag_7 gh gj gb gd))
def E_ag_14 (gh gj gb gd : Int) : Int := (F_di_2 (E_ag_4 gh gj gb gd) (E_ag_5 gh gj gb gd) (E_ag_6 gh gj gb gd) (E_ag_7 gh gj gb gd))
def E_ag_15 (gh gj gb gd : Int) : Bool := (F_di_3 (E_ag_4 gh gj gb gd) (E_ag_5 gh gj gb gd) (E_ag_6 gh gj gb gd) (E_ag_7 gh gj gb gd))
def E_ag_17 (gh gj gb gd ge gg : Int) : Int := (F_ew_0 (E_ag_12 gh gj gb gd) (E_ag_13 gh gj gb gd) (E_ag_14 gh gj gb gd) (E_ag_15 gh gj gb gd) (E_ag_8 gb gd ge gg) (E_ag_9 gb gd ge gg) (E_ag_10 gb gd ge gg) (E_ag_11 gb gd ge gg))
def E_ag_18 (gh gj gb gd ge gg : Int) : Bool := (F_ew_1 (E_ag_12 gh gj gb gd) (E_ag_13 gh gj gb gd) (E_ag_14 gh gj gb gd) (E_ag_15 gh gj gb gd) (E_ag_8 gb gd ge gg) (E_ag_9 gb gd ge gg) (E_ag_10 gb gd ge gg) (E_ag_11 gb gd ge gg))
def E_ag_19 (gm : Int) : Int := (F_ct_0 (F_b6_0 gm 256) (F_b6_1 gm 256) (F_b6_0 gm 256) (F_b6_1 gm 256))
def E_ag_20 (gm : Int) : Bool := (F_ct_1 (F_b6_0 gm 256) (F_b6_1 gm 256) (F_b6_0 gm 256) (F_b6_1 gm 256))
def E_ag_21 (gh gj gb gd ge gg : Int) : Int := (F_ct_0 (E_ag_17 gh gj gb gd ge gg) (E_ag_18 gh gj gb gd ge gg) (E_ag_17 gh gj gb gd ge gg) (E_ag_18 gh gj gb gd ge gg))
def E_ag_22 (gh gj gb gd ge gg : Int) : Bool := (F_ct_1 (E_ag_17 gh gj gb gd ge gg) (E_ag_18 gh gj gb gd ge gg) (E_ag_17 gh gj gb gd ge gg) (E_ag_18 gh gj gb gd ge gg))
def E_ag_23 (gm gh gj gb gd ge gg : Int) : Int := (F_fh_0 (E_ag_19 gm) (E_ag_20 gm) (E_ag_21 gh gj gb gd ge gg) (E_ag_22 gh gj gb gd ge gg))
def E_ag_24 (gm gh gj gb gd ge gg : Int) : Bool := (F_fh_1 (E_ag_19 gm) (E_ag_20 gm) (E_ag_21 gh gj gb gd ge gg) (E_ag_22 gh gj gb gd ge gg))
def E_ag_25 (gm gh gj gb gd ge gg : Int) : Int := (F_cv_0 2 (pushF 1 (fun _ => 0) (E_ag_23 gm gh gj gb gd ge gg)) (pushF 1 (fun _ => false) (E_ag_24 gm gh gj gb gd ge gg)))
def E_ag_26 (gm gh gj gb gd ge gg : Int) : Bool := (F_cv_1 2 (pushF 1 (fun _ => 0) (E_ag_23 gm gh gj gb gd ge gg)) (pushF 1 (fun _ => false) (E_ag_24 gm gh gj gb gd ge gg)))
def E_ag_27 (gm gh gj gb gd ge gg : Int) : Int := (F_dc_0 (E_ag_25 gm gh gj gb gd ge gg) (E_ag_26 gm gh gj gb gd ge gg))
def E_ag_28 (gm gh gj gb gd ge gg : Int) : Bool := (F_dc_1 (E_ag_25 gm gh gj gb gd ge gg) (E_ag_26 gm gh gj gb gd ge gg))
def E_ag_29 (gh gj gb gd ge gg : Int) : Int := (F_ft_0 (E_ag_12 gh gj gb gd) (E_ag_13 gh gj gb gd) (E_ag_14 gh gj gb gd) (E_ag_15 gh gj gb gd) (E_ag_8 gb gd ge gg) (E_ag_9 gb gd ge gg) (E_ag_10 gb gd ge gg) (E_ag_11 gb gd ge gg))
def E_ag_30 (gh gj gb gd ge gg : Int) : Bool := (F_ft_1 (E_ag_12 gh gj gb gd) (E_ag_13 gh gj gb gd) (E_ag_14 gh gj gb gd) (E_ag_15 gh gj gb gd) (E_ag_8 gb gd ge gg) (E_ag_9 gb gd ge gg) (E_ag_10 gb gd ge gg) (E_ag_11 gb gd ge gg))
def E_ag_31 (gh gj gb gd ge gg : Int) : Int := (F_ep_0 (E_ag_29 gh gj gb gd ge gg) (E_ag_30 gh gj gb gd ge gg))
def E_ag_32 (gh gj gb gd ge gg : Int) : Bool := (F_ep_1 (E_ag_29 gh gj gb gd ge gg) (E_ag_30 gh gj gb gd ge gg))
def E_ag_33 (gh gj gb gd ge gg gm : Int) : Int := (F_fh_0 (E_ag_31 gh gj gb gd ge gg) (E_ag_32 gh gj gb gd ge gg) (E_ag_27 gm gh gj gb gd ge gg) (E_ag_28 gm gh gj gb gd ge gg))
def E_ag_34 (gh gj gb gd ge gg gm : Int) : Bool := (F_fh_1 (E_ag_31 gh gj gb gd ge gg) (E_ag_32 gh gj gb gd ge gg) (E_ag_27 gm gh gj gb gd ge gg) (E_ag_28 gm gh gj gb gd ge gg))
def E_ag_35 (gh gj gb gd : Int) : Int := (F_bo_0 (E_ag_4 gh gj gb gd) (E_ag_5 gh gj gb gd) (E_ag_6 gh gj gb gd) (E_ag_7 gh gj gb gd))
def E_ag_36 (gh gj gb gd : Int) : Bool := (F_bo_1 (E_ag_4 gh gj gb gd) (E_ag_5 gh gj gb gd) (E_ag_6 gh gj gb gd) (E_ag_7 gh gj gb gd))
def E_ag_37 (gh gj gb gd ge gg gm : Int) : Int := (F_dp_0 (E_ag_33 gh gj gb gd ge gg gm) (E_ag_34 gh gj gb gd ge gg gm) (E_ag_35 gh gj gb gd) (E_ag_36 gh gj gb gd))
def E_ag_38 (gh gj gb gd ge gg gm : Int) : Bool := (F_dp_1 (E_ag_33 gh gj gb gd ge gg gm) (E_ag_34 gh gj gb gd ge gg gm) (E_ag_35 gh gj gb gd) (E_ag_36 gh gj gb gd))
def E_ag_39 (gh gj gb gd ge gg gm : Int) : Int := (F_eu_0 (E_ag_37 gh gj gb gd ge gg gm) (E_ag_38 gh gj gb gd ge gg gm) 0 false 4294967296 false)
def E_ag_40 (gh gj gb gd ge gg gm : Int) : Bool := (F_eu_1 (E_ag_37 gh gj gb gd ge gg gm) (E_ag_38 gh gj gb gd ge gg gm) 0 false 4294967296 false)
def E_ag_41 (gh gj gb gd ge gg gm : Int) : Int := (F_ef_0 (E_ag_4 gh gj gb gd) (E_ag_5 gh gj gb gd) (E_ag_6 gh gj gb gd) (E_ag_7 gh gj gb gd) (E_ag_39 gh gj gb gd ge gg gm) (E_ag_40 gh gj gb gd ge gg gm))
def E_ag_42 (gh gj gb gd ge gg gm : Int) : Bool := (F_ef_1 (E_ag_4 gh gj gb gd) (E_ag_5 gh gj gb gd) (E_ag_6 gh gj gb gd) (E_ag_7 gh gj gb gd) (E_ag_39 gh gj gb gd ge gg gm) (E_ag_40 gh gj gb gd ge gg gm))
def E_ag_43 (gh gj gb gd ge gg gm : Int) : Int := (F_ef_2 (E_ag_4 gh gj gb gd) (E_ag_5 gh gj gb gd) (E_ag_6 gh gj gb gd) (E_ag_7 gh gj gb gd) (E_ag_39 gh gj gb gd ge gg gm) (E_ag_40 gh gj gb gd ge gg gm))
def E_ag_44 (gh gj gb gd ge gg gm : Int) : Bool := (F_ef_3 (E_ag_4 gh gj gb gd) (E_ag_5 gh gj gb gd) (E_ag_6 gh gj gb gd) (E_ag_7 gh gj gb gd) (E_ag_39 gh gj gb gd ge gg gm) (E_ag_40 gh gj gb gd ge gg gm))
def E_ag_45 (gb gd ge gg gh gj gm : Int) : Int := (F_cz_0 2 (pushF 1 (fun _ => (E_ag_8 gb gd ge gg)) (E_ag_41 gh gj gb gd ge gg gm)) (pushF 1 (fun _ => (E_ag_9 gb gd ge gg)) (E_ag_42 gh gj gb gd ge gg gm)) (pushF 1 (fun _ => (E_ag_10 gb gd ge gg)) (E_ag_43 gh gj gb gd ge gg gm)) (pushF 1 (fun _ => (E_ag_11 gb gd ge gg)) (E_ag_44 gh gj gb gd ge gg gm)))
def E_ag_46 (gb gd ge gg gh gj gm : Int) : Bool := (F_cz_1 2 (pushF 1 (fun _ => (E_ag_8 gb gd ge gg)) (E_ag_41 gh gj gb gd ge gg gm)) (pushF 1 (fun _ => (E_ag_9 gb gd ge gg)) (E_ag_42 gh gj gb gd ge gg gm)) (pushF 1 (fun _ => (E_ag_10 gb gd ge gg)) (E_ag_43 gh gj gb gd ge gg gm)) (pushF 1 (fun _ => (E_ag_11 gb gd ge gg)) (E_ag_44 gh gj gb gd ge gg gm)))
def E_ag_47 (gb gd ge gg gh gj gm : Int) : Int := (F_cz_2 2 (pushF 1 (fun _ => (E_ag_8 gb gd ge gg)) (E_ag_41 gh gj gb gd ge gg gm)) (pushF 1 (fun _ => (E_ag_9 gb gd ge gg)) (E_ag_42 gh gj gb gd ge gg gm)) (pushF 1 (fun _ => (E_ag_10 gb gd ge gg)) (E_ag_43 gh gj gb gd ge gg gm)) (pushF 1 (fun _ => (E_ag_11 gb gd ge gg)) (E_ag_44 gh gj gb gd ge gg gm)))
def E_ag_48 (gb gd ge gg gh gj gm : Int) : Bool := (F_cz_3 2 (pushF 1 (fun _ => (E_ag_8 gb gd ge gg)) (E_ag_41 gh gj gb gd ge gg gm)) (pushF 1 (fun _ => (E_ag_9 gb gd ge gg)) (E_ag_42 gh gj gb gd ge gg gm)) (pushF 1 (fun _ => (E_ag_10 gb gd ge gg)) (E_ag_43 gh gj gb gd ge gg gm)) (pushF 1 (fun _ => (E_ag_11 gb gd ge gg)) (E_ag_44 gh gj gb gd ge gg gm)))
def E_ag_49 (gb gd ge gg gh gj gm : Int) : Int := (F_di_0 (E_ag_45 gb gd ge gg gh gj gm) (E_ag_46 gb gd ge gg gh gj gm) (E_ag_47 gb gd ge gg gh gj gm) (E_ag_48 gb gd ge gg gh gj gm))
def E_ag_50 (gb gd ge gg gh gj gm : Int) : Bool := (F_di_1 (E_ag_45 gb gd ge gg gh gj gm) (E_ag_46 gb gd ge gg gh gj gm) (E_ag_47 gb gd ge gg gh gj gm) (E_ag_48 gb gd ge gg gh gj gm))
def E_ag_51 (gb gd ge gg gh gj gm : Int) : Int := (F_di_2 (E_ag_45 gb gd ge gg gh gj gm) (E_ag_46 gb gd ge gg gh gj gm) (E_ag_47 gb gd ge gg gh gj gm) (E_ag_48 gb gd ge gg gh gj gm))
def E_ag_52 (gb gd ge gg gh gj gm : Int) : Bool := (F_di_3 (E_ag_45 gb gd ge gg gh gj gm) (E_ag_46 gb gd ge gg gh gj gm) (E_ag_47 gb gd ge gg gh gj gm) (E_ag_48 gb gd ge gg gh gj gm))
def B_ag (cm ge gg gm : Int) (gq : Nat) (gu gv : Nat -> Int) (gb gd gh gj : Int) (K0 : Bool -> Int -> Bool -> Int -> Bool -> Int -> Bool -> Prop)  : Prop := Ts 6 (((P_a8 gh gj gb gd) /\ Ts 3 (((P_a8 gb gd ge gg) /\ Ts 4 ((true = true /\ Ts 2 (((P_fw (F_a8_0 gh gj gb gd) (F_a8_1 gh gj gb gd) (F_a8_0 gh gj gb gd) (F_a8_1 gh gj gb gd)) /\ Ts 2 (((P_fw (F_a8_0 gb gd ge gg) (F_a8_1 gb gd ge gg) (F_a8_0 gh gj gb gd) (F_a8_1 gh gj gb gd)) /\ Ts 2 (((P_fw (F_a8_0 gb gd ge gg) (F_a8_1 gb gd ge gg) (F_a8_0 gb gd ge gg) (F_a8_1 gb gd ge gg)) /\ Ts 9 ((true = true /\ Ts 2 (((P_bp cm ge gg gm gq gu gv gh gj) /\ Ts 2 (cond (!(F_bp_0 cm ge gg gm gq gu gv gh gj)) (Ts 3 (cond (ige (E_ag_1 gb gd ge gg gh gj) 0) (Ts 7 (K0 false 0 false 0 false 0 false)) (Ts 6 (cond (igt (ineg .i64 (E_ag_1 gb gd ge gg gh gj)) (E_ag_0 gh gj gb gd)) (Ts 5 (K0 false 0 false 0 false 0 false)) (Ts 4 (((P_eh (E_ag_1 gb gd ge gg gh gj) (E_ag_1 gb gd ge gg gh gj) (E_ag_0 gh gj gb gd) (isub .i64 (E_ag_2 gb gd ge gg) (imul .i64 gm gm))) /\ Ts 3 (cond (ilt (E_ag_3 gb gd ge gg gh gj gm) 0) (Ts 3 (K0 false 0 false 0 false 0 false)) (Ts 1 (((P_dt (F_a8_0 gh gj gb gd) (F_a8_1 gh gj gb gd)) /\ Ts 1 (((P_dt (F_a8_0 gb gd ge gg) (F_a8_1 gb gd ge gg)) /\ Ts 4 ((true = true /\ Ts 1 (((P_di (E_ag_4 gh gj gb gd) (E_ag_5 gh gj gb gd) (E_ag_6 gh gj gb gd) (E_ag_7 gh gj gb gd)) /\ Ts 8 (((P_b6 gm 256) /\ Ts 2 (((P_ew (E_ag_12 gh gj gb gd) (E_ag_13 gh gj gb gd) (E_ag_14 gh gj gb gd) (E_ag_15 gh gj gb gd) (E_ag_8 gb gd ge gg) (E_ag_9 gb gd ge gg) (E_ag_10 gb gd ge gg) (E_ag_11 gb gd ge gg)) /\ Ts 4 ((true = true /\ Ts 3 (((P_ct (F_b6_0 gm 256) (F_b6_1 gm 256) (F_b6_0 gm 256) (F_b6_1 gm 256)) /\ Ts 2 (((P_ct (E_ag_17 gh gj gb gd ge gg) (E_ag_18 gh gj gb gd ge gg) (E_ag_17 gh gj gb gd ge gg) (E_ag_18 gh gj gb gd ge gg)) /\ ((P_fh (E_ag_19 gm) (E_ag_20 gm) (E_ag_21 gh gj gb gd ge gg) (E_ag_22 gh gj gb gd ge gg)) /\ Ts 1 (((P_cv 2 (pushF 1 (fun _ => 0) (E_ag_23 gm gh gj gb gd ge gg)) (pushF 1 (fun _ => false) (E_ag_24 gm gh gj gb gd ge gg))) /\ ((P_dc (E_ag_25 gm gh gj gb gd ge gg) (E_ag_26 gm gh gj gb gd ge gg)) /\ Ts 2 ((true = true /\ Ts 2 (((P_ft (E_ag_12 gh gj gb gd) (E_ag_13 gh gj gb gd) (E_ag_14 gh gj gb gd) (E_ag_15 gh gj gb gd) (E_ag_8 gb gd ge gg) (E_ag_9 gb gd ge gg) (E_ag_10 gb gd ge gg) (E_ag_11 gb gd ge gg)) /\ ((P_ep (E_ag_29 gh gj gb gd ge gg) (E_ag_30 gh gj gb gd ge gg)) /\ Ts 1 (((P_fh (E_ag_31 gh gj gb gd ge gg) (E_ag_32 gh gj gb gd ge gg) (E_ag_27 gm gh gj gb gd ge gg) (E_ag_28 gm gh gj gb gd ge gg)) /\ Ts 1 (((P_bo (E_ag_4 gh gj gb gd) (E_ag_5 gh gj gb gd) (E_ag_6 gh gj gb gd) (E_ag_7 gh gj gb gd)) /\ ((P_dp (E_ag_33 gh gj gb gd ge gg gm) (E_ag_34 gh gj gb gd ge gg gm) (E_ag_35 gh gj gb gd) (E_ag_36 gh gj gb gd)) /\ Ts 2 ((true = true /\ Ts 3 (((P_eu (E_ag_37 gh gj gb gd ge gg gm) (E_ag_38 gh gj gb gd ge gg gm) 0 false 4294967296 false) /\ Ts 4 (((P_ef (E_ag_4 gh gj gb gd) (E_ag_5 gh gj gb gd) (E_ag_6 gh gj gb gd) (E_ag_7 gh gj gb gd) (E_ag_39 gh gj gb gd ge gg gm) (E_ag_40 gh gj gb gd ge gg gm)) /\ Ts 1 (((P_cz 2 (pushF 1 (fun _ => (E_ag_8 gb gd ge gg)) (E_ag_41 gh gj gb gd ge gg gm)) (pushF 1 (fun _ => (E_ag_9 gb gd ge gg)) (E_ag_42 gh gj gb gd ge gg gm)) (pushF 1 (fun _ => (E_ag_10 gb gd ge gg)) (E_ag_43 gh gj gb gd ge gg gm)) (pushF 1 (fun _ => (E_ag_11 gb gd ge gg)) (E_ag_44 gh gj gb gd ge gg gm))) /\ ((P_di (E_ag_45 gb gd ge gg gh gj gm) (E_ag_46 gb gd ge gg gh gj gm) (E_ag_47 gb gd ge gg gh gj gm) (E_ag_48 gb gd ge gg gh gj gm)) /\ Ts 6 ((true = true /\ Ts 5 (K0 true (E_ag_39 gh gj gb gd ge gg gm) (E_ag_40 gh gj gb gd ge gg gm) (E_ag_49 gb gd ge gg gh gj gm) (E_ag_50 gb gd ge gg gh gj gm) (E_ag_51 gb gd ge gg gh gj gm) (E_ag_52 gb gd ge gg gh gj gm)))))))))))))))))))))))))))))))))))))))))))))))))))))) (Ts 2 (((P_dt (F_a8_0 gh gj gb gd) (F_a8_1 gh gj gb gd)) /\ Ts 1 (((P_dt (F_a8_0 gb gd ge gg) (F_a8_1 gb gd ge gg)) /\ Ts 4 ((true = true /\ Ts 1 (((P_di (E_ag_4 gh gj gb gd) (E_ag_5 gh gj gb gd) (E_ag_6 gh gj gb gd) (E_ag_7 gh gj gb gd)) /\ Ts 8 (((P_b6 gm 256) /\ Ts 2 (((P_ew (E_ag_12 gh gj gb gd) (E_ag_13 gh gj gb gd) (E_ag_14 gh gj gb gd) (E_ag_15 gh gj gb gd) (E_ag_8 gb gd ge gg) (E_ag_9 gb gd ge gg) (E_ag_10 gb gd ge gg) (E_ag_11 gb gd ge gg)) /\ Ts 4 ((true = true /\ Ts 3 (((P_ct (F_b6_0 gm 256) (F_b6_1 gm 256) (F_b6_0 gm 256) (F_b6_1 gm 256)) /\ Ts 2 (((P_ct (E_ag_17 gh gj gb gd ge gg) (E_ag_18 gh gj gb gd ge gg) (E_ag_17 gh gj gb gd ge gg) (E_ag_18 gh gj gb gd ge gg)) /\ ((P_fh (E_ag_19 gm) (E_ag_20 gm) (E_ag_21 gh gj gb gd ge gg) (E_ag_22 gh gj gb gd ge gg)) /\ Ts 1 (((P_cv 2 (pushF 1 (fun _ => 0) (E_ag_23 gm gh gj gb gd ge gg)) (pushF 1 (fun _ => false) (E_ag_24 gm gh gj gb gd ge gg))) /\ ((P_dc (E_ag_25 gm gh gj gb gd ge gg) (E_ag_26 gm gh gj gb gd ge gg)) /\ Ts 2 ((true = true /\ Ts 2 (((P_ft (E_ag_12 gh gj gb gd) (E_ag_13 gh gj gb gd) (E_ag_14 gh gj gb gd) (E_ag_15 gh gj gb gd) (E_ag_8 gb gd ge gg) (E_ag_9 gb gd ge gg) (E_ag_10 gb gd ge gg) (E_ag_11 gb gd ge gg)) /\ ((P_ep (E_ag_29 gh gj gb gd ge gg) (E_ag_30 gh gj gb gd ge gg)) /\ Ts 1 (((P_fh (E_ag_31 gh gj gb gd ge gg) (E_ag_32 gh gj gb gd ge gg) (E_ag_27 gm gh gj gb gd ge gg) (E_ag_28 gm gh gj gb gd ge gg)) /\ Ts 1 (((P_bo (E_ag_4 gh gj gb gd) (E_ag_5 gh gj gb gd) (E_ag_6 gh gj gb gd) (E_ag_7 gh gj gb gd)) /\ ((P_dp (E_ag_33 gh gj gb gd ge gg gm) (E_ag_34 gh gj gb gd ge gg gm) (E_ag_35 gh gj gb gd) (E_ag_36 gh gj gb gd)) /\ Ts 2 ((true = true /\ Ts 3 (((P_eu (E_ag_37 gh gj gb gd ge gg gm) (E_ag_38 gh gj gb gd ge gg gm) 0 false 4294967296 false) /\ Ts 4 (((P_ef (E_ag_4 gh gj gb gd) (E_ag_5 gh gj gb gd) (E_ag_6 gh gj gb gd) (E_ag_7 gh gj gb gd) (E_ag_39 gh gj gb gd ge gg gm) (E_ag_40 gh gj gb gd ge gg gm)) /\ Ts 1 (((P_cz 2 (pushF 1 (fun _ => (E_ag_8 gb gd ge gg)) (E_ag_41 gh gj gb gd ge gg gm)) (pushF 1 (fun _ => (E_ag_9 gb gd ge gg)) (E_ag_42 gh gj gb gd ge gg gm)) (pushF 1 (fun _ => (E_ag_10 gb gd ge gg)) (E_ag_43 gh gj gb gd ge gg gm)) (pushF 1 (fun _ => (E_ag_11 gb gd ge gg)) (E_ag_44 gh gj gb gd ge gg gm))) /\ ((P_di (E_ag_45 gb gd ge gg gh gj gm) (E_ag_46 gb gd ge gg gh gj gm) (E_ag_47 gb gd ge gg gh gj gm) (E_ag_48 gb gd ge gg gh gj gm)) /\ Ts 6 ((true = true /\ Ts 5 (K0 true (E_ag_39 gh gj gb gd ge gg gm) (E_ag_40 gh gj gb gd ge gg gm) (E_ag_49 gb gd ge gg gh gj gm) (E_ag_50 gb gd ge gg gh gj gm) (E_ag_51 gb gd ge gg gh gj gm) (E_ag_52 gb gd ge gg gh gj gm)))))))))))))))))))))))))))))))))))))))))))))))))))))))))))))))
def P_ag (cm ge gg gm : Int) (gq : Nat) (gu gv : Nat -> Int) (gb gd gh gj : Int) : Prop := ((P_bp cm ge gg gm gq gu gv gh gj) /\ (cond (!(F_bp_0 cm ge gg gm gq gu gv gh gj)) (cond (ige (E_ag_1 gb gd ge gg gh gj) 0) True (cond (igt (ineg .i64 (E_ag_1 gb gd ge gg gh gj)) (E_ag_0 gh gj gb gd)) True (cond (ilt (E_ag_3 gb gd ge gg gh gj gm) 0) True ((P_dt (F_a8_0 gh gj gb gd) (F_a8_1 gh gj gb gd)) /\ ((P_dt (F_a8_0 gb gd ge gg) (F_a8_1 gb gd ge gg)) /\ ((P_di (E_ag_4 gh gj gb gd) (E_ag_5 gh gj gb gd) (E_ag_6 gh gj gb gd) (E_ag_7 gh gj gb gd)) /\ ((P_b6 gm 256) /\ ((P_ew (E_ag_12 gh gj gb gd) (E_ag_13 gh gj gb gd) (E_ag_14 gh gj gb gd) (E_ag_15 gh gj gb gd) (E_ag_8 gb gd ge gg) (E_ag_9 gb gd ge gg) (E_ag_10 gb gd ge gg) (E_ag_11 gb gd ge gg)) /\ ((P_fh (E_ag_19 gm) (E_ag_20 gm) (E_ag_21 gh gj gb gd ge gg) (E_ag_22 gh gj gb gd ge gg)) /\ ((P_cv 2 (pushF 1 (fun _ => 0) (E_ag_23 gm gh gj gb gd ge gg)) (pushF 1 (fun _ => false) (E_ag_24 gm gh gj gb gd ge gg))) /\ ((P_dc (E_ag_25 gm gh gj gb gd ge gg) (E_ag_26 gm gh gj gb gd ge gg)) /\ ((P_ft (E_ag_12 gh gj gb gd) (E_ag_13 gh gj gb gd) (E_ag_14 gh gj gb gd) (E_ag_15 gh gj gb gd) (E_ag_8 gb gd ge gg) (E_ag_9 gb gd ge gg) (E_ag_10 gb gd ge gg) (E_ag_11 gb gd ge gg)) /\ ((P_fh (E_ag_31 gh gj gb gd ge gg) (E_ag_32 gh gj gb gd ge gg) (E_ag_27 gm gh gj gb gd ge gg) (E_ag_28 gm gh gj gb gd ge gg)) /\ ((P_bo (E_ag_4 gh gj gb gd) (E_ag_5 gh gj gb gd) (E_ag_6 gh gj gb gd) (E_ag_7 gh gj gb gd)) /\ ((P_dp (E_ag_33 gh gj gb gd ge gg gm) (E_ag_34 gh gj gb gd ge gg gm) (E_ag_35 gh gj gb gd) (E_ag_36 gh gj gb gd)) /\ ((P_eu (E_ag_37 gh gj gb gd ge gg gm) (E_ag_38 gh gj gb gd ge gg gm) 0 false 4294967296 false) /\ ((P_cz 2 (pushF 1 (fun _ => (E_ag_8 gb gd ge gg)) (E_ag_41 gh gj gb gd ge gg gm)) (pushF 1 (fun _ => (E_ag_9 gb gd ge gg)) (E_ag_42 gh gj gb gd ge gg gm)) (pushF 1 (fun _ => (E_ag_10 gb gd ge gg)) (E_ag_43 gh gj gb gd ge gg gm)) (pushF 1 (fun _ => (E_ag_11 gb gd ge gg)) (E_ag_44 gh gj gb gd ge gg gm))) /\ (P_di (E_ag_45 gb gd ge gg gh gj gm) (E_ag_46 gb gd ge gg gh gj gm) (E_ag_47 gb gd ge gg gh gj gm) (E_ag_48 gb gd ge gg gh gj gm))))))))))))))))))) ((P_dt (F_a8_0 gh gj gb gd) (F_a8_1 gh gj gb gd)) /\ ((P_dt (F_a8_0 gb gd ge gg) (F_a8_1 gb gd ge gg)) /\ ((P_di (E_ag_4 gh gj gb gd) (E_ag_5 gh gj gb gd) (E_ag_6 gh gj gb gd) (E_ag_7 gh gj gb gd)) /\ ((P_b6 gm 256) /\ ((P_ew (E_ag_12 gh gj gb gd) (E_ag_13 gh gj gb gd) (E_ag_14 gh gj gb gd) (E_ag_15 gh gj gb gd) (E_ag_8 gb gd ge gg) (E_ag_9 gb gd ge gg) (E_ag_10 gb gd ge gg) (E_ag_11 gb gd ge gg)) /\ ((P_fh (E_ag_19 gm) (E_ag_20 gm) (E_ag_21 gh gj gb gd ge gg) (E_ag_22 gh gj gb gd ge gg)) /\ ((P_cv 2 (pushF 1 (fun _ => 0) (E_ag_23 gm gh gj gb gd ge gg)) (pushF 1 (fun _ => false) (E_ag_24 gm gh gj gb gd ge gg))) /\ ((P_dc (E_ag_25 gm gh gj gb gd ge gg) (E_ag_26 gm gh gj gb gd ge gg)) /\ ((P_ft (E_ag_12 gh gj gb gd) (E_ag_13 gh gj gb gd) (E_ag_14 gh gj gb gd) (E_ag_15 gh gj gb gd) (E_ag_8 gb gd ge gg) (E_ag_9 gb gd ge gg) (E_ag_10 gb gd ge gg) (E_ag_11 gb gd ge gg)) /\ ((P_fh (E_ag_31 gh gj gb gd ge gg) (E_ag_32 gh gj gb gd ge gg) (E_ag_27 gm gh gj gb gd ge gg) (E_ag_28 gm gh gj gb gd ge gg)) /\ ((P_bo (E_ag_4 gh gj gb gd) (E_ag_5 gh gj gb gd) (E_ag_6 gh gj gb gd) (E_ag_7 gh gj gb gd)) /\ ((P_dp (E_ag_33 gh gj gb gd ge gg gm) (E_ag_34 gh gj gb gd ge gg gm) (E_ag_35 gh gj gb gd) (E_ag_36 gh gj gb gd)) /\ ((P_eu (E_ag_37 gh gj gb gd ge gg gm) (E_ag_38 gh gj gb gd ge gg gm) 0 false 4294967296 false) /\ ((P_cz 2 (pushF 1 (fun _ => (E_ag_8 gb gd ge gg)) (E_ag_41 gh gj gb gd ge gg gm)) (pushF 1 (fun _ => (E_ag_9 gb gd ge gg)) (E_ag_42 gh gj gb gd ge gg gm)) (pushF 1 (fun _ => (E_ag_10 gb gd ge gg)) (E_ag_43 gh gj gb gd ge gg gm)) (pushF 1 (fun _ => (E_ag_11 gb gd ge gg)) (E_ag_44 gh gj gb gd ge gg gm))) /\ (P_di (E_ag_45 gb gd ge gg gh gj gm) (E_ag_46 gb gd ge gg gh gj gm) (E_ag_47 gb gd ge gg gh gj gm) (E_ag_48 gb gd ge gg gh gj gm))))))))))))))))))
def F_ag_0 (cm ge gg gm : Int) (gq : Nat) (gu gv : Nat -> Int) (gb gd gh gj : Int) : Bool := (cond (!(F_bp_0 cm ge gg gm gq gu gv gh gj)) (cond (ige (E_ag_1 gb gd ge gg gh gj) 0) false (cond (igt (ineg .i64 (E_ag_1 gb gd ge gg gh gj)) (E_ag_0 gh gj gb gd)) false (cond (ilt (E_ag_3 gb gd ge gg gh gj gm) 0) false true))) true)
def F_ag_1 (cm ge gg gm : Int) (gq : Nat) (gu gv : Nat -> Int) (gb gd gh gj : Int) : Int := (cond (!(F_bp_0 cm ge gg gm gq gu gv gh gj)) (cond (ige (E_ag_1 gb gd ge gg gh gj) 0) 0 (cond (igt (ineg .i64 (E_ag_1 gb gd ge gg gh gj)) (E_ag_0 gh gj gb gd)) 0 (cond (ilt (E_ag_3 gb gd ge gg gh gj gm) 0) 0 (E_ag_39 gh gj gb gd ge gg gm)))) (E_ag_39 gh gj gb gd ge gg gm))
def F_ag_2 (cm ge gg gm : Int) (gq : Nat) (gu gv : Nat -> Int) (gb gd gh gj : Int) : Bool := (cond (!(F_bp_0 cm ge gg gm gq gu gv gh gj)) (cond (ige (E_ag_1 gb gd ge gg gh gj) 0) false (cond (igt (ineg .i64 (E_ag_1 gb gd ge gg gh gj)) (E_ag_0 gh gj gb gd)) false (cond (ilt (E_ag_3 gb gd ge gg gh gj gm) 0) false (E_ag_40 gh gj gb gd ge gg gm)))) (E_ag_40 gh gj gb gd ge gg gm))
def F_ag_3 (cm ge gg gm : Int) (gq : Nat) (gu gv : Nat -> Int) (gb gd gh gj : Int) : Int := (cond (!(F_bp_0 cm ge gg gm gq gu gv gh gj)) (cond (ige (E_ag_1 gb gd ge gg gh gj) 0) 0 (cond (igt (ineg .i64 (E_ag_1 gb gd ge gg gh gj)) (E_ag_0 gh gj gb gd)) 0 (cond (ilt (E_ag_3 gb gd ge gg gh gj gm) 0) 0 (E_ag_49 gb gd ge gg gh gj gm)))) (E_ag_49 gb gd ge gg gh gj gm))
def F_ag_4 (cm ge gg gm : Int) (gq : Nat) (gu gv : Nat -> Int) (gb gd gh gj : Int) : Bool := (cond (!(F_bp_0 cm ge gg gm gq gu gv gh gj)) (cond (ige (E_ag_1 gb gd ge gg gh gj) 0) false (cond (igt (ineg .i64 (E_ag_1 gb gd ge gg gh gj)) (E_ag_0 gh gj gb gd)) false (cond (ilt (E_ag_3 gb gd ge gg gh gj gm) 0) false (E_ag_50 gb gd ge gg gh gj gm)))) (E_ag_50 gb gd ge gg gh gj gm))
def F_ag_5 (cm ge gg gm : Int) (gq : Nat) (gu gv : Nat -> Int) (gb gd gh gj : Int) : Int := (cond (!(F_bp_0 cm ge gg gm gq gu gv gh gj)) (cond (ige (E_ag_1 gb gd ge gg gh gj) 0) 0 (cond (igt (ineg .i64 (E_ag_1 gb gd ge gg gh gj)) (E_ag_0 gh gj gb gd)) 0 (cond (ilt (E_ag_3 gb gd ge gg gh gj gm) 0) 0 (E_ag_51 gb gd ge gg gh gj gm)))) (E_ag_51 gb gd ge gg gh gj gm))
def F_ag_6 (cm ge gg gm : Int) (gq : Nat) (gu gv : Nat -> Int) (gb gd gh gj : Int) : Bool := (cond (!(F_bp_0 cm ge gg gm gq gu gv gh gj)) (cond (ige (E_ag_1 gb gd ge gg gh gj) 0) false (cond (igt (ineg .i64 (E_ag_1 gb gd ge gg gh gj)) (E_ag_0 gh gj gb gd)) false (cond (ilt (E_ag_3 gb gd ge gg gh gj gm) 0) false (E_ag_52 gb gd ge gg gh gj gm)))) (E_ag_52 gb gd ge gg gh gj gm))
theorem H_ag (cm ge gg gm : Int) (gq : Nat) (gu gv : Nat -> Int) (gb gd gh gj : Int) {K0 : Bool -> Int -> Bool -> Int -> Bool -> Int -> Bool -> Prop} (h : P_ag cm ge gg gm gq gu gv gb gd gh gj) (hK : K0 (F_ag_0 cm ge gg gm gq gu gv gb gd gh gj) (F_ag_1 cm ge gg gm gq gu gv gb gd gh gj) (F_ag_2 cm ge gg gm gq gu gv gb gd gh gj) (F_ag_3 cm ge gg gm gq gu gv gb gd gh gj) (F_ag_4 cm ge gg gm gq gu gv gb gd gh gj) (F_ag_5 cm ge gg gm gq gu gv gb gd gh gj) (F_ag_6 cm ge gg gm gq gu gv gb gd gh gj)) : B_ag cm ge gg gm gq gu gv gb gd gh gj K0  := by
 unfold B_ag P_ag F_ag_0 F_ag_1 F_ag_2 F_ag_3 F_ag_4 F_ag_5 F_ag_6 at *
 simp only [Ts_iff, true_and]; try simp only [Ts_iff, true_and] at h
 repeat' first | exact hK | (refine cond_intro (fun c => ?_) (fun c => ?_) <;> try simp only [c, cond_true, cond_false] at h hK ⊢) | refine ⟨rfl, ?_⟩ | refine ⟨trivial, ?_⟩ | refine ⟨by decide, ?_⟩ | (refine ⟨h.1, ?_⟩; replace h := h.2) | refine ⟨h, ?_⟩
theorem way_0 (a b c d : Int) : F_bn_0 a b c d = F_a8_0 c d a b := rfl
theorem way_1 (a b c d : Int) : F_bn_1 a b c d = F_a8_1 c d a b := rfl
theorem nOne : Num' 4294967296 := ⟨by decide, by decide⟩
theorem int1 : F_et_0 1 = 4294967296 /\ F_et_1 1 = false := by
  obtain ⟨_, e1, e2⟩ := fxInt_ok (v := 1) ⟨by decide, by decide⟩
  rw [e1, e2, satN_id ⟨by decide, by decide⟩, satB_id ⟨by decide, by decide⟩]
  exact ⟨rfl, rfl⟩
theorem minus_num {x0 y0 x1 y1 : Int} (h0 : spotOK x0 y0 = true) (h1 : spotOK x1 y1 = true) : Num' (F_a8_0 x0 y0 x1 y1) /\ Num' (F_a8_1 x0 y0 x1 y1) := by
  rw [spotOK_iff] at h0 h1
  unfold F_a8_0 F_a8_1
  rw [isub64 (by omega) (by omega), isub64 (by omega) (by omega)]
  exact ⟨⟨by omega, by omega⟩, ⟨by omega, by omega⟩⟩
theorem sq_nn (x : Int) : 0 <= x * x := by
  rcases Int.le_total 0 x with h | h
  · exact Int.mul_nonneg h h
  · exact Int.mul_nonneg_of_nonpos_of_nonpos h h
theorem ray_dots {cx cy fx fy tx ty r : Int} (hc : spotOK cx cy = true) (hf : spotOK fx fy = true) (ht : spotOK tx ty = true) (hr0 : 1 <= r /\ r <= 2097152) :
    E_ag_0 tx ty fx fy = (tx - fx) * (tx - fx) + (ty - fy) * (ty - fy) /\ E_ag_1 fx fy cx cy tx ty = (fx - cx) * (tx - fx) + (fy - cy) * (ty - fy) /\ isub .i64 (E_ag_2 fx fy cx cy) (imul .i64 r r) = (fx - cx) * (fx - cx) + (fy - cy) * (fy - cy) - r * r /\ imul .i64 r r = r * r /\
    F_fw_0 (F_a8_0 tx ty cx cy) (F_a8_1 tx ty cx cy) (F_a8_0 tx ty cx cy) (F_a8_1 tx ty cx cy) = (tx - cx) * (tx - cx) + (ty - cy) * (ty - cy) := by
  rw [spotOK_iff] at hc hf ht
  unfold E_ag_0 E_ag_1 E_ag_2 F_fw_0 F_a8_0 F_a8_1
  have b := fun (p q : Int) (h1 : -4194304 <= p) (h2 : p <= 4194304) (h3 : -4194304 <= q) (h4 : q <= 4194304) => mul_in h1 h2 h3 h4
  have s1 := b (tx - fx) (tx - fx) (by omega) (by omega) (by omega) (by omega)
  have s2 := b (ty - fy) (ty - fy) (by omega) (by omega) (by omega) (by omega)
  have s3 := b (fx - cx) (tx - fx) (by omega) (by omega) (by omega) (by omega)
  have s4 := b (fy - cy) (ty - fy) (by omega) (by omega) (by omega) (by omega)
  have s5 := b (fx - cx) (fx - cx) (by omega) (by omega) (by omega) (by omega)
  have s6 := b (fy - cy) (fy - cy) (by omega) (by omega) (by omega) (by omega)
  have s7 := b (tx - cx) (tx - cx) (by omega) (by omega) (by omega) (by omega)
  have s8 := b (ty - cy) (ty - cy) (by omega) (by omega) (by omega) (by omega)
  have s9 := b r r (by omega) (by omega) (by omega) (by omega)
  rw [isub64 (a := tx) (b := fx) (by omega) (by omega), isub64 (a := ty) (b := fy) (by omega) (by omega), isub64 (a := fx) (b := cx) (by omega) (by omega), isub64 (a := fy) (b := cy) (by omega) (by omega), isub64 (a := tx) (b := cx) (by omega) (by omega), isub64 (a := ty) (b := cy) (by omega) (by omega)]
  rw [imul64 (a := tx - fx) (b := tx - fx) (by omega) (by omega), imul64 (a := ty - fy) (b := ty - fy) (by omega) (by omega), imul64 (a := fx - cx) (b := tx - fx) (by omega) (by omega), imul64 (a := fy - cy) (b := ty - fy) (by omega) (by omega), imul64 (a := fx - cx) (b := fx - cx) (by omega) (by omega), imul64 (a := fy - cy) (b := fy - cy) (by omega) (by omega), imul64 (a := tx - cx) (b := tx - cx) (by omega) (by omega), imul64 (a := ty - cy) (b := ty - cy) (by omega) (by omega), imul64 (a := r) (b := r) (by omega) (by omega)]
  rw [iadd64 (by omega) (by omega), iadd64 (by omega) (by omega), iadd64 (by omega) (by omega), iadd64 (by omega) (by omega), isub64 (by omega) (by omega)]
  exact ⟨rfl, rfl, rfl, rfl, rfl⟩
theorem expand2 (p q : Int) : (p + q) * (p + q) = p * p + 2 * (p * q) + q * q := by
  rw [Int.add_mul, Int.mul_add, Int.mul_add, Int.mul_comm q p]; omega
theorem ray_eq {k cx cy r fx fy tx ty : Int} {n : Nat} {da db : Nat -> Int} (hk : ieq k 1 = true) (hr0 : 1 <= r /\ r <= 2097152) (hn : n <= 1000000) (hc : spotOK cx cy = true) (hf : spotOK fx fy = true) (ht : spotOK tx ty = true) : P_aa cx cy r fx fy tx ty /\ P_ag k cx cy r n da db fx fy tx ty /\
    F_aa_0 cx cy r fx fy tx ty = F_ag_0 k cx cy r n da db fx fy tx ty /\ F_aa_1 cx cy r fx fy tx ty = F_ag_1 k cx cy r n da db fx fy tx ty /\ F_aa_2 cx cy r fx fy tx ty = F_ag_2 k cx cy r n da db fx fy tx ty /\ F_aa_3 cx cy r fx fy tx ty = F_ag_3 k cx cy r n da db fx fy tx ty /\ F_aa_4 cx cy r fx fy tx ty = F_ag_4 k cx cy r n da db fx fy tx ty /\ F_aa_5 cx cy r fx fy tx ty = F_ag_5 k cx cy r n da db fx fy tx ty /\ F_aa_6 cx cy r fx fy tx ty = F_ag_6 k cx cy r n da db fx fy tx ty := by
  have hfc := minus_num hf hc
  have htf := minus_num ht hf
  have hr : Num' r := ⟨by omega, by omega⟩
  obtain ⟨pr1, pr2, er0, er1, mr⟩ := radius_pk hr
  obtain ⟨ei0, ei1⟩ := int1
  obtain ⟨pA1, pB1, q1_0, q1_1, q1_2, q1_3, n1_0, n1_2⟩ := @Local_pk (F_a8_0 fx fy cx cy) (F_a8_1 fx fy cx cy)  hfc.1 hfc.2
  have e_E_aa_4 : (E_aa_4 cx cy fx fy) = (E_ag_8 fx fy cx cy) := by unfold E_aa_4; exact q1_0
  have m_E_aa_4 : Num' (E_ag_8 fx fy cx cy) := n1_0
  have e_E_aa_5 : (E_aa_5 cx cy fx fy) = (E_ag_9 fx fy cx cy) := by unfold E_aa_5; exact q1_1
  have e_E_aa_6 : (E_aa_6 cx cy fx fy) = (E_ag_10 fx fy cx cy) := by unfold E_aa_6; exact q1_2
  have m_E_aa_6 : Num' (E_ag_10 fx fy cx cy) := n1_2
  have e_E_aa_7 : (E_aa_7 cx cy fx fy) = (E_ag_11 fx fy cx cy) := by unfold E_aa_7; exact q1_3
  obtain ⟨pA2, pB2, q2_0, q2_1, q2_2, q2_3, n2_0, n2_2⟩ := @Local_pk (F_a8_0 tx ty fx fy) (F_a8_1 tx ty fx fy)  htf.1 htf.2
  have e_E_aa_8 : (E_aa_8 fx fy tx ty) = (E_ag_4 tx ty fx fy) := by unfold E_aa_8; exact q2_0
  have m_E_aa_8 : Num' (E_ag_4 tx ty fx fy) := n2_0
  have e_E_aa_9 : (E_aa_9 fx fy tx ty) = (E_ag_5 tx ty fx fy) := by unfold E_aa_9; exact q2_1
  have e_E_aa_10 : (E_aa_10 fx fy tx ty) = (E_ag_6 tx ty fx fy) := by unfold E_aa_10; exact q2_2
  have m_E_aa_10 : Num' (E_ag_6 tx ty fx fy) := n2_2
  have e_E_aa_11 : (E_aa_11 fx fy tx ty) = (E_ag_7 tx ty fx fy) := by unfold E_aa_11; exact q2_3
  obtain ⟨pA3, pB3, q3_0, q3_1, q3_2, q3_3, q3_4, n3_0, n3_2⟩ := @Unit_pk (E_ag_4 tx ty fx fy) (E_ag_6 tx ty fx fy) (E_ag_5 tx ty fx fy) (E_ag_7 tx ty fx fy) m_E_aa_8 m_E_aa_10
  have e_E_aa_12 : (E_aa_12 fx fy tx ty) = (E_ag_12 tx ty fx fy) := by unfold E_aa_12; simp only [e_E_aa_8, e_E_aa_9, e_E_aa_10, e_E_aa_11]; exact q3_0
  have m_E_aa_12 : Num' (E_ag_12 tx ty fx fy) := n3_0
  have e_E_aa_13 : (E_aa_13 fx fy tx ty) = (E_ag_13 tx ty fx fy) := by unfold E_aa_13; simp only [e_E_aa_8, e_E_aa_9, e_E_aa_10, e_E_aa_11]; exact q3_1
  have e_E_aa_14 : (E_aa_14 fx fy tx ty) = (E_ag_14 tx ty fx fy) := by unfold E_aa_14; simp only [e_E_aa_8, e_E_aa_9, e_E_aa_10, e_E_aa_11]; exact q3_2
  have m_E_aa_14 : Num' (E_ag_14 tx ty fx fy) := n3_2
  have e_E_aa_15 : (E_aa_15 fx fy tx ty) = (E_ag_15 tx ty fx fy) := by unfold E_aa_15; simp only [e_E_aa_8, e_E_aa_9, e_E_aa_10, e_E_aa_11]; exact q3_3
  obtain ⟨pA4, pB4, q4_0, q4_1, n4_0⟩ := @vCross_pk (E_ag_12 tx ty fx fy) (E_ag_14 tx ty fx fy) (E_ag_8 fx fy cx cy) (E_ag_10 fx fy cx cy) (E_ag_13 tx ty fx fy) (E_ag_15 tx ty fx fy) (E_ag_9 fx fy cx cy) (E_ag_11 fx fy cx cy) m_E_aa_12 m_E_aa_14 m_E_aa_4 m_E_aa_6
  have e_E_aa_17 : (E_aa_17 fx fy tx ty cx cy) = (E_ag_17 tx ty fx fy cx cy) := by unfold E_aa_17; simp only [e_E_aa_12, e_E_aa_13, e_E_aa_14, e_E_aa_15, e_E_aa_4, e_E_aa_5, e_E_aa_6, e_E_aa_7]; exact q4_0
  have m_E_aa_17 : Num' (E_ag_17 tx ty fx fy cx cy) := n4_0
  have e_E_aa_18 : (E_aa_18 fx fy tx ty cx cy) = (E_ag_18 tx ty fx fy cx cy) := by unfold E_aa_18; simp only [e_E_aa_12, e_E_aa_13, e_E_aa_14, e_E_aa_15, e_E_aa_4, e_E_aa_5, e_E_aa_6, e_E_aa_7]; exact q4_1
  obtain ⟨pA5, pB5, q5_0, q5_1, n5_0⟩ := @Mul_pk (F_b6_0 r 256) (F_b6_0 r 256) (F_b6_1 r 256) (F_b6_1 r 256) mr mr
  have e_E_aa_19 : (E_aa_19 r) = (E_ag_19 r) := by unfold E_aa_19; simp only [er0, er1]; exact q5_0
  have m_E_aa_19 : Num' (E_ag_19 r) := n5_0
  have e_E_aa_20 : (E_aa_20 r) = (E_ag_20 r) := by unfold E_aa_20; simp only [er0, er1]; exact q5_1
  obtain ⟨pA6, pB6, q6_0, q6_1, n6_0⟩ := @Mul_pk (E_ag_17 tx ty fx fy cx cy) (E_ag_17 tx ty fx fy cx cy) (E_ag_18 tx ty fx fy cx cy) (E_ag_18 tx ty fx fy cx cy) m_E_aa_17 m_E_aa_17
  have e_E_aa_21 : (E_aa_21 fx fy tx ty cx cy) = (E_ag_21 tx ty fx fy cx cy) := by unfold E_aa_21; simp only [e_E_aa_17, e_E_aa_18]; exact q6_0
  have m_E_aa_21 : Num' (E_ag_21 tx ty fx fy cx cy) := n6_0
  have e_E_aa_22 : (E_aa_22 fx fy tx ty cx cy) = (E_ag_22 tx ty fx fy cx cy) := by unfold E_aa_22; simp only [e_E_aa_17, e_E_aa_18]; exact q6_1
  obtain ⟨pA7, pB7, q7_0, q7_1, n7_0⟩ := @Sub_pk (E_ag_19 r) (E_ag_21 tx ty fx fy cx cy) (E_ag_20 r) (E_ag_22 tx ty fx fy cx cy) m_E_aa_19 m_E_aa_21
  have e_E_aa_23 : (E_aa_23 r fx fy tx ty cx cy) = (E_ag_23 r tx ty fx fy cx cy) := by unfold E_aa_23; simp only [e_E_aa_19, e_E_aa_20, e_E_aa_21, e_E_aa_22]; exact q7_0
  have m_E_aa_23 : Num' (E_ag_23 r tx ty fx fy cx cy) := n7_0
  have e_E_aa_24 : (E_aa_24 r fx fy tx ty cx cy) = (E_ag_24 r tx ty fx fy cx cy) := by unfold E_aa_24; simp only [e_E_aa_19, e_E_aa_20, e_E_aa_21, e_E_aa_22]; exact q7_1
  obtain ⟨pA8, pB8, q8_0, q8_1, n8_0⟩ := @positive_pk (E_ag_23 r tx ty fx fy cx cy) (E_ag_24 r tx ty fx fy cx cy) m_E_aa_23
  have e_E_aa_25 : (E_aa_25 r fx fy tx ty cx cy) = (E_ag_25 r tx ty fx fy cx cy) := by unfold E_aa_25; simp only [e_E_aa_23, e_E_aa_24]; exact q8_0
  have m_E_aa_25 : Num' (E_ag_25 r tx ty fx fy cx cy) := n8_0
  have e_E_aa_26 : (E_aa_26 r fx fy tx ty cx cy) = (E_ag_26 r tx ty fx fy cx cy) := by unfold E_aa_26; simp only [e_E_aa_23, e_E_aa_24]; exact q8_1
  obtain ⟨pA9, pB9, q9_0, q9_1, n9_0⟩ := @Sqrt_pk (E_ag_25 r tx ty fx fy cx cy) (E_ag_26 r tx ty fx fy cx cy) m_E_aa_25
  have e_E_aa_27 : (E_aa_27 r fx fy tx ty cx cy) = (E_ag_27 r tx ty fx fy cx cy) := by unfold E_aa_27; simp only [e_E_aa_25, e_E_aa_26]; exact q9_0
  have m_E_aa_27 : Num' (E_ag_27 r tx ty fx fy cx cy) := n9_0
  have e_E_aa_28 : (E_aa_28 r fx fy tx ty cx cy) = (E_ag_28 r tx ty fx fy cx cy) := by unfold E_aa_28; simp only [e_E_aa_25, e_E_aa_26]; exact q9_1
  obtain ⟨pA10, pB10, q10_0, q10_1, n10_0⟩ := @vDot_pk (E_ag_12 tx ty fx fy) (E_ag_14 tx ty fx fy) (E_ag_8 fx fy cx cy) (E_ag_10 fx fy cx cy) (E_ag_13 tx ty fx fy) (E_ag_15 tx ty fx fy) (E_ag_9 fx fy cx cy) (E_ag_11 fx fy cx cy) m_E_aa_12 m_E_aa_14 m_E_aa_4 m_E_aa_6
  have e_E_aa_29 : (E_aa_29 fx fy tx ty cx cy) = (E_ag_29 tx ty fx fy cx cy) := by unfold E_aa_29; simp only [e_E_aa_12, e_E_aa_13, e_E_aa_14, e_E_aa_15, e_E_aa_4, e_E_aa_5, e_E_aa_6, e_E_aa_7]; exact q10_0
  have m_E_aa_29 : Num' (E_ag_29 tx ty fx fy cx cy) := n10_0
  have e_E_aa_30 : (E_aa_30 fx fy tx ty cx cy) = (E_ag_30 tx ty fx fy cx cy) := by unfold E_aa_30; simp only [e_E_aa_12, e_E_aa_13, e_E_aa_14, e_E_aa_15, e_E_aa_4, e_E_aa_5, e_E_aa_6, e_E_aa_7]; exact q10_1
  obtain ⟨q11_0, q11_1, n11_0⟩ := @Neg_pk (E_ag_29 tx ty fx fy cx cy) (E_ag_30 tx ty fx fy cx cy) m_E_aa_29
  have e_E_aa_31 : (E_aa_31 fx fy tx ty cx cy) = (E_ag_31 tx ty fx fy cx cy) := by unfold E_aa_31; simp only [e_E_aa_29, e_E_aa_30]; exact q11_0
  have m_E_aa_31 : Num' (E_ag_31 tx ty fx fy cx cy) := n11_0
  have e_E_aa_32 : (E_aa_32 fx fy tx ty cx cy) = (E_ag_32 tx ty fx fy cx cy) := by unfold E_aa_32; simp only [e_E_aa_29, e_E_aa_30]; exact q11_1
  obtain ⟨pA12, pB12, q12_0, q12_1, n12_0⟩ := @Sub_pk (E_ag_31 tx ty fx fy cx cy) (E_ag_27 r tx ty fx fy cx cy) (E_ag_32 tx ty fx fy cx cy) (E_ag_28 r tx ty fx fy cx cy) m_E_aa_31 m_E_aa_27
  have e_E_aa_33 : (E_aa_33 fx fy tx ty cx cy r) = (E_ag_33 tx ty fx fy cx cy r) := by unfold E_aa_33; simp only [e_E_aa_31, e_E_aa_32, e_E_aa_27, e_E_aa_28]; exact q12_0
  have m_E_aa_33 : Num' (E_ag_33 tx ty fx fy cx cy r) := n12_0
  have e_E_aa_34 : (E_aa_34 fx fy tx ty cx cy r) = (E_ag_34 tx ty fx fy cx cy r) := by unfold E_aa_34; simp only [e_E_aa_31, e_E_aa_32, e_E_aa_27, e_E_aa_28]; exact q12_1
  obtain ⟨pA13, pB13, q13_0, q13_1, n13_0⟩ := @vLen_pk (E_ag_4 tx ty fx fy) (E_ag_6 tx ty fx fy) (E_ag_5 tx ty fx fy) (E_ag_7 tx ty fx fy) m_E_aa_8 m_E_aa_10
  have e_E_aa_35 : (E_aa_35 fx fy tx ty) = (E_ag_35 tx ty fx fy) := by unfold E_aa_35; simp only [e_E_aa_8, e_E_aa_9, e_E_aa_10, e_E_aa_11]; exact q13_0
  have m_E_aa_35 : Num' (E_ag_35 tx ty fx fy) := n13_0
  have e_E_aa_36 : (E_aa_36 fx fy tx ty) = (E_ag_36 tx ty fx fy) := by unfold E_aa_36; simp only [e_E_aa_8, e_E_aa_9, e_E_aa_10, e_E_aa_11]; exact q13_1
  obtain ⟨pA14, pB14, q14_0, q14_1, n14_0⟩ := @Div_pk (E_ag_33 tx ty fx fy cx cy r) (E_ag_35 tx ty fx fy) (E_ag_34 tx ty fx fy cx cy r) (E_ag_36 tx ty fx fy) m_E_aa_33 m_E_aa_35
  have e_E_aa_37 : (E_aa_37 fx fy tx ty cx cy r) = (E_ag_37 tx ty fx fy cx cy r) := by unfold E_aa_37; simp only [e_E_aa_33, e_E_aa_34, e_E_aa_35, e_E_aa_36]; exact q14_0
  have m_E_aa_37 : Num' (E_ag_37 tx ty fx fy cx cy r) := n14_0
  have e_E_aa_38 : (E_aa_38 fx fy tx ty cx cy r) = (E_ag_38 tx ty fx fy cx cy r) := by unfold E_aa_38; simp only [e_E_aa_33, e_E_aa_34, e_E_aa_35, e_E_aa_36]; exact q14_1
  obtain ⟨pA15, pB15, q15_0, q15_1, n15_0⟩ := @Clamp_pk (E_ag_37 tx ty fx fy cx cy r) 0 4294967296 (E_ag_38 tx ty fx fy cx cy r) false false m_E_aa_37 n0 nOne
  have e_E_aa_39 : (E_aa_39 fx fy tx ty cx cy r) = (E_ag_39 tx ty fx fy cx cy r) := by unfold E_aa_39; simp only [e_E_aa_37, e_E_aa_38, ei0, ei1]; exact q15_0
  have m_E_aa_39 : Num' (E_ag_39 tx ty fx fy cx cy r) := n15_0
  have e_E_aa_40 : (E_aa_40 fx fy tx ty cx cy r) = (E_ag_40 tx ty fx fy cx cy r) := by unfold E_aa_40; simp only [e_E_aa_37, e_E_aa_38, ei0, ei1]; exact q15_1
  obtain ⟨pA16, pB16, q16_0, q16_1, q16_2, q16_3, n16_0, n16_2⟩ := @vScale_pk (E_ag_4 tx ty fx fy) (E_ag_6 tx ty fx fy) (E_ag_39 tx ty fx fy cx cy r) (E_ag_5 tx ty fx fy) (E_ag_7 tx ty fx fy) (E_ag_40 tx ty fx fy cx cy r) m_E_aa_8 m_E_aa_10 m_E_aa_39
  have e_E_aa_41 : (E_aa_41 fx fy tx ty cx cy r) = (E_ag_41 tx ty fx fy cx cy r) := by unfold E_aa_41; simp only [e_E_aa_8, e_E_aa_9, e_E_aa_10, e_E_aa_11, e_E_aa_39, e_E_aa_40]; exact q16_0
  have m_E_aa_41 : Num' (E_ag_41 tx ty fx fy cx cy r) := n16_0
  have e_E_aa_42 : (E_aa_42 fx fy tx ty cx cy r) = (E_ag_42 tx ty fx fy cx cy r) := by unfold E_aa_42; simp only [e_E_aa_8, e_E_aa_9, e_E_aa_10, e_E_aa_11, e_E_aa_39, e_E_aa_40]; exact q16_1
  have e_E_aa_43 : (E_aa_43 fx fy tx ty cx cy r) = (E_ag_43 tx ty fx fy cx cy r) := by unfold E_aa_43; simp only [e_E_aa_8, e_E_aa_9, e_E_aa_10, e_E_aa_11, e_E_aa_39, e_E_aa_40]; exact q16_2
  have m_E_aa_43 : Num' (E_ag_43 tx ty fx fy cx cy r) := n16_2
  have e_E_aa_44 : (E_aa_44 fx fy tx ty cx cy r) = (E_ag_44 tx ty fx fy cx cy r) := by unfold E_aa_44; simp only [e_E_aa_8, e_E_aa_9, e_E_aa_10, e_E_aa_11, e_E_aa_39, e_E_aa_40]; exact q16_3
  obtain ⟨pA17, pB17, q17_0, q17_1, q17_2, q17_3, n17_0, n17_2⟩ := @vAdd_pk (E_ag_8 fx fy cx cy) (E_ag_10 fx fy cx cy) (E_ag_41 tx ty fx fy cx cy r) (E_ag_43 tx ty fx fy cx cy r) (E_ag_9 fx fy cx cy) (E_ag_11 fx fy cx cy) (E_ag_42 tx ty fx fy cx cy r) (E_ag_44 tx ty fx fy cx cy r) m_E_aa_4 m_E_aa_6 m_E_aa_41 m_E_aa_43
  have e_E_aa_45 : (E_aa_45 cx cy fx fy tx ty r) = (E_ag_45 fx fy cx cy tx ty r) := by unfold E_aa_45; simp only [e_E_aa_4, e_E_aa_41, e_E_aa_5, e_E_aa_42, e_E_aa_6, e_E_aa_43, e_E_aa_7, e_E_aa_44]; exact q17_0
  have m_E_aa_45 : Num' (E_ag_45 fx fy cx cy tx ty r) := n17_0
  have e_E_aa_46 : (E_aa_46 cx cy fx fy tx ty r) = (E_ag_46 fx fy cx cy tx ty r) := by unfold E_aa_46; simp only [e_E_aa_4, e_E_aa_41, e_E_aa_5, e_E_aa_42, e_E_aa_6, e_E_aa_43, e_E_aa_7, e_E_aa_44]; exact q17_1
  have e_E_aa_47 : (E_aa_47 cx cy fx fy tx ty r) = (E_ag_47 fx fy cx cy tx ty r) := by unfold E_aa_47; simp only [e_E_aa_4, e_E_aa_41, e_E_aa_5, e_E_aa_42, e_E_aa_6, e_E_aa_43, e_E_aa_7, e_E_aa_44]; exact q17_2
  have m_E_aa_47 : Num' (E_ag_47 fx fy cx cy tx ty r) := n17_2
  have e_E_aa_48 : (E_aa_48 cx cy fx fy tx ty r) = (E_ag_48 fx fy cx cy tx ty r) := by unfold E_aa_48; simp only [e_E_aa_4, e_E_aa_41, e_E_aa_5, e_E_aa_42, e_E_aa_6, e_E_aa_43, e_E_aa_7, e_E_aa_44]; exact q17_3
  obtain ⟨pA18, pB18, q18_0, q18_1, q18_2, q18_3, q18_4, n18_0, n18_2⟩ := @Unit_pk (E_ag_45 fx fy cx cy tx ty r) (E_ag_47 fx fy cx cy tx ty r) (E_ag_46 fx fy cx cy tx ty r) (E_ag_48 fx fy cx cy tx ty r) m_E_aa_45 m_E_aa_47
  have e_E_aa_49 : (E_aa_49 cx cy fx fy tx ty r) = (E_ag_49 fx fy cx cy tx ty r) := by unfold E_aa_49; simp only [e_E_aa_45, e_E_aa_46, e_E_aa_47, e_E_aa_48]; exact q18_0
  have m_E_aa_49 : Num' (E_ag_49 fx fy cx cy tx ty r) := n18_0
  have e_E_aa_50 : (E_aa_50 cx cy fx fy tx ty r) = (E_ag_50 fx fy cx cy tx ty r) := by unfold E_aa_50; simp only [e_E_aa_45, e_E_aa_46, e_E_aa_47, e_E_aa_48]; exact q18_1
  have e_E_aa_51 : (E_aa_51 cx cy fx fy tx ty r) = (E_ag_51 fx fy cx cy tx ty r) := by unfold E_aa_51; simp only [e_E_aa_45, e_E_aa_46, e_E_aa_47, e_E_aa_48]; exact q18_2
  have m_E_aa_51 : Num' (E_ag_51 fx fy cx cy tx ty r) := n18_2
  have e_E_aa_52 : (E_aa_52 cx cy fx fy tx ty r) = (E_ag_52 fx fy cx cy tx ty r) := by unfold E_aa_52; simp only [e_E_aa_45, e_E_aa_46, e_E_aa_47, e_E_aa_48]; exact q18_3
  obtain ⟨v0, v1, v2, vr, v3⟩ := ray_dots hc hf ht hr0
  have d0 : E_aa_0 fx fy tx ty = E_ag_0 tx ty fx fy := rfl
  have d1 : E_aa_1 cx cy fx fy tx ty = E_ag_1 fx fy cx cy tx ty := rfl
  have d2 : E_aa_2 cx cy fx fy = E_ag_2 fx fy cx cy := rfl
  have has : F_dm_0 cx cy r tx ty = F_bp_0 k cx cy r n da db tx ty := by unfold F_bp_0; rw [hk]; rfl
  have hasv : F_bp_0 k cx cy r n da db tx ty = ile ((tx - cx) * (tx - cx) + (ty - cy) * (ty - cy)) (r * r) := by unfold F_bp_0; rw [hk, cond_true, v3, vr]
  obtain ⟨a, ha⟩ : ∃ a, (tx - fx) * (tx - fx) + (ty - fy) * (ty - fy) = a := ⟨_, rfl⟩
  obtain ⟨b, hb⟩ : ∃ b, (fx - cx) * (tx - fx) + (fy - cy) * (ty - fy) = b := ⟨_, rfl⟩
  obtain ⟨c, hcc⟩ : ∃ c, (fx - cx) * (fx - cx) + (fy - cy) * (fy - cy) - r * r = c := ⟨_, rfl⟩
  have hexp : (tx - cx) * (tx - cx) + (ty - cy) * (ty - cy) - r * r = a + 2 * b + c := by
    have e1 := expand2 (fx - cx) (tx - fx)
    have e2 := expand2 (fy - cy) (ty - fy)
    rw [show fx - cx + (tx - fx) = tx - cx by omega] at e1
    rw [show fy - cy + (ty - fy) = ty - cy by omega] at e2
    omega
  have hbd : -70368744177664 <= b /\ b <= 70368744177664 /\ 0 <= a /\ a <= 70368744177664 /\ -70368744177664 <= c /\ c <= 70368744177664 := by
    have h1 := hc
    have h2 := hf
    have h3 := ht
    rw [spotOK_iff] at h1 h2 h3
    have bb := fun (p q : Int) (h1 : -4194304 <= p) (h2 : p <= 4194304) (h3 : -4194304 <= q) (h4 : q <= 4194304) => mul_in h1 h2 h3 h4
    have s1 := bb (tx - fx) (tx - fx) (by omega) (by omega) (by omega) (by omega)
    have s2 := bb (ty - fy) (ty - fy) (by omega) (by omega) (by omega) (by omega)
    have s3 := bb (fx - cx) (tx - fx) (by omega) (by omega) (by omega) (by omega)
    have s4 := bb (fy - cy) (ty - fy) (by omega) (by omega) (by omega) (by omega)
    have s5 := bb (fx - cx) (fx - cx) (by omega) (by omega) (by omega) (by omega)
    have s6 := bb (fy - cy) (fy - cy) (by omega) (by omega) (by omega) (by omega)
    have s7 := bb r r (by omega) (by omega) (by omega) (by omega)
    have := sq_nn (tx - fx)
    have := sq_nn (ty - fy)
    omega
  obtain ⟨po, eo⟩ := fxOrder_ok (a := b) (b := b) (c := a) (d := c) ⟨by omega, by omega⟩ ⟨by omega, by omega⟩ ⟨by omega, by omega⟩ ⟨by omega, by omega⟩
  have eo2 : F_eh_0 b b a c = ordZ (b * b) (a * c) := Order_ok ⟨by omega, by omega⟩ ⟨by omega, by omega⟩ ⟨by omega, by omega⟩ ⟨by omega, by omega⟩
  have g0 : E_ag_0 tx ty fx fy = a := v0.trans ha
  have g1 : E_ag_1 fx fy cx cy tx ty = b := v1.trans hb
  have g2 : isub .i64 (E_ag_2 fx fy cx cy) (imul .i64 r r) = c := v2.trans hcc
  have f3 : E_aa_3 cx cy fx fy tx ty r = ordZ (b * b) (a * c) := by unfold E_aa_3; rw [d0, d1, d2, g0, g1, g2]; exact eo
  have g3 : E_ag_3 fx fy cx cy tx ty r = ordZ (b * b) (a * c) := by unfold E_ag_3; rw [g0, g1, g2]; exact eo2
  have eng : ineg .i64 b = -b := ineg64 (by omega) (by omega)
  have PA : P_aa cx cy r fx fy tx ty := by
    unfold P_aa
    simp only [d0, d1, d2, g0, g1, g2, way_0, way_1, er0, er1, ei0, ei1, e_E_aa_4, e_E_aa_5, e_E_aa_6, e_E_aa_7, e_E_aa_8, e_E_aa_9, e_E_aa_10, e_E_aa_11, e_E_aa_12, e_E_aa_13, e_E_aa_14, e_E_aa_15, e_E_aa_17, e_E_aa_18, e_E_aa_19, e_E_aa_20, e_E_aa_21, e_E_aa_22, e_E_aa_23, e_E_aa_24, e_E_aa_25, e_E_aa_26, e_E_aa_27, e_E_aa_28, e_E_aa_29, e_E_aa_30, e_E_aa_31, e_E_aa_32, e_E_aa_33, e_E_aa_34, e_E_aa_35, e_E_aa_36, e_E_aa_37, e_E_aa_38, e_E_aa_39, e_E_aa_40, e_E_aa_41, e_E_aa_42, e_E_aa_43, e_E_aa_44, e_E_aa_45, e_E_aa_46, e_E_aa_47, e_E_aa_48, e_E_aa_49, e_E_aa_50, e_E_aa_51, e_E_aa_52]
    repeat' first
      | assumption
      | exact trivial
      | refine cond_intro (fun _ => ?_) (fun _ => ?_)
      | refine ⟨?_, ?_⟩
  have PB : P_ag k cx cy r n da db fx fy tx ty := by
    unfold P_ag
    repeat' first
      | assumption
      | exact trivial
      | refine cond_intro (fun _ => ?_) (fun _ => ?_)
      | refine ⟨?_, ?_⟩
  have key : ∀ {α : Type} (z v : α), cond (!(F_bp_0 k cx cy r n da db tx ty)) (cond (ige b 0) z (cond (ige (-b) a) z (cond (ilt (ordZ (b * b) (a * c)) 0) z v))) v = cond (!(F_bp_0 k cx cy r n da db tx ty)) (cond (ige b 0) z (cond (igt (-b) a) z (cond (ilt (ordZ (b * b) (a * c)) 0) z v))) v := fun z v => by
    rw [hasv]
    cases hh : ile ((tx - cx) * (tx - cx) + (ty - cy) * (ty - cy)) (r * r) with
    | true => rfl
    | false =>
      rw [ile_f] at hh
      by_cases h1 : 0 <= b
      · rw [ige_t.2 h1]; rfl
      · rw [ige_f.2 (by omega)]
        simp only [Bool.not_false, cond_true, cond_false]
        by_cases h2 : a < -b
        · rw [ige_t.2 (by omega), igt_t.2 h2]
        · by_cases h3 : a = -b
          · have h4 : a < c := by omega
            have h5 : b * b < a * c := by
              have e1 : b * b = a * a := by rw [show b = -a by omega, Int.neg_mul_neg]
              rw [e1]
              exact Int.mul_lt_mul_of_pos_left h4 (by omega)
            rw [ige_t.2 (by omega), igt_f.2 (by omega), ordZ_l h5, ilt_t.2 (show (-1 : Int) < 0 by decide)]
            rfl
          · rw [ige_f.2 (by omega), igt_f.2 (by omega)]
  refine ⟨PA, PB, ?_, ?_, ?_, ?_, ?_, ?_, ?_⟩
  · unfold F_aa_0 F_ag_0
    simp only [d0, d1, d2, g0, g1, f3, g3, eng, has, e_E_aa_4, e_E_aa_5, e_E_aa_6, e_E_aa_7, e_E_aa_8, e_E_aa_9, e_E_aa_10, e_E_aa_11, e_E_aa_12, e_E_aa_13, e_E_aa_14, e_E_aa_15, e_E_aa_17, e_E_aa_18, e_E_aa_19, e_E_aa_20, e_E_aa_21, e_E_aa_22, e_E_aa_23, e_E_aa_24, e_E_aa_25, e_E_aa_26, e_E_aa_27, e_E_aa_28, e_E_aa_29, e_E_aa_30, e_E_aa_31, e_E_aa_32, e_E_aa_33, e_E_aa_34, e_E_aa_35, e_E_aa_36, e_E_aa_37, e_E_aa_38, e_E_aa_39, e_E_aa_40, e_E_aa_41, e_E_aa_42, e_E_aa_43, e_E_aa_44, e_E_aa_45, e_E_aa_46, e_E_aa_47, e_E_aa_48, e_E_aa_49, e_E_aa_50, e_E_aa_51, e_E_aa_52]
    exact key _ _
  · unfold F_aa_1 F_ag_1
    simp only [d0, d1, d2, g0, g1, f3, g3, eng, has, e_E_aa_4, e_E_aa_5, e_E_aa_6, e_E_aa_7, e_E_aa_8, e_E_aa_9, e_E_aa_10, e_E_aa_11, e_E_aa_12, e_E_aa_13, e_E_aa_14, e_E_aa_15, e_E_aa_17, e_E_aa_18, e_E_aa_19, e_E_aa_20, e_E_aa_21, e_E_aa_22, e_E_aa_23, e_E_aa_24, e_E_aa_25, e_E_aa_26, e_E_aa_27, e_E_aa_28, e_E_aa_29, e_E_aa_30, e_E_aa_31, e_E_aa_32, e_E_aa_33, e_E_aa_34, e_E_aa_35, e_E_aa_36, e_E_aa_37, e_E_aa_38, e_E_aa_39, e_E_aa_40, e_E_aa_41, e_E_aa_42, e_E_aa_43, e_E_aa_44, e_E_aa_45, e_E_aa_46, e_E_aa_47, e_E_aa_48, e_E_aa_49, e_E_aa_50, e_E_aa_51, e_E_aa_52]
    exact key _ _
  · unfold F_aa_2 F_ag_2
    simp only [d0, d1, d2, g0, g1, f3, g3, eng, has, e_E_aa_4, e_E_aa_5, e_E_aa_6, e_E_aa_7, e_E_aa_8, e_E_aa_9, e_E_aa_10, e_E_aa_11, e_E_aa_12, e_E_aa_13, e_E_aa_14, e_E_aa_15, e_E_aa_17, e_E_aa_18, e_E_aa_19, e_E_aa_20, e_E_aa_21, e_E_aa_22, e_E_aa_23, e_E_aa_24, e_E_aa_25, e_E_aa_26, e_E_aa_27, e_E_aa_28, e_E_aa_29, e_E_aa_30, e_E_aa_31, e_E_aa_32, e_E_aa_33, e_E_aa_34, e_E_aa_35, e_E_aa_36, e_E_aa_37, e_E_aa_38, e_E_aa_39, e_E_aa_40, e_E_aa_41, e_E_aa_42, e_E_aa_43, e_E_aa_44, e_E_aa_45, e_E_aa_46, e_E_aa_47, e_E_aa_48, e_E_aa_49, e_E_aa_50, e_E_aa_51, e_E_aa_52]
    exact key _ _
  · unfold F_aa_3 F_ag_3
    simp only [d0, d1, d2, g0, g1, f3, g3, eng, has, e_E_aa_4, e_E_aa_5, e_E_aa_6, e_E_aa_7, e_E_aa_8, e_E_aa_9, e_E_aa_10, e_E_aa_11, e_E_aa_12, e_E_aa_13, e_E_aa_14, e_E_aa_15, e_E_aa_17, e_E_aa_18, e_E_aa_19, e_E_aa_20, e_E_aa_21, e_E_aa_22, e_E_aa_23, e_E_aa_24, e_E_aa_25, e_E_aa_26, e_E_aa_27, e_E_aa_28, e_E_aa_29, e_E_aa_30, e_E_aa_31, e_E_aa_32, e_E_aa_33, e_E_aa_34, e_E_aa_35, e_E_aa_36, e_E_aa_37, e_E_aa_38, e_E_aa_39, e_E_aa_40, e_E_aa_41, e_E_aa_42, e_E_aa_43, e_E_aa_44, e_E_aa_45, e_E_aa_46, e_E_aa_47, e_E_aa_48, e_E_aa_49, e_E_aa_50, e_E_aa_51, e_E_aa_52]
    exact key _ _
  · unfold F_aa_4 F_ag_4
    simp only [d0, d1, d2, g0, g1, f3, g3, eng, has, e_E_aa_4, e_E_aa_5, e_E_aa_6, e_E_aa_7, e_E_aa_8, e_E_aa_9, e_E_aa_10, e_E_aa_11, e_E_aa_12, e_E_aa_13, e_E_aa_14, e_E_aa_15, e_E_aa_17, e_E_aa_18, e_E_aa_19, e_E_aa_20, e_E_aa_21, e_E_aa_22, e_E_aa_23, e_E_aa_24, e_E_aa_25, e_E_aa_26, e_E_aa_27, e_E_aa_28, e_E_aa_29, e_E_aa_30, e_E_aa_31, e_E_aa_32, e_E_aa_33, e_E_aa_34, e_E_aa_35, e_E_aa_36, e_E_aa_37, e_E_aa_38, e_E_aa_39, e_E_aa_40, e_E_aa_41, e_E_aa_42, e_E_aa_43, e_E_aa_44, e_E_aa_45, e_E_aa_46, e_E_aa_47, e_E_aa_48, e_E_aa_49, e_E_aa_50, e_E_aa_51, e_E_aa_52]
    exact key _ _
  · unfold F_aa_5 F_ag_5
    simp only [d0, d1, d2, g0, g1, f3, g3, eng, has, e_E_aa_4, e_E_aa_5, e_E_aa_6, e_E_aa_7, e_E_aa_8, e_E_aa_9, e_E_aa_10, e_E_aa_11, e_E_aa_12, e_E_aa_13, e_E_aa_14, e_E_aa_15, e_E_aa_17, e_E_aa_18, e_E_aa_19, e_E_aa_20, e_E_aa_21, e_E_aa_22, e_E_aa_23, e_E_aa_24, e_E_aa_25, e_E_aa_26, e_E_aa_27, e_E_aa_28, e_E_aa_29, e_E_aa_30, e_E_aa_31, e_E_aa_32, e_E_aa_33, e_E_aa_34, e_E_aa_35, e_E_aa_36, e_E_aa_37, e_E_aa_38, e_E_aa_39, e_E_aa_40, e_E_aa_41, e_E_aa_42, e_E_aa_43, e_E_aa_44, e_E_aa_45, e_E_aa_46, e_E_aa_47, e_E_aa_48, e_E_aa_49, e_E_aa_50, e_E_aa_51, e_E_aa_52]
    exact key _ _
  · unfold F_aa_6 F_ag_6
    simp only [d0, d1, d2, g0, g1, f3, g3, eng, has, e_E_aa_4, e_E_aa_5, e_E_aa_6, e_E_aa_7, e_E_aa_8, e_E_aa_9, e_E_aa_10, e_E_aa_11, e_E_aa_12, e_E_aa_13, e_E_aa_14, e_E_aa_15, e_E_aa_17, e_E_aa_18, e_E_aa_19, e_E_aa_20, e_E_aa_21, e_E_aa_22, e_E_aa_23, e_E_aa_24, e_E_aa_25, e_E_aa_26, e_E_aa_27, e_E_aa_28, e_E_aa_29, e_E_aa_30, e_E_aa_31, e_E_aa_32, e_E_aa_33, e_E_aa_34, e_E_aa_35, e_E_aa_36, e_E_aa_37, e_E_aa_38, e_E_aa_39, e_E_aa_40, e_E_aa_41, e_E_aa_42, e_E_aa_43, e_E_aa_44, e_E_aa_45, e_E_aa_46, e_E_aa_47, e_E_aa_48, e_E_aa_49, e_E_aa_50, e_E_aa_51, e_E_aa_52]
    exact key _ _
def B_ce (cm ge gg gm : Int) (gq : Nat) (gu gv : Nat -> Int) (a1 : Int) (K0 : Int -> Int -> Int -> Int -> Prop)  : Prop := Ts 6 (((0 <= a1 /\ a1 < ((gq : Nat) : Int)) /\ Ts 8 (((((gq : Nat) : Int) ≠ 0) /\ ((0 <= (irem .i64 (iadd .i64 a1 1) ((gq : Nat) : Int)) /\ (irem .i64 (iadd .i64 a1 1) ((gq : Nat) : Int)) < ((gq : Nat) : Int)) /\ Ts 3 ((true = true /\ Ts 2 (K0 (gu (Int.toNat a1)) (gv (Int.toNat a1)) (gu (Int.toNat (irem .i64 (iadd .i64 a1 1) ((gq : Nat) : Int)))) (gv (Int.toNat (irem .i64 (iadd .i64 a1 1) ((gq : Nat) : Int))))))))))))
def P_ce (cm ge gg gm : Int) (gq : Nat) (gu gv : Nat -> Int) (a1 : Int) : Prop := ((0 <= a1 /\ a1 < ((gq : Nat) : Int)) /\ ((((gq : Nat) : Int) ≠ 0) /\ (0 <= (irem .i64 (iadd .i64 a1 1) ((gq : Nat) : Int)) /\ (irem .i64 (iadd .i64 a1 1) ((gq : Nat) : Int)) < ((gq : Nat) : Int))))
def F_ce_0 (cm ge gg gm : Int) (gq : Nat) (gu gv : Nat -> Int) (a1 : Int) : Int := (gu (Int.toNat a1))
def F_ce_1 (cm ge gg gm : Int) (gq : Nat) (gu gv : Nat -> Int) (a1 : Int) : Int := (gv (Int.toNat a1))
def F_ce_2 (cm ge gg gm : Int) (gq : Nat) (gu gv : Nat -> Int) (a1 : Int) : Int := (gu (Int.toNat (irem .i64 (iadd .i64 a1 1) ((gq : Nat) : Int))))
def F_ce_3 (cm ge gg gm : Int) (gq : Nat) (gu gv : Nat -> Int) (a1 : Int) : Int := (gv (Int.toNat (irem .i64 (iadd .i64 a1 1) ((gq : Nat) : Int))))
theorem H_ce (cm ge gg gm : Int) (gq : Nat) (gu gv : Nat -> Int) (a1 : Int) {K0 : Int -> Int -> Int -> Int -> Prop} (h : P_ce cm ge gg gm gq gu gv a1) (hK : K0 (F_ce_0 cm ge gg gm gq gu gv a1) (F_ce_1 cm ge gg gm gq gu gv a1) (F_ce_2 cm ge gg gm gq gu gv a1) (F_ce_3 cm ge gg gm gq gu gv a1)) : B_ce cm ge gg gm gq gu gv a1 K0  := by
 unfold B_ce P_ce F_ce_0 F_ce_1 F_ce_2 F_ce_3 at *
 simp only [Ts_iff, true_and]; try simp only [Ts_iff, true_and] at h
 repeat' first | exact hK | refine ⟨rfl, ?_⟩ | refine ⟨trivial, ?_⟩ | refine ⟨by decide, ?_⟩ | (refine ⟨h.1, ?_⟩; replace h := h.2) | refine ⟨h, ?_⟩
def E_aj_0 (cm ge gg gm : Int) (gq : Nat) (gu gv : Nat -> Int) (gb gd gh gj : Int) : Bool := (F_ag_0 cm ge gg gm gq gu gv gb gd gh gj)
def E_aj_1 (cm ge gg gm : Int) (gq : Nat) (gu gv : Nat -> Int) (gb gd gh gj : Int) : Int := (F_ag_1 cm ge gg gm gq gu gv gb gd gh gj)
def E_aj_2 (cm ge gg gm : Int) (gq : Nat) (gu gv : Nat -> Int) (gb gd gh gj : Int) : Bool := (F_ag_2 cm ge gg gm gq gu gv gb gd gh gj)
def E_aj_3 (cm ge gg gm : Int) (gq : Nat) (gu gv : Nat -> Int) (gb gd gh gj : Int) : Int := (F_ag_3 cm ge gg gm gq gu gv gb gd gh gj)
def E_aj_4 (cm ge gg gm : Int) (gq : Nat) (gu gv : Nat -> Int) (gb gd gh gj : Int) : Bool := (F_ag_4 cm ge gg gm gq gu gv gb gd gh gj)
def E_aj_5 (cm ge gg gm : Int) (gq : Nat) (gu gv : Nat -> Int) (gb gd gh gj : Int) : Int := (F_ag_5 cm ge gg gm gq gu gv gb gd gh gj)
def E_aj_6 (cm ge gg gm : Int) (gq : Nat) (gu gv : Nat -> Int) (gb gd gh gj : Int) : Bool := (F_ag_6 cm ge gg gm gq gu gv gb gd gh gj)
def E_aj_17 (cm ge gg gm : Int) (gq : Nat) (gu gv : Nat -> Int) (gy : Int) : Int := (F_a8_0 (F_ce_2 cm ge gg gm gq gu gv gy) (F_ce_3 cm ge gg gm gq gu gv gy) (F_ce_0 cm ge gg gm gq gu gv gy) (F_ce_1 cm ge gg gm gq gu gv gy))
def E_aj_18 (cm ge gg gm : Int) (gq : Nat) (gu gv : Nat -> Int) (gy : Int) : Int := (F_a8_1 (F_ce_2 cm ge gg gm gq gu gv gy) (F_ce_3 cm ge gg gm gq gu gv gy) (F_ce_0 cm ge gg gm gq gu gv gy) (F_ce_1 cm ge gg gm gq gu gv gy))
def E_aj_19 (gb gd cm ge gg gm : Int) (gq : Nat) (gu gv : Nat -> Int) (gy : Int) : Int := (F_a8_0 gb gd (F_ce_0 cm ge gg gm gq gu gv gy) (F_ce_1 cm ge gg gm gq gu gv gy))
def E_aj_20 (gb gd cm ge gg gm : Int) (gq : Nat) (gu gv : Nat -> Int) (gy : Int) : Int := (F_a8_1 gb gd (F_ce_0 cm ge gg gm gq gu gv gy) (F_ce_1 cm ge gg gm gq gu gv gy))
def E_aj_21 (cm ge gg gm : Int) (gq : Nat) (gu gv : Nat -> Int) (gy gb gd : Int) : Int := (F_fb_0 (E_aj_17 cm ge gg gm gq gu gv gy) (E_aj_18 cm ge gg gm gq gu gv gy) (E_aj_19 gb gd cm ge gg gm gq gu gv gy) (E_aj_20 gb gd cm ge gg gm gq gu gv gy))
def E_aj_22 (gh gj cm ge gg gm : Int) (gq : Nat) (gu gv : Nat -> Int) (gy : Int) : Int := (F_a8_0 gh gj (F_ce_0 cm ge gg gm gq gu gv gy) (F_ce_1 cm ge gg gm gq gu gv gy))
def E_aj_23 (gh gj cm ge gg gm : Int) (gq : Nat) (gu gv : Nat -> Int) (gy : Int) : Int := (F_a8_1 gh gj (F_ce_0 cm ge gg gm gq gu gv gy) (F_ce_1 cm ge gg gm gq gu gv gy))
def E_aj_24 (cm ge gg gm : Int) (gq : Nat) (gu gv : Nat -> Int) (gy gh gj : Int) : Int := (F_fb_0 (E_aj_17 cm ge gg gm gq gu gv gy) (E_aj_18 cm ge gg gm gq gu gv gy) (E_aj_22 gh gj cm ge gg gm gq gu gv gy) (E_aj_23 gh gj cm ge gg gm gq gu gv gy))
def E_aj_25 (cm ge gg gm : Int) (gq : Nat) (gu gv : Nat -> Int) (gy gb gd io ir gh gj : Int) : Int := (F_eh_0 (E_aj_21 cm ge gg gm gq gu gv gy gb gd) io ir (isub .i64 (E_aj_21 cm ge gg gm gq gu gv gy gb gd) (E_aj_24 cm ge gg gm gq gu gv gy gh gj)))
def E_aj_26 (cm ge gg gm : Int) (gq : Nat) (gu gv : Nat -> Int) (gy gb gd iz ik gh gj : Int) : Int := (F_eh_0 (ineg .i64 (E_aj_21 cm ge gg gm gq gu gv gy gb gd)) iz ik (isub .i64 (E_aj_24 cm ge gg gm gq gu gv gy gh gj) (E_aj_21 cm ge gg gm gq gu gv gy gb gd)))
def E_aj_27 (cm ge gg gm : Int) (gq : Nat) (gu gv : Nat -> Int) (i6 : Int) : Int := (F_dj_0 (F_ce_0 cm ge gg gm gq gu gv i6) (F_ce_1 cm ge gg gm gq gu gv i6) (F_ce_2 cm ge gg gm gq gu gv i6) (F_ce_3 cm ge gg gm gq gu gv i6))
def E_aj_28 (cm ge gg gm : Int) (gq : Nat) (gu gv : Nat -> Int) (i6 : Int) : Bool := (F_dj_1 (F_ce_0 cm ge gg gm gq gu gv i6) (F_ce_1 cm ge gg gm gq gu gv i6) (F_ce_2 cm ge gg gm gq gu gv i6) (F_ce_3 cm ge gg gm gq gu gv i6))
def E_aj_29 (cm ge gg gm : Int) (gq : Nat) (gu gv : Nat -> Int) (i6 : Int) : Int := (F_dj_2 (F_ce_0 cm ge gg gm gq gu gv i6) (F_ce_1 cm ge gg gm gq gu gv i6) (F_ce_2 cm ge gg gm gq gu gv i6) (F_ce_3 cm ge gg gm gq gu gv i6))
def E_aj_30 (cm ge gg gm : Int) (gq : Nat) (gu gv : Nat -> Int) (i6 : Int) : Bool := (F_dj_3 (F_ce_0 cm ge gg gm gq gu gv i6) (F_ce_1 cm ge gg gm gq gu gv i6) (F_ce_2 cm ge gg gm gq gu gv i6) (F_ce_3 cm ge gg gm gq gu gv i6))
def B_aj_0 (cm ge gg gm : Int) (gq : Nat) (gu gv : Nat -> Int) (gb gd gh gj ic ik iz ir io gy : Int) (c x0 x1 : Int -> Int -> Int -> Int -> Int -> Int -> Prop)  : Prop := Ts 5 (cond (ilt gy ((gq : Nat) : Int)) (Ts 2 (((P_ce cm ge gg gm gq gu gv gy) /\ Ts 9 (((P_a8 (F_ce_2 cm ge gg gm gq gu gv gy) (F_ce_3 cm ge gg gm gq gu gv gy) (F_ce_0 cm ge gg gm gq gu gv gy) (F_ce_1 cm ge gg gm gq gu gv gy)) /\ Ts 2 (((P_a8 gb gd (F_ce_0 cm ge gg gm gq gu gv gy) (F_ce_1 cm ge gg gm gq gu gv gy)) /\ ((P_fb (E_aj_17 cm ge gg gm gq gu gv gy) (E_aj_18 cm ge gg gm gq gu gv gy) (E_aj_19 gb gd cm ge gg gm gq gu gv gy) (E_aj_20 gb gd cm ge gg gm gq gu gv gy)) /\ Ts 2 (((P_a8 (F_ce_2 cm ge gg gm gq gu gv gy) (F_ce_3 cm ge gg gm gq gu gv gy) (F_ce_0 cm ge gg gm gq gu gv gy) (F_ce_1 cm ge gg gm gq gu gv gy)) /\ Ts 2 (((P_a8 gh gj (F_ce_0 cm ge gg gm gq gu gv gy) (F_ce_1 cm ge gg gm gq gu gv gy)) /\ ((P_fb (E_aj_17 cm ge gg gm gq gu gv gy) (E_aj_18 cm ge gg gm gq gu gv gy) (E_aj_22 gh gj cm ge gg gm gq gu gv gy) (E_aj_23 gh gj cm ge gg gm gq gu gv gy)) /\ Ts 2 ((true = true /\ Ts 3 (cond (ilt (E_aj_21 cm ge gg gm gq gu gv gy gb gd) 0) (Ts 3 (cond (ilt (E_aj_24 cm ge gg gm gq gu gv gy gh gj) 0) (Ts 2 (x1 ic ik iz ir io gy)) (Ts 3 (cond (ilt (E_aj_21 cm ge gg gm gq gu gv gy gb gd) 0) (Ts 3 (cond (ilt ic 0) (Ts 14 (cond (ige (E_aj_21 cm ge gg gm gq gu gv gy gb gd) 0) (Ts 4 (cond (ilt (E_aj_24 cm ge gg gm gq gu gv gy gh gj) 0) (Ts 6 (((P_eh (E_aj_21 cm ge gg gm gq gu gv gy gb gd) io ir (isub .i64 (E_aj_21 cm ge gg gm gq gu gv gy gb gd) (E_aj_24 cm ge gg gm gq gu gv gy gh gj))) /\ Ts 2 (cond (ilt (E_aj_25 cm ge gg gm gq gu gv gy gb gd io ir gh gj) 0) (Ts 9 (c gy (ineg .i64 (E_aj_21 cm ge gg gm gq gu gv gy gb gd)) (isub .i64 (E_aj_24 cm ge gg gm gq gu gv gy gh gj) (E_aj_21 cm ge gg gm gq gu gv gy gb gd)) (E_aj_21 cm ge gg gm gq gu gv gy gb gd) (isub .i64 (E_aj_21 cm ge gg gm gq gu gv gy gb gd) (E_aj_24 cm ge gg gm gq gu gv gy gh gj)) (iadd .i64 gy 1))) (Ts 3 (c gy (ineg .i64 (E_aj_21 cm ge gg gm gq gu gv gy gb gd)) (isub .i64 (E_aj_24 cm ge gg gm gq gu gv gy gh gj) (E_aj_21 cm ge gg gm gq gu gv gy gb gd)) ir io (iadd .i64 gy 1))))))) (Ts 4 (c gy (ineg .i64 (E_aj_21 cm ge gg gm gq gu gv gy gb gd)) (isub .i64 (E_aj_24 cm ge gg gm gq gu gv gy gh gj) (E_aj_21 cm ge gg gm gq gu gv gy gb gd)) ir io (iadd .i64 gy 1))))) (Ts 6 (c gy (ineg .i64 (E_aj_21 cm ge gg gm gq gu gv gy gb gd)) (isub .i64 (E_aj_24 cm ge gg gm gq gu gv gy gh gj) (E_aj_21 cm ge gg gm gq gu gv gy gb gd)) ir io (iadd .i64 gy 1))))) (Ts 7 (((P_eh (ineg .i64 (E_aj_21 cm ge gg gm gq gu gv gy gb gd)) iz ik (isub .i64 (E_aj_24 cm ge gg gm gq gu gv gy gh gj) (E_aj_21 cm ge gg gm gq gu gv gy gb gd))) /\ Ts 3 (cond (igt (E_aj_26 cm ge gg gm gq gu gv gy gb gd iz ik gh gj) 0) (Ts 12 (cond (ige (E_aj_21 cm ge gg gm gq gu gv gy gb gd) 0) (Ts 4 (cond (ilt (E_aj_24 cm ge gg gm gq gu gv gy gh gj) 0) (Ts 6 (((P_eh (E_aj_21 cm ge gg gm gq gu gv gy gb gd) io ir (isub .i64 (E_aj_21 cm ge gg gm gq gu gv gy gb gd) (E_aj_24 cm ge gg gm gq gu gv gy gh gj))) /\ Ts 2 (cond (ilt (E_aj_25 cm ge gg gm gq gu gv gy gb gd io ir gh gj) 0) (Ts 9 (c gy (ineg .i64 (E_aj_21 cm ge gg gm gq gu gv gy gb gd)) (isub .i64 (E_aj_24 cm ge gg gm gq gu gv gy gh gj) (E_aj_21 cm ge gg gm gq gu gv gy gb gd)) (E_aj_21 cm ge gg gm gq gu gv gy gb gd) (isub .i64 (E_aj_21 cm ge gg gm gq gu gv gy gb gd) (E_aj_24 cm ge gg gm gq gu gv gy gh gj)) (iadd .i64 gy 1))) (Ts 3 (c gy (ineg .i64 (E_aj_21 cm ge gg gm gq gu gv gy gb gd)) (isub .i64 (E_aj_24 cm ge gg gm gq gu gv gy gh gj) (E_aj_21 cm ge gg gm gq gu gv gy gb gd)) ir io (iadd .i64 gy 1))))))) (Ts 4 (c gy (ineg .i64 (E_aj_21 cm ge gg gm gq gu gv gy gb gd)) (isub .i64 (E_aj_24 cm ge gg gm gq gu gv gy gh gj) (E_aj_21 cm ge gg gm gq gu gv gy gb gd)) ir io (iadd .i64 gy 1))))) (Ts 6 (c gy (ineg .i64 (E_aj_21 cm ge gg gm gq gu gv gy gb gd)) (isub .i64 (E_aj_24 cm ge gg gm gq gu gv gy gh gj) (E_aj_21 cm ge gg gm gq gu gv gy gb gd)) ir io (iadd .i64 gy 1))))) (Ts 3 (cond (ige (E_aj_21 cm ge gg gm gq gu gv gy gb gd) 0) (Ts 4 (cond (ilt (E_aj_24 cm ge gg gm gq gu gv gy gh gj) 0) (Ts 6 (((P_eh (E_aj_21 cm ge gg gm gq gu gv gy gb gd) io ir (isub .i64 (E_aj_21 cm ge gg gm gq gu gv gy gb gd) (E_aj_24 cm ge gg gm gq gu gv gy gh gj))) /\ Ts 2 (cond (ilt (E_aj_25 cm ge gg gm gq gu gv gy gb gd io ir gh gj) 0) (Ts 9 (c ic ik iz (E_aj_21 cm ge gg gm gq gu gv gy gb gd) (isub .i64 (E_aj_21 cm ge gg gm gq gu gv gy gb gd) (E_aj_24 cm ge gg gm gq gu gv gy gh gj)) (iadd .i64 gy 1))) (Ts 3 (c ic ik iz ir io (iadd .i64 gy 1))))))) (Ts 4 (c ic ik iz ir io (iadd .i64 gy 1))))) (Ts 6 (c ic ik iz ir io (iadd .i64 gy 1))))))))))) (Ts 4 (cond (ige (E_aj_21 cm ge gg gm gq gu gv gy gb gd) 0) (Ts 4 (cond (ilt (E_aj_24 cm ge gg gm gq gu gv gy gh gj) 0) (Ts 6 (((P_eh (E_aj_21 cm ge gg gm gq gu gv gy gb gd) io ir (isub .i64 (E_aj_21 cm ge gg gm gq gu gv gy gb gd) (E_aj_24 cm ge gg gm gq gu gv gy gh gj))) /\ Ts 2 (cond (ilt (E_aj_25 cm ge gg gm gq gu gv gy gb gd io ir gh gj) 0) (Ts 9 (c ic ik iz (E_aj_21 cm ge gg gm gq gu gv gy gb gd) (isub .i64 (E_aj_21 cm ge gg gm gq gu gv gy gb gd) (E_aj_24 cm ge gg gm gq gu gv gy gh gj)) (iadd .i64 gy 1))) (Ts 3 (c ic ik iz ir io (iadd .i64 gy 1))))))) (Ts 4 (c ic ik iz ir io (iadd .i64 gy 1))))) (Ts 6 (c ic ik iz ir io (iadd .i64 gy 1))))))))) (Ts 4 (cond (ilt (E_aj_21 cm ge gg gm gq gu gv gy gb gd) 0) (Ts 3 (cond (ilt ic 0) (Ts 14 (cond (ige (E_aj_21 cm ge gg gm gq gu gv gy gb gd) 0) (Ts 4 (cond (ilt (E_aj_24 cm ge gg gm gq gu gv gy gh gj) 0) (Ts 6 (((P_eh (E_aj_21 cm ge gg gm gq gu gv gy gb gd) io ir (isub .i64 (E_aj_21 cm ge gg gm gq gu gv gy gb gd) (E_aj_24 cm ge gg gm gq gu gv gy gh gj))) /\ Ts 2 (cond (ilt (E_aj_25 cm ge gg gm gq gu gv gy gb gd io ir gh gj) 0) (Ts 9 (c gy (ineg .i64 (E_aj_21 cm ge gg gm gq gu gv gy gb gd)) (isub .i64 (E_aj_24 cm ge gg gm gq gu gv gy gh gj) (E_aj_21 cm ge gg gm gq gu gv gy gb gd)) (E_aj_21 cm ge gg gm gq gu gv gy gb gd) (isub .i64 (E_aj_21 cm ge gg gm gq gu gv gy gb gd) (E_aj_24 cm ge gg gm gq gu gv gy gh gj)) (iadd .i64 gy 1))) (Ts 3 (c gy (ineg .i64 (E_aj_21 cm ge gg gm gq gu gv gy gb gd)) (isub .i64 (E_aj_24 cm ge gg gm gq gu gv gy gh gj) (E_aj_21 cm ge gg gm gq gu gv gy gb gd)) ir io (iadd .i64 gy 1))))))) (Ts 4 (c gy (ineg .i64 (E_aj_21 cm ge gg gm gq gu gv gy gb gd)) (isub .i64 (E_aj_24 cm ge gg gm gq gu gv gy gh gj) (E_aj_21 cm ge gg gm gq gu gv gy gb gd)) ir io (iadd .i64 gy 1))))) (Ts 6 (c gy (ineg .i64 (E_aj_21 cm ge gg gm gq gu gv gy gb gd)) (isub .i64 (E_aj_24 cm ge gg gm gq gu gv gy gh gj) (E_aj_21 cm ge gg gm gq gu gv gy gb gd)) ir io (iadd .i64 gy 1))))) (Ts 7 (((P_eh (ineg .i64 (E_aj_21 cm ge gg gm gq gu gv gy gb gd)) iz ik (isub .i64 (E_aj_24 cm ge gg gm gq gu gv gy gh gj) (E_aj_21 cm ge gg gm gq gu gv gy gb gd))) /\ Ts 3 (cond (igt (E_aj_26 cm ge gg gm gq gu gv gy gb gd iz ik gh gj) 0) (Ts 12 (cond (ige (E_aj_21 cm ge gg gm gq gu gv gy gb gd) 0) (Ts 4 (cond (ilt (E_aj_24 cm ge gg gm gq gu gv gy gh gj) 0) (Ts 6 (((P_eh (E_aj_21 cm ge gg gm gq gu gv gy gb gd) io ir (isub .i64 (E_aj_21 cm ge gg gm gq gu gv gy gb gd) (E_aj_24 cm ge gg gm gq gu gv gy gh gj))) /\ Ts 2 (cond (ilt (E_aj_25 cm ge gg gm gq gu gv gy gb gd io ir gh gj) 0) (Ts 9 (c gy (ineg .i64 (E_aj_21 cm ge gg gm gq gu gv gy gb gd)) (isub .i64 (E_aj_24 cm ge gg gm gq gu gv gy gh gj) (E_aj_21 cm ge gg gm gq gu gv gy gb gd)) (E_aj_21 cm ge gg gm gq gu gv gy gb gd) (isub .i64 (E_aj_21 cm ge gg gm gq gu gv gy gb gd) (E_aj_24 cm ge gg gm gq gu gv gy gh gj)) (iadd .i64 gy 1))) (Ts 3 (c gy (ineg .i64 (E_aj_21 cm ge gg gm gq gu gv gy gb gd)) (isub .i64 (E_aj_24 cm ge gg gm gq gu gv gy gh gj) (E_aj_21 cm ge gg gm gq gu gv gy gb gd)) ir io (iadd .i64 gy 1))))))) (Ts 4 (c gy (ineg .i64 (E_aj_21 cm ge gg gm gq gu gv gy gb gd)) (isub .i64 (E_aj_24 cm ge gg gm gq gu gv gy gh gj) (E_aj_21 cm ge gg gm gq gu gv gy gb gd)) ir io (iadd .i64 gy 1))))) (Ts 6 (c gy (ineg .i64 (E_aj_21 cm ge gg gm gq gu gv gy gb gd)) (isub .i64 (E_aj_24 cm ge gg gm gq gu gv gy gh gj) (E_aj_21 cm ge gg gm gq gu gv gy gb gd)) ir io (iadd .i64 gy 1))))) (Ts 3 (cond (ige (E_aj_21 cm ge gg gm gq gu gv gy gb gd) 0) (Ts 4 (cond (ilt (E_aj_24 cm ge gg gm gq gu gv gy gh gj) 0) (Ts 6 (((P_eh (E_aj_21 cm ge gg gm gq gu gv gy gb gd) io ir (isub .i64 (E_aj_21 cm ge gg gm gq gu gv gy gb gd) (E_aj_24 cm ge gg gm gq gu gv gy gh gj))) /\ Ts 2 (cond (ilt (E_aj_25 cm ge gg gm gq gu gv gy gb gd io ir gh gj) 0) (Ts 9 (c ic ik iz (E_aj_21 cm ge gg gm gq gu gv gy gb gd) (isub .i64 (E_aj_21 cm ge gg gm gq gu gv gy gb gd) (E_aj_24 cm ge gg gm gq gu gv gy gh gj)) (iadd .i64 gy 1))) (Ts 3 (c ic ik iz ir io (iadd .i64 gy 1))))))) (Ts 4 (c ic ik iz ir io (iadd .i64 gy 1))))) (Ts 6 (c ic ik iz ir io (iadd .i64 gy 1))))))))))) (Ts 4 (cond (ige (E_aj_21 cm ge gg gm gq gu gv gy gb gd) 0) (Ts 4 (cond (ilt (E_aj_24 cm ge gg gm gq gu gv gy gh gj) 0) (Ts 6 (((P_eh (E_aj_21 cm ge gg gm gq gu gv gy gb gd) io ir (isub .i64 (E_aj_21 cm ge gg gm gq gu gv gy gb gd) (E_aj_24 cm ge gg gm gq gu gv gy gh gj))) /\ Ts 2 (cond (ilt (E_aj_25 cm ge gg gm gq gu gv gy gb gd io ir gh gj) 0) (Ts 9 (c ic ik iz (E_aj_21 cm ge gg gm gq gu gv gy gb gd) (isub .i64 (E_aj_21 cm ge gg gm gq gu gv gy gb gd) (E_aj_24 cm ge gg gm gq gu gv gy gh gj)) (iadd .i64 gy 1))) (Ts 3 (c ic ik iz ir io (iadd .i64 gy 1))))))) (Ts 4 (c ic ik iz ir io (iadd .i64 gy 1))))) (Ts 6 (c ic ik iz ir io (iadd .i64 gy 1))))))))))))))))))))))) (x0 ic ik iz ir io gy))
def W_aj_0 (cm ge gg gm : Int) (gq : Nat) (gu gv : Nat -> Int) (gb gd gh gj : Int) : Nat -> Int -> Int -> Int -> Int -> Int -> Int -> (Int -> Int -> Int -> Int -> Int -> Int -> Prop) -> (Int -> Int -> Int -> Int -> Int -> Int -> Prop) -> Prop
  | 0, _, _, _, _, _, _, _, _ => False
  | f + 1, w0, w1, w2, w3, w4, w5, x0, x1 => B_aj_0 cm ge gg gm gq gu gv gb gd gh gj w0 w1 w2 w3 w4 w5 (fun u0 u1 u2 u3 u4 u5 => W_aj_0 cm ge gg gm gq gu gv gb gd gh gj f u0 u1 u2 u3 u4 u5 x0 x1) x0 x1 
theorem BM_aj_0 (cm ge gg gm : Int) (gq : Nat) (gu gv : Nat -> Int) (gb gd gh gj ic ik iz ir io gy : Int) {c c' : Int -> Int -> Int -> Int -> Int -> Int -> Prop} {x0 y0 : Int -> Int -> Int -> Int -> Int -> Int -> Prop} {x1 y1 : Int -> Int -> Int -> Int -> Int -> Int -> Prop} (hc : ∀ w0 w1 w2 w3 w4 w5, c w0 w1 w2 w3 w4 w5 -> c' w0 w1 w2 w3 w4 w5) (h0 : ∀ o0 o1 o2 o3 o4 o5, x0 o0 o1 o2 o3 o4 o5 -> y0 o0 o1 o2 o3 o4 o5) (h1 : ∀ o0 o1 o2 o3 o4 o5, x1 o0 o1 o2 o3 o4 o5 -> y1 o0 o1 o2 o3 o4 o5) : B_aj_0 cm ge gg gm gq gu gv gb gd gh gj ic ik iz ir io gy c x0 x1  -> B_aj_0 cm ge gg gm gq gu gv gb gd gh gj ic ik iz ir io gy c' y0 y1  := by
  unfold B_aj_0
  repeat' first
    | exact hc _ _ _ _ _ _
    | exact h0 _ _ _ _ _ _
    | exact h1 _ _ _ _ _ _
    | refine Ts_imp ?_
    | refine cond_imp ?_ ?_
    | refine and_imp' ?_
theorem WM_aj_0 (cm ge gg gm : Int) (gq : Nat) (gu gv : Nat -> Int) (gb gd gh gj : Int) {x0 y0 : Int -> Int -> Int -> Int -> Int -> Int -> Prop} {x1 y1 : Int -> Int -> Int -> Int -> Int -> Int -> Prop} (h0 : ∀ o0 o1 o2 o3 o4 o5, x0 o0 o1 o2 o3 o4 o5 -> y0 o0 o1 o2 o3 o4 o5) (h1 : ∀ o0 o1 o2 o3 o4 o5, x1 o0 o1 o2 o3 o4 o5 -> y1 o0 o1 o2 o3 o4 o5) : ∀ (f : Nat) (ic ik iz ir io gy : Int), W_aj_0 cm ge gg gm gq gu gv gb gd gh gj f ic ik iz ir io gy x0 x1 -> W_aj_0 cm ge gg gm gq gu gv gb gd gh gj f ic ik iz ir io gy y0 y1
  | 0, w0, w1, w2, w3, w4, w5 => fun h => h
  | f + 1, w0, w1, w2, w3, w4, w5 => BM_aj_0 cm ge gg gm gq gu gv gb gd gh gj w0 w1 w2 w3 w4 w5 (fun u0 u1 u2 u3 u4 u5 => WM_aj_0 cm ge gg gm gq gu gv gb gd gh gj h0 h1 f u0 u1 u2 u3 u4 u5) h0 h1
def B_aj (cm ge gg gm : Int) (gq : Nat) (gu gv : Nat -> Int) (gb gd gh gj : Int) (K0 : Bool -> Int -> Bool -> Int -> Bool -> Int -> Bool -> Prop) (l0 : Int -> Int -> Int -> Int -> Int -> Int -> (Int -> Int -> Int -> Int -> Int -> Int -> Prop) -> (Int -> Int -> Int -> Int -> Int -> Int -> Prop) -> Prop) : Prop := Ts 5 (((P_bi cm ge gg gm gq gu gv) /\ Ts 2 (cond (ine (F_bi_0 cm ge gg gm gq gu gv) 0) (Ts 6 (K0 false 0 false 0 false 0 false)) (Ts 1 (((P_dh gb gd) /\ Ts 3 (cond (!(F_dh_0 gb gd)) (Ts 4 (K0 false 0 false 0 false 0 false)) (Ts 1 (((P_dh gh gj) /\ Ts 2 (cond (!(F_dh_0 gh gj)) (Ts 3 (K0 false 0 false 0 false 0 false)) (Ts 2 (((P_bp cm ge gg gm gq gu gv gb gd) /\ cond (F_bp_0 cm ge gg gm gq gu gv gb gd) (Ts 3 (K0 true 0 false 0 false 0 false)) (Ts 3 (cond (ieq cm 1) (Ts 3 (((P_ag cm ge gg gm gq gu gv gb gd gh gj) /\ Ts 2 (K0 (E_aj_0 cm ge gg gm gq gu gv gb gd gh gj) (E_aj_1 cm ge gg gm gq gu gv gb gd gh gj) (E_aj_2 cm ge gg gm gq gu gv gb gd gh gj) (E_aj_3 cm ge gg gm gq gu gv gb gd gh gj) (E_aj_4 cm ge gg gm gq gu gv gb gd gh gj) (E_aj_5 cm ge gg gm gq gu gv gb gd gh gj) (E_aj_6 cm ge gg gm gq gu gv gb gd gh gj))))) (Ts 6 ((l0 (-1) 0 1 1 1 0 (fun i6 kj kv ld kw l7 => Ts 3 (cond (ilt i6 0) (Ts 4 (K0 false 0 false 0 false 0 false)) (Ts 4 (((P_eh kj kw ld kv) /\ Ts 2 (cond (igt (F_eh_0 kj kw ld kv) 0) (Ts 3 (K0 false 0 false 0 false 0 false)) (Ts 2 (((P_ce cm ge gg gm gq gu gv i6) /\ Ts 11 (((P_b6 (ineg .i64 kj) (ineg .i64 kv)) /\ Ts 2 (((P_dj (F_ce_0 cm ge gg gm gq gu gv i6) (F_ce_1 cm ge gg gm gq gu gv i6) (F_ce_2 cm ge gg gm gq gu gv i6) (F_ce_3 cm ge gg gm gq gu gv i6)) /\ Ts 2 ((true = true /\ Ts 1 (K0 true (F_b6_0 (ineg .i64 kj) (ineg .i64 kv)) (F_b6_1 (ineg .i64 kj) (ineg .i64 kv)) (E_aj_27 cm ge gg gm gq gu gv i6) (E_aj_28 cm ge gg gm gq gu gv i6) (E_aj_29 cm ge gg gm gq gu gv i6) (E_aj_30 cm ge gg gm gq gu gv i6))))))))))))))))) (fun i6 kj kv ld kw l7 => Ts 1 (K0 false 0 false 0 false 0 false)))))))))))))))))))))
--ID aj
theorem cast_pts {k ba bb c : Int} {n : Nat} {da db : Nat -> Int} (h : F_bi_0 k ba bb c n da db = 0) : spotOK ba bb = true /\ (∀ j, j < n -> spotOK (da j) (db j) = true) /\ (ieq k 1 = false -> 3 <= n /\ n <= 8 /\ convP n da db) /\ (ieq k 1 = true -> 1 <= c /\ c <= 2097152) := by
  unfold F_bi_0 at h
  rw [valid_eq] at h
  cases h1 : (!(ieq k 1) && ine k 2) with
  | true => rw [h1] at h; simp at h
  | false =>
    rw [h1] at h
    cases h2 : spotOK ba bb with
    | false => rw [h2] at h; simp at h
    | true =>
      rw [h2] at h
      cases h3 : spotsOK n da db with
      | false => rw [h3] at h; simp at h
      | true =>
        rw [h3] at h
        simp only [cond_false, Bool.not_true] at h
        refine ⟨rfl, spotsOK_iff.1 h3, fun hk => ?_, fun hk => ?_⟩
        · rw [hk] at h
          simp only [cond_false] at h
          cases h4 : ine c 0 with
          | true => rw [h4] at h; simp at h
          | false =>
            rw [h4] at h
            cases h5 : ilt (n : Int) 3 with
            | true => rw [h5] at h; simp at h
            | false =>
              rw [h5] at h
              cases h6 : igt (n : Int) 8 with
              | true => rw [h6] at h; simp at h
              | false =>
                rw [h6] at h
                cases h7 : F_aw_0 n da db with
                | false => rw [h7] at h; simp at h
                | true =>
                  have := convF_iff.1 h7
                  rw [igt_f] at h6
                  exact ⟨this.1, by omega, this.2⟩
        · rw [hk] at h
          simp only [cond_true] at h
          cases h4 : (ige c 1 && (igt c 2097152 || ine (F_du_0 (F_cd_0 ba bb c) (F_cd_1 ba bb c) (F_cd_2 ba bb c) (F_cd_3 ba bb c)) 0)) with
          | true => rw [h4] at h; simp at h
          | false =>
            rw [h4] at h
            cases h5 : ilt c 1 with
            | true => rw [h5] at h; simp at h
            | false =>
              rw [ilt_f] at h5
              rw [ige_t.2 h5, Bool.true_and, Bool.or_eq_false_iff, igt_f] at h4
              exact ⟨h5, h4.1⟩
def rayA (k ba bb c : Int) (n : Nat) (da db : Nat -> Int) (fx fy tx ty : Int) : Prop := True
def P_aj (k ba bb c : Int) (n : Nat) (da db : Nat -> Int) (fx fy tx ty : Int) : Prop := n <= 1000000 /\ (F_bi_0 k ba bb c n da db = 0 -> spotOK fx fy = true -> spotOK tx ty = true -> ieq k 1 = true -> P_ag k ba bb c n da db fx fy tx ty)
def castC (k ba bb c : Int) (n : Nat) (da db : Nat -> Int) (fx fy tx ty : Int) {α : Type} (z w r : α) (p : Nat -> Int -> Int -> α) : α :=
  cond (ine (F_bi_0 k ba bb c n da db) 0) z (cond (!(spotOK fx fy)) z (cond (!(spotOK tx ty)) z (cond (F_bp_0 k ba bb c n da db fx fy) w (cond (ieq k 1) r (match pmH n da db fx fy tx ty with | none => z | some (i, x, y) => p i x y)))))
def F_aj_0 (k ba bb c : Int) (n : Nat) (da db : Nat -> Int) (fx fy tx ty : Int) : Bool := castC k ba bb c n da db fx fy tx ty false true (F_ag_0 k ba bb c n da db fx fy tx ty) (fun i x y => true)
def F_aj_1 (k ba bb c : Int) (n : Nat) (da db : Nat -> Int) (fx fy tx ty : Int) : Int := castC k ba bb c n da db fx fy tx ty 0 0 (F_ag_1 k ba bb c n da db fx fy tx ty) (fun i x y => F_b6_0 (-x) (-y))
def F_aj_2 (k ba bb c : Int) (n : Nat) (da db : Nat -> Int) (fx fy tx ty : Int) : Bool := castC k ba bb c n da db fx fy tx ty false false (F_ag_2 k ba bb c n da db fx fy tx ty) (fun i x y => F_b6_1 (-x) (-y))
def F_aj_3 (k ba bb c : Int) (n : Nat) (da db : Nat -> Int) (fx fy tx ty : Int) : Int := castC k ba bb c n da db fx fy tx ty 0 0 (F_ag_3 k ba bb c n da db fx fy tx ty) (fun i x y => F_dj_0 (da i) (db i) (da (nxE n i)) (db (nxE n i)))
def F_aj_4 (k ba bb c : Int) (n : Nat) (da db : Nat -> Int) (fx fy tx ty : Int) : Bool := castC k ba bb c n da db fx fy tx ty false false (F_ag_4 k ba bb c n da db fx fy tx ty) (fun i x y => F_dj_1 (da i) (db i) (da (nxE n i)) (db (nxE n i)))
def F_aj_5 (k ba bb c : Int) (n : Nat) (da db : Nat -> Int) (fx fy tx ty : Int) : Int := castC k ba bb c n da db fx fy tx ty 0 0 (F_ag_5 k ba bb c n da db fx fy tx ty) (fun i x y => F_dj_2 (da i) (db i) (da (nxE n i)) (db (nxE n i)))
def F_aj_6 (k ba bb c : Int) (n : Nat) (da db : Nat -> Int) (fx fy tx ty : Int) : Bool := castC k ba bb c n da db fx fy tx ty false false (F_ag_6 k ba bb c n da db fx fy tx ty) (fun i x y => F_dj_3 (da i) (db i) (da (nxE n i)) (db (nxE n i)))
theorem cross3 {x0 y0 x1 y1 x2 y2 : Int} (h0 : spotOK x0 y0 = true) (h1 : spotOK x1 y1 = true) (h2 : spotOK x2 y2 = true) : F_fb_0 (F_a8_0 x1 y1 x0 y0) (F_a8_1 x1 y1 x0 y0) (F_a8_0 x2 y2 x0 y0) (F_a8_1 x2 y2 x0 y0) = (x1 - x0) * (y2 - y0) - (y1 - y0) * (x2 - x0) := turn_eq h0 h1 h2
theorem W_aj_ok {k ba bb c : Int} {n : Nat} {da db : Nat -> Int} {fx fy tx ty : Int} (hn : n <= 1000000) (hv : ∀ j, j < n -> spotOK (da j) (db j) = true) (hf : spotOK fx fy = true) (ht : spotOK tx ty = true) {x0 x1 : Int -> Int -> Int -> Int -> Int -> Int -> Prop}
    (h0 : ∀ i x y c' d' v, castS (gT n da db fx fy) (gT n da db tx ty) n = some (i, x, y, c', d') -> x0 i x y c' d' v) (h1 : castS (gT n da db fx fy) (gT n da db tx ty) n = none -> ∀ i x y c' d' v, x1 i x y c' d' v) : ∀ (f j : Nat) (i x y c' d' : Int), j <= n -> n < f + j -> castS (gT n da db fx fy) (gT n da db tx ty) j = some (i, x, y, c', d') -> W_aj_0 k ba bb c n da db fx fy tx ty f i x y c' d' (j : Int) x0 x1
  | 0, j, i, x, y, c', d', hj, hr, hs => by omega
  | f + 1, j, i, x, y, c', d', hj, hr, hs => by
    show B_aj_0 k ba bb c n da db fx fy tx ty i x y c' d' j _ _ _
    unfold B_aj_0
    simp only [Ts_iff]
    refine cond_intro (fun hc => ?_) (fun hc => ?_)
    · rw [ilt_t] at hc
      have hj' : j < n := by omega
      have nr := nx_rem hj' hn
      have n1 : F_ce_0 k ba bb c n da db (j : Int) = da j := rfl
      have n2 : F_ce_1 k ba bb c n da db (j : Int) = db j := rfl
      have n3 : F_ce_2 k ba bb c n da db (j : Int) = da (nxE n j) := by unfold F_ce_2; rw [nr, Int.toNat_natCast]
      have n4 : F_ce_3 k ba bb c n da db (j : Int) = db (nxE n j) := by unfold F_ce_3; rw [nr, Int.toNat_natCast]
      have e0 : E_aj_21 k ba bb c n da db (j : Int) fx fy = gT n da db fx fy j := by
        unfold E_aj_21 E_aj_17 E_aj_18 E_aj_19 E_aj_20
        rw [n1, n2, n3, n4]
        exact cross3 (hv j hj') (hv _ (nxE_lt hj')) hf
      have e1 : E_aj_24 k ba bb c n da db (j : Int) tx ty = gT n da db tx ty j := by
        unfold E_aj_24 E_aj_17 E_aj_18 E_aj_22 E_aj_23
        rw [n1, n2, n3, n4]
        exact cross3 (hv j hj') (hv _ (nxE_lt hj')) ht
      have b0 := gT_in hj' hv hf
      have b1 := gT_in hj' hv ht
      have hst := castS_ok (B := 35184372088832) (by omega) (fun k hk => gT_in hk hv hf) (fun k hk => gT_in hk hv ht) (k := j) (by omega) hs
      have nx : castS (gT n da db fx fy) (gT n da db tx ty) (j + 1) = _ := rfl
      conv at nx => rhs; unfold castS; rw [hs]
      simp only at nx
      have rcs := fun i' x' y' c1 d1 => W_aj_ok (k := k) (ba := ba) (bb := bb) (c := c) hn hv hf ht h0 h1 f (j + 1) i' x' y' c1 d1 (by omega) (by omega)
      unfold E_aj_25 E_aj_26
      rw [e0, e1]
      generalize gT n da db fx fy j = g at *
      generalize gT n da db tx ty j = h at *
      have es1 : isub .i64 h g = h - g := isub64 (by omega) (by omega)
      have es2 : isub .i64 g h = g - h := isub64 (by omega) (by omega)
      have en : ineg .i64 g = -g := ineg64 (by omega) (by omega)
      rw [es1, es2, en, iadd64 (by omega) (by omega)]
      have pnx : P_ce k ba bb c n da db (j : Int) := by
        unfold P_ce
        rw [nr]
        have := nxE_lt hj'
        exact ⟨⟨by omega, hc⟩, by omega, by omega, by omega⟩
      have eo1 : F_eh_0 (-g) y x (h - g) = ordZ (-g * y) (x * (h - g)) := Order_ok ⟨by omega, by omega⟩ ⟨by omega, by omega⟩ ⟨by omega, by omega⟩ ⟨by omega, by omega⟩
      have eo2 : F_eh_0 g d' c' (g - h) = ordZ (g * d') (c' * (g - h)) := Order_ok ⟨by omega, by omega⟩ ⟨by omega, by omega⟩ ⟨by omega, by omega⟩ ⟨by omega, by omega⟩
      rw [eo1, eo2]
      refine ⟨pnx, trivial, trivial, trivial, trivial, trivial, trivial, trivial, ?_⟩
      by_cases hg : g < 0
      · rw [if_pos hg] at nx
        simp only [ilt_t.2 hg, ige_f.2 hg, cond_true, cond_false]
        refine cond_intro (fun hd => ?_) (fun hd => ?_)
        · rw [ilt_t] at hd
          rw [if_pos hd] at nx
          exact h1 (castS_none nx (by omega)) _ _ _ _ _ _
        · rw [ilt_f] at hd
          rw [if_neg (by omega)] at nx
          refine cond_intro (fun he => ?_) (fun he => ?_)
          · rw [ilt_t] at he
            rw [if_pos (.inl he)] at nx
            exact rcs _ _ _ _ _ nx
          · rw [ilt_f] at he
            refine ⟨trivial, cond_intro (fun hi => ?_) (fun hi => ?_)⟩
            · rw [igt_t] at hi
              rw [if_pos (.inr hi)] at nx
              exact rcs _ _ _ _ _ nx
            · rw [igt_f] at hi
              rw [if_neg (by omega)] at nx
              exact rcs _ _ _ _ _ nx
      · rw [if_neg hg] at nx
        simp only [ilt_f.2 (show 0 <= g by omega), ige_t.2 (show 0 <= g by omega), cond_true, cond_false]
        refine cond_intro (fun hd => ?_) (fun hd => ?_)
        · rw [ilt_t] at hd
          refine ⟨trivial, cond_intro (fun hi => ?_) (fun hi => ?_)⟩
          · rw [ilt_t] at hi
            rw [if_pos ⟨hd, hi⟩] at nx
            exact rcs _ _ _ _ _ nx
          · rw [ilt_f] at hi
            rw [if_neg (fun q => by omega)] at nx
            exact rcs _ _ _ _ _ nx
        · rw [ilt_f] at hd
          rw [if_neg (fun q => by omega)] at nx
          exact rcs _ _ _ _ _ nx
    · rw [ilt_f] at hc
      have : j = n := by omega
      subst this
      exact h0 _ _ _ _ _ _ hs
theorem H_aj (cm ge gg gm : Int) (gq : Nat) (gu gv : Nat -> Int) (gb gd gh gj : Int) {K0 : Bool -> Int -> Bool -> Int -> Bool -> Int -> Bool -> Prop} (h : P_aj cm ge gg gm gq gu gv gb gd gh gj) (hK : K0 (F_aj_0 cm ge gg gm gq gu gv gb gd gh gj) (F_aj_1 cm ge gg gm gq gu gv gb gd gh gj) (F_aj_2 cm ge gg gm gq gu gv gb gd gh gj) (F_aj_3 cm ge gg gm gq gu gv gb gd gh gj) (F_aj_4 cm ge gg gm gq gu gv gb gd gh gj) (F_aj_5 cm ge gg gm gq gu gv gb gd gh gj) (F_aj_6 cm ge gg gm gq gu gv gb gd gh gj)) : B_aj cm ge gg gm gq gu gv gb gd gh gj K0 (W_aj_0 cm ge gg gm gq gu gv gb gd gh gj fuel) := by
  obtain ⟨hn, hr⟩ := h
  unfold F_aj_0 F_aj_1 F_aj_2 F_aj_3 F_aj_4 F_aj_5 F_aj_6 castC at hK
  unfold B_aj
  simp only [Ts_iff, valid_eq]
  refine ⟨hn, cond_intro (fun hc => ?_) (fun hc => ?_)⟩
  · rw [hc] at hK; exact hK
  · rw [hc] at hK
    rw [ine_f] at hc
    simp only [cond_false] at hK
    obtain ⟨q1, hv, q3, q4⟩ := cast_pts hc
    refine ⟨trivial, cond_intro (fun hf => ?_) (fun hf => ?_)⟩
    · rw [hf] at hK; exact hK
    · rw [hf] at hK
      simp only [cond_false] at hK
      rw [Bool.not_eq_false'] at hf
      refine ⟨trivial, cond_intro (fun ht => ?_) (fun ht => ?_)⟩
      · rw [ht] at hK; exact hK
      · rw [ht] at hK
        simp only [cond_false] at hK
        rw [Bool.not_eq_false'] at ht
        refine ⟨hn, cond_intro (fun hh => ?_) (fun hh => ?_)⟩
        · rw [hh] at hK; exact hK
        · rw [hh] at hK
          simp only [cond_false] at hK
          refine cond_intro (fun hk => ?_) (fun hk => ?_)
          · rw [hk] at hK
            exact ⟨hr hc hf ht hk, hK⟩
          · rw [hk] at hK
            simp only [cond_false] at hK
            unfold pmH castH at hK
            refine W_aj_ok hn hv hf ht (fun i x y c' d' v hs => ?_) (fun hs _ _ _ _ _ _ => ?_) fuel 0 (-1) 0 1 1 1 (Nat.zero_le _) (by rw [fuel_eq]; omega) rfl
            · rw [hs] at hK
              simp only at hK
              have hst := castS_ok (B := 35184372088832) (by omega) (fun k hk => gT_in hk hv hf) (fun k hk => gT_in hk hv ht) (k := gq) (by omega) hs
              refine cond_intro (fun hi => ?_) (fun hi => ?_)
              · rw [ilt_t] at hi
                rw [if_pos (.inl hi)] at hK
                exact hK
              · rw [ilt_f] at hi
                have eo : F_eh_0 x d' c' y = ordZ (x * d') (c' * y) := Order_ok ⟨by omega, by omega⟩ ⟨by omega, by omega⟩ ⟨by omega, by omega⟩ ⟨by omega, by omega⟩
                rw [eo]
                refine ⟨trivial, cond_intro (fun he => ?_) (fun he => ?_)⟩
                · rw [igt_t] at he
                  rw [if_pos (.inr he)] at hK
                  exact hK
                · rw [igt_f] at he
                  rw [if_neg (by omega)] at hK
                  simp only at hK
                  have hin : i.toNat < gq := by omega
                  have hii : ((i.toNat : Nat) : Int) = i := by omega
                  have nr := nx_rem hin hn
                  rw [hii] at nr
                  have n3 : F_ce_2 cm ge gg gm gq gu gv i = gu (nxE gq i.toNat) := by unfold F_ce_2; rw [nr, Int.toNat_natCast]
                  have n4 : F_ce_3 cm ge gg gm gq gu gv i = gv (nxE gq i.toNat) := by unfold F_ce_3; rw [nr, Int.toNat_natCast]
                  have n1 : F_ce_0 cm ge gg gm gq gu gv i = gu i.toNat := rfl
                  have n2 : F_ce_1 cm ge gg gm gq gu gv i = gv i.toNat := rfl
                  have pnx : P_ce cm ge gg gm gq gu gv i := by
                    unfold P_ce
                    rw [nr]
                    have := nxE_lt hin
                    exact ⟨⟨hi, by omega⟩, by omega, by omega, by omega⟩
                  have pn := normal_pk (hv _ hin) (hv _ (nxE_lt hin))
                  have ex : ineg .i64 x = -x := ineg64 (by omega) (by omega)
                  have ey : ineg .i64 y = -y := ineg64 (by omega) (by omega)
                  unfold E_aj_27 E_aj_28 E_aj_29 E_aj_30
                  rw [n1, n2, n3, n4, ex, ey]
                  obtain ⟨_, pr, _⟩ := Ratio_pk (a := -x) (b := -y) ⟨by omega, by omega⟩ ⟨by omega, by omega⟩
                  exact ⟨pnx, pr, pn.2.1, trivial, hK⟩
            · rw [hs] at hK
              exact hK
theorem pmH_congr {n : Nat} {a b a' b' : Nat -> Int} {fx fy tx ty : Int} (h : ∀ j, j < n -> a' j = a j /\ b' j = b j) : pmH n a' b' fx fy tx ty = pmH n a b fx fy tx ty := by
  unfold pmH castH
  rw [castS_congr (g' := gT n a b fx fy) (h' := gT n a b tx ty) (fun k hk => by
    obtain ⟨h1, h2⟩ := h k hk
    obtain ⟨h3, h4⟩ := h _ (nxE_lt hk)
    unfold gT
    rw [h1, h2, h3, h4]
    exact ⟨rfl, rfl⟩)]
theorem pmH_some {n : Nat} {a b : Nat -> Int} {fx fy tx ty : Int} (hv : ∀ k, k < n -> spotOK (a k) (b k) = true) (hf : spotOK fx fy = true) (ht : spotOK tx ty = true) {i : Nat} {x y : Int} (h : pmH n a b fx fy tx ty = some (i, x, y)) : i < n /\ Num' (-x) /\ Num' (-y) /\ 0 < x /\ x <= y /\ x = -(gT n a b fx fy i) /\ y = gT n a b tx ty i - gT n a b fx fy i := by
  unfold pmH castH at h
  cases hs : castS (gT n a b fx fy) (gT n a b tx ty) n with
  | none => rw [hs] at h; cases h
  | some s =>
    obtain ⟨i0, x0, y0, c0, d0⟩ := s
    rw [hs] at h
    simp only at h
    have hst := castS_ok (B := 35184372088832) (by omega) (fun k hk => gT_in hk hv hf) (fun k hk => gT_in hk hv ht) (k := n) (by omega) hs
    split at h
    · cases h
    · rename_i hc
      simp only [Option.some.injEq, Prod.mk.injEq] at h
      obtain ⟨rfl, rfl, rfl⟩ := h
      rcases hst.1 with h1 | h1
      · omega
      · exact ⟨by omega, ⟨by omega, by omega⟩, ⟨by omega, by omega⟩, by omega, by omega, by omega, by omega⟩
theorem has_r3 {k ba bb c : Int} {n : Nat} {da db da' db' : Nat -> Int} {px py : Int} (h : ∀ j, j < n -> da' j = da j /\ db' j = db j) (hk : ieq k 1 = false) (hv : ∀ j, j < n -> spotOK (da j) (db j) = true) (hp : spotOK px py = true) : F_ap_0 n da' db' px py = F_bp_0 k ba bb c n da db px py := by
  unfold F_bp_0
  rw [hk, cond_false]
  unfold F_ap_0
  rw [Bool.eq_iff_iff, List.all_eq_true, List.all_eq_true]
  have key : ∀ j, j < n -> hasOK n da' db' px py j = has3 n da db px py j := fun j hj => by
    obtain ⟨h1, h2⟩ := h j hj
    obtain ⟨h3, h4⟩ := h _ (nxE_lt hj)
    unfold hasOK has3
    rw [h1, h2, h3, h4, turn_side (hv j hj) (hv _ (nxE_lt hj)) hp]
  exact ⟨fun g j hj => by rw [← key j (List.mem_range.1 hj)]; exact g j hj, fun g j hj => by rw [key j (List.mem_range.1 hj)]; exact g j hj⟩
theorem has_disc {k cx cy r px py : Int} {n : Nat} {da db : Nat -> Int} (hk : ieq k 1 = true) : F_dm_0 cx cy r px py = F_bp_0 k cx cy r n da db px py := by
  unfold F_bp_0; rw [hk]; rfl
theorem fair2' (a b c d : Int) : F_bq_0 2 (pushF 1 (fun _ => a) c) (pushF 1 (fun _ => b) d) = (spotOK a b && spotOK c d) := fair2 a b c d
theorem Cast_pk {k ba bb c : Int} {n : Nat} {da db da' db' : Nat -> Int} {fx fy tx ty : Int} (hF : FormI k ba bb c n da db) (h : ∀ j, j < n -> da' j = da j /\ db' j = db j) (h1 : I64 fx) (h2 : I64 fy) (h3 : I64 tx) (h4 : I64 ty) :
    P_bg k ba bb c n da' db' fx fy tx ty /\ P_aj k ba bb c n da db fx fy tx ty /\ F_bg_0 k ba bb c n da' db' fx fy tx ty = F_aj_0 k ba bb c n da db fx fy tx ty /\ F_bg_1 k ba bb c n da' db' fx fy tx ty = F_aj_1 k ba bb c n da db fx fy tx ty /\ F_bg_2 k ba bb c n da' db' fx fy tx ty = F_aj_2 k ba bb c n da db fx fy tx ty /\ F_bg_3 k ba bb c n da' db' fx fy tx ty = F_aj_3 k ba bb c n da db fx fy tx ty /\
    F_bg_4 k ba bb c n da' db' fx fy tx ty = F_aj_4 k ba bb c n da db fx fy tx ty /\ F_bg_5 k ba bb c n da' db' fx fy tx ty = F_aj_5 k ba bb c n da db fx fy tx ty /\ F_bg_6 k ba bb c n da' db' fx fy tx ty = F_aj_6 k ba bb c n da db fx fy tx ty := by
  obtain ⟨⟨i1, i2, i3, i4⟩, hn, hI⟩ := hF
  have hF' : P_ar k ba bb c n da' db' := ⟨⟨i1, i2, i3, i4⟩, hn, fun j hj => by rw [(h j hj).1, (h j hj).2]; exact hI j hj⟩
  have ck := form_check (k := k) (ba := ba) (bb := bb) (c := c) h
  have hfair : P_bq 2 (pushF 1 (fun _ => fx) tx) (pushF 1 (fun _ => fy) ty) := fairP2 h1 h2 h3 h4
  unfold P_bg P_aj F_bg_0 F_bg_1 F_bg_2 F_bg_3 F_bg_4 F_bg_5 F_bg_6 F_aj_0 F_aj_1 F_aj_2 F_aj_3 F_aj_4 F_aj_5 F_aj_6 castC C_ar_0 C_ar_1
  simp only [E_bg_0, E_bg_1, E_bg_2, E_bg_3, E_bg_4, E_bg_5, E_bg_6, E_bg_7, E_bg_8, E_bg_9, E_bg_10, E_bg_11, E_bg_12, E_bg_13, E_bg_14, E_bg_15, E_bg_16]
  have f10 : F_ar_1_0 k ba bb c n da' db' = ba := rfl
  have f11 : F_ar_1_1 k ba bb c n da' db' = bb := rfl
  have f12 : F_ar_1_2 k ba bb c n da' db' = c := rfl
  have f20 : F_ar_2_0 k ba bb c n da' db' = n := rfl
  have f21 : F_ar_2_1 k ba bb c n da' db' = da' := rfl
  have f22 : F_ar_2_2 k ba bb c n da' db' = db' := rfl
  rw [ck, fair2, f10, f11, f12, f20, f21, f22]
  cases hc : ine (F_bi_0 k ba bb c n da db) 0 with
  | true =>
    rw [ine_t] at hc
    exact ⟨⟨hF', trivial⟩, ⟨hn, fun h => absurd h hc⟩, rfl, rfl, rfl, rfl, rfl, rfl, rfl⟩
  | false =>
    rw [ine_f] at hc
    obtain ⟨q1, hv, q3, q4⟩ := cast_pts hc
    have hv' : ∀ j, j < n -> spotOK (da' j) (db' j) = true := fun j hj => by rw [(h j hj).1, (h j hj).2]; exact hv j hj
    simp only [cond_false]
    cases hf : spotOK fx fy with
    | false =>
      simp only [Bool.false_and, Bool.not_false, cond_true]
      cases hk : ieq k 1 <;> exact ⟨⟨hF', hfair, trivial⟩, ⟨hn, fun _ h => by cases h⟩, rfl, rfl, rfl, rfl, rfl, rfl, rfl⟩
    | true =>
      cases ht : spotOK tx ty with
      | false =>
        simp only [Bool.true_and, Bool.not_false, Bool.not_true, cond_true, cond_false]
        cases hk : ieq k 1 <;> exact ⟨⟨hF', hfair, trivial⟩, ⟨hn, fun _ _ h => by cases h⟩, rfl, rfl, rfl, rfl, rfl, rfl, rfl⟩
      | true =>
        simp only [Bool.true_and, Bool.not_true, cond_false]
        cases hk : ieq k 1 with
        | true =>
          simp only [cond_true]
          have hd : F_dm_0 ba bb c fx fy = F_bp_0 k ba bb c n da db fx fy := has_disc hk
          obtain ⟨r1, r2, e0, e1, e2, e3, e4, e5, e6⟩ := ray_eq (n := n) (da := da) (db := db) hk (q4 hk) hn q1 hf ht
          rw [hd, e0, e1, e2, e3, e4, e5, e6]
          refine ⟨⟨hF', hfair, ?_⟩, ⟨hn, fun _ _ _ _ => r2⟩, rfl, rfl, rfl, rfl, rfl, rfl, rfl⟩
          exact cond_intro (fun _ => trivial) (fun _ => r1)
        | false =>
          simp only [cond_false]
          have hd : F_ap_0 n da' db' fx fy = F_bp_0 k ba bb c n da db fx fy := has_r3 h hk hv hf
          rw [hd]
          unfold F_ae_0 F_ae_1 F_ae_2 F_ae_3 F_ae_4 F_ae_5 F_ae_6
          rw [pmH_congr h]
          refine ⟨⟨hF', hfair, hn, cond_intro (fun _ => trivial) (fun _ => ⟨⟨hn, hv'⟩, hf, ht⟩)⟩, ⟨hn, fun _ _ _ h => by cases h⟩, ?_⟩
          cases hh : F_bp_0 k ba bb c n da db fx fy with
          | true => exact ⟨rfl, rfl, rfl, rfl, rfl, rfl, rfl⟩
          | false =>
            simp only [cond_false]
            cases hp : pmH n da db fx fy tx ty with
            | none => exact ⟨rfl, rfl, rfl, rfl, rfl, rfl, rfl⟩
            | some s =>
              obtain ⟨i, x, y⟩ := s
              obtain ⟨hi, hx, hy, _⟩ := pmH_some hv hf ht hp
              obtain ⟨_, _, e1, e2, _⟩ := Ratio_pk hx hy
              obtain ⟨_, _, n0, n1, n2, n3, _⟩ := normal_pk (hv i hi) (hv _ (nxE_lt hi))
              simp only
              rw [(h i hi).1, (h i hi).2, (h _ (nxE_lt hi)).1, (h _ (nxE_lt hi)).2, e1, e2, n0, n1, n2, n3]
              refine ⟨?_, ?_, ?_, ?_, ?_, ?_, ?_⟩ <;> first | rfl | trivial

end
end Go.Ag
