import Derived.Test.YtbcegholicnflaaGreatFirstPA
set_option linter.unusedVariables false
set_option linter.unusedSimpArgs false
set_option maxRecDepth 100000
namespace Go.Ag
open Go.RowKit
noncomputable section
def yT (ig:Nat) (cm ge:Nat -> Int) (ir lq:Int) (c x0 x1 : Int -> Prop)  : Prop := Ts 3 (cond (ilt lq (ig:Int)) (Ts 2 (((V8 (cm (Int.toNat (aB .i64 (au .i64 ir 1) (ig:Int)))) (ge (Int.toNat (aB .i64 (au .i64 ir 1) (ig:Int)))) (cm (Int.toNat ir)) (ge (Int.toNat ir))) /\ Ts 5 ((((ig:Int) ≠ 0) /\ ((0 <= (aB .i64 (au .i64 ir lq) (ig:Int)) /\ (aB .i64 (au .i64 ir lq) (ig:Int)) < (ig:Int)) /\ Ts 2 (((V8 (cm (Int.toNat (aB .i64 (au .i64 ir lq) (ig:Int)))) (ge (Int.toNat (aB .i64 (au .i64 ir lq) (ig:Int)))) (cm (Int.toNat ir)) (ge (Int.toNat ir))) /\ ((Qy (dH (cm (Int.toNat (aB .i64 (au .i64 ir 1) (ig:Int)))) (ge (Int.toNat (aB .i64 (au .i64 ir 1) (ig:Int)))) (cm (Int.toNat ir)) (ge (Int.toNat ir))) (dI (cm (Int.toNat (aB .i64 (au .i64 ir 1) (ig:Int)))) (ge (Int.toNat (aB .i64 (au .i64 ir 1) (ig:Int)))) (cm (Int.toNat ir)) (ge (Int.toNat ir))) (dH (cm (Int.toNat (aB .i64 (au .i64 ir lq) (ig:Int)))) (ge (Int.toNat (aB .i64 (au .i64 ir lq) (ig:Int)))) (cm (Int.toNat ir)) (ge (Int.toNat ir))) (dI (cm (Int.toNat (aB .i64 (au .i64 ir lq) (ig:Int)))) (ge (Int.toNat (aB .i64 (au .i64 ir lq) (ig:Int)))) (cm (Int.toNat ir)) (ge (Int.toNat ir)))) /\ Ts 1 ((true = true /\ cond (ile (mF (dH (cm (Int.toNat (aB .i64 (au .i64 ir 1) (ig:Int)))) (ge (Int.toNat (aB .i64 (au .i64 ir 1) (ig:Int)))) (cm (Int.toNat ir)) (ge (Int.toNat ir))) (dI (cm (Int.toNat (aB .i64 (au .i64 ir 1) (ig:Int)))) (ge (Int.toNat (aB .i64 (au .i64 ir 1) (ig:Int)))) (cm (Int.toNat ir)) (ge (Int.toNat ir))) (dH (cm (Int.toNat (aB .i64 (au .i64 ir lq) (ig:Int)))) (ge (Int.toNat (aB .i64 (au .i64 ir lq) (ig:Int)))) (cm (Int.toNat ir)) (ge (Int.toNat ir))) (dI (cm (Int.toNat (aB .i64 (au .i64 ir lq) (ig:Int)))) (ge (Int.toNat (aB .i64 (au .i64 ir lq) (ig:Int)))) (cm (Int.toNat ir)) (ge (Int.toNat ir)))) 0) (Ts 1 (x1 lq)) (Ts 3 (c (au .i64 lq 1)))))))))))))) (x0 lq))
def mM (ig:Nat) (cm ge:Nat -> Int) (ir:Int) : Nat -> Int -> (Int -> Prop) -> (Int -> Prop) -> Prop
  | 0, _, _, _ => False
  | f + 1, w0, x0, x1 => yT ig cm ge ir w0 (fun u0 => mM ig cm ge ir f u0 x0 x1) x0 x1 
theorem UJ (ig:Nat) (cm ge:Nat -> Int) (ir lq:Int) {c c' : Int -> Prop} {x0 y0 : Int -> Prop} {x1 y1 : Int -> Prop} (hc : ∀ w0, c w0 -> c' w0) (h0 : ∀ o0, x0 o0 -> y0 o0) (h1 : ∀ o0, x1 o0 -> y1 o0) : yT ig cm ge ir lq c x0 x1  -> yT ig cm ge ir lq c' y0 y1  := by
  unfold yT
  repeat' first
    | exact hc _
    | exact h0 _
    | exact h1 _
    | refine dU ?_
    | refine cO ?_ ?_
    | refine cZ ?_
theorem Nv (ig:Nat) (cm ge:Nat -> Int) (ir:Int) {x0 y0 : Int -> Prop} {x1 y1 : Int -> Prop} (h0 : ∀ o0, x0 o0 -> y0 o0) (h1 : ∀ o0, x1 o0 -> y1 o0) : ∀ (f:Nat) (lq:Int), mM ig cm ge ir f lq x0 x1 -> mM ig cm ge ir f lq y0 y1
  | 0, w0 => fun h => h
  | f + 1, w0 => UJ ig cm ge ir w0 (fun u0 => Nv ig cm ge ir h0 h1 f u0) h0 h1
def AY (ig:Nat) (cm ge:Nat -> Int) (ir:Int) (c x0 x1 : Int -> Prop) (l0 : Int -> (Int -> Prop) -> (Int -> Prop) -> Prop) : Prop := Ts 3 (cond (ilt ir (ig:Int)) (Ts 2 (((0 <= ir /\ ir < (ig:Int)) /\ Ts 5 ((((ig:Int) ≠ 0) /\ ((0 <= (aB .i64 (au .i64 ir 1) (ig:Int)) /\ (aB .i64 (au .i64 ir 1) (ig:Int)) < (ig:Int)) /\ Ts 5 ((((ig:Int) ≠ 0) /\ ((0 <= (aB .i64 (au .i64 ir 2) (ig:Int)) /\ (aB .i64 (au .i64 ir 2) (ig:Int)) < (ig:Int)) /\ Ts 7 ((true = true /\ Ts 2 (((Qy (cm (Int.toNat ir)) (ge (Int.toNat ir)) (cm (Int.toNat (aB .i64 (au .i64 ir 1) (ig:Int)))) (ge (Int.toNat (aB .i64 (au .i64 ir 1) (ig:Int))))) /\ Ts 2 (cond (ile (mF (cm (Int.toNat ir)) (ge (Int.toNat ir)) (cm (Int.toNat (aB .i64 (au .i64 ir 1) (ig:Int)))) (ge (Int.toNat (aB .i64 (au .i64 ir 1) (ig:Int))))) 0) (Ts 1 ((true = true /\ Ts 1 (x1 ir)))) (Ts 2 (((V8 (cm (Int.toNat (aB .i64 (au .i64 ir 1) (ig:Int)))) (ge (Int.toNat (aB .i64 (au .i64 ir 1) (ig:Int)))) (cm (Int.toNat ir)) (ge (Int.toNat ir))) /\ Ts 2 (((V8 (cm (Int.toNat (aB .i64 (au .i64 ir 2) (ig:Int)))) (ge (Int.toNat (aB .i64 (au .i64 ir 2) (ig:Int)))) (cm (Int.toNat (aB .i64 (au .i64 ir 1) (ig:Int)))) (ge (Int.toNat (aB .i64 (au .i64 ir 1) (ig:Int))))) /\ ((Qy (dH (cm (Int.toNat (aB .i64 (au .i64 ir 1) (ig:Int)))) (ge (Int.toNat (aB .i64 (au .i64 ir 1) (ig:Int)))) (cm (Int.toNat ir)) (ge (Int.toNat ir))) (dI (cm (Int.toNat (aB .i64 (au .i64 ir 1) (ig:Int)))) (ge (Int.toNat (aB .i64 (au .i64 ir 1) (ig:Int)))) (cm (Int.toNat ir)) (ge (Int.toNat ir))) (dH (cm (Int.toNat (aB .i64 (au .i64 ir 2) (ig:Int)))) (ge (Int.toNat (aB .i64 (au .i64 ir 2) (ig:Int)))) (cm (Int.toNat (aB .i64 (au .i64 ir 1) (ig:Int)))) (ge (Int.toNat (aB .i64 (au .i64 ir 1) (ig:Int))))) (dI (cm (Int.toNat (aB .i64 (au .i64 ir 2) (ig:Int)))) (ge (Int.toNat (aB .i64 (au .i64 ir 2) (ig:Int)))) (cm (Int.toNat (aB .i64 (au .i64 ir 1) (ig:Int)))) (ge (Int.toNat (aB .i64 (au .i64 ir 1) (ig:Int)))))) /\ Ts 2 (((V8 (cm (Int.toNat (aB .i64 (au .i64 ir 1) (ig:Int)))) (ge (Int.toNat (aB .i64 (au .i64 ir 1) (ig:Int)))) (cm (Int.toNat ir)) (ge (Int.toNat ir))) /\ ((Zk (dH (cm (Int.toNat (aB .i64 (au .i64 ir 1) (ig:Int)))) (ge (Int.toNat (aB .i64 (au .i64 ir 1) (ig:Int)))) (cm (Int.toNat ir)) (ge (Int.toNat ir))) (dI (cm (Int.toNat (aB .i64 (au .i64 ir 1) (ig:Int)))) (ge (Int.toNat (aB .i64 (au .i64 ir 1) (ig:Int)))) (cm (Int.toNat ir)) (ge (Int.toNat ir)))) /\ Ts 2 (((V8 (cm (Int.toNat (aB .i64 (au .i64 ir 2) (ig:Int)))) (ge (Int.toNat (aB .i64 (au .i64 ir 2) (ig:Int)))) (cm (Int.toNat (aB .i64 (au .i64 ir 1) (ig:Int)))) (ge (Int.toNat (aB .i64 (au .i64 ir 1) (ig:Int))))) /\ ((Zk (dH (cm (Int.toNat (aB .i64 (au .i64 ir 2) (ig:Int)))) (ge (Int.toNat (aB .i64 (au .i64 ir 2) (ig:Int)))) (cm (Int.toNat (aB .i64 (au .i64 ir 1) (ig:Int)))) (ge (Int.toNat (aB .i64 (au .i64 ir 1) (ig:Int))))) (dI (cm (Int.toNat (aB .i64 (au .i64 ir 2) (ig:Int)))) (ge (Int.toNat (aB .i64 (au .i64 ir 2) (ig:Int)))) (cm (Int.toNat (aB .i64 (au .i64 ir 1) (ig:Int)))) (ge (Int.toNat (aB .i64 (au .i64 ir 1) (ig:Int)))))) /\ Ts 4 ((true = true /\ cond (ilt (mF (dH (cm (Int.toNat (aB .i64 (au .i64 ir 1) (ig:Int)))) (ge (Int.toNat (aB .i64 (au .i64 ir 1) (ig:Int)))) (cm (Int.toNat ir)) (ge (Int.toNat ir))) (dI (cm (Int.toNat (aB .i64 (au .i64 ir 1) (ig:Int)))) (ge (Int.toNat (aB .i64 (au .i64 ir 1) (ig:Int)))) (cm (Int.toNat ir)) (ge (Int.toNat ir))) (dH (cm (Int.toNat (aB .i64 (au .i64 ir 2) (ig:Int)))) (ge (Int.toNat (aB .i64 (au .i64 ir 2) (ig:Int)))) (cm (Int.toNat (aB .i64 (au .i64 ir 1) (ig:Int)))) (ge (Int.toNat (aB .i64 (au .i64 ir 1) (ig:Int))))) (dI (cm (Int.toNat (aB .i64 (au .i64 ir 2) (ig:Int)))) (ge (Int.toNat (aB .i64 (au .i64 ir 2) (ig:Int)))) (cm (Int.toNat (aB .i64 (au .i64 ir 1) (ig:Int)))) (ge (Int.toNat (aB .i64 (au .i64 ir 1) (ig:Int)))))) (aI .i64 4 (au .i64 (Wi (dH (cm (Int.toNat (aB .i64 (au .i64 ir 1) (ig:Int)))) (ge (Int.toNat (aB .i64 (au .i64 ir 1) (ig:Int)))) (cm (Int.toNat ir)) (ge (Int.toNat ir))) (dI (cm (Int.toNat (aB .i64 (au .i64 ir 1) (ig:Int)))) (ge (Int.toNat (aB .i64 (au .i64 ir 1) (ig:Int)))) (cm (Int.toNat ir)) (ge (Int.toNat ir)))) (Wi (dH (cm (Int.toNat (aB .i64 (au .i64 ir 2) (ig:Int)))) (ge (Int.toNat (aB .i64 (au .i64 ir 2) (ig:Int)))) (cm (Int.toNat (aB .i64 (au .i64 ir 1) (ig:Int)))) (ge (Int.toNat (aB .i64 (au .i64 ir 1) (ig:Int))))) (dI (cm (Int.toNat (aB .i64 (au .i64 ir 2) (ig:Int)))) (ge (Int.toNat (aB .i64 (au .i64 ir 2) (ig:Int)))) (cm (Int.toNat (aB .i64 (au .i64 ir 1) (ig:Int)))) (ge (Int.toNat (aB .i64 (au .i64 ir 1) (ig:Int))))))))) (Ts 1 (x1 ir)) (Ts 1 ((l0 2 (fun ra => Ts 3 (c (au .i64 ir 1))) (fun ra => x1 ir)))))))))))))))))))))))))))))))) (x0 ir))
def yU (ig:Nat) (cm ge:Nat -> Int) : Nat -> Int -> (Int -> Prop) -> (Int -> Prop) -> Prop
  | 0, _, _, _ => False
  | f + 1, w0, x0, x1 => AY ig cm ge w0 (fun u0 => yU ig cm ge f u0 x0 x1) x0 x1 (mM ig cm ge w0 fuel)
theorem ahG (ig:Nat) (cm ge:Nat -> Int) (ir:Int) {c c' : Int -> Prop} {x0 y0 : Int -> Prop} {x1 y1 : Int -> Prop} (hc : ∀ w0, c w0 -> c' w0) (h0 : ∀ o0, x0 o0 -> y0 o0) (h1 : ∀ o0, x1 o0 -> y1 o0) : AY ig cm ge ir c x0 x1 (mM ig cm ge ir fuel) -> AY ig cm ge ir c' y0 y1 (mM ig cm ge ir fuel) := by
  unfold AY
  repeat' first
    | exact hc _
    | exact h0 _
    | exact h1 _
    | refine dU ?_
    | refine cO ?_ ?_
    | refine cZ ?_
    | refine Nv _ _ _ _  (fun _ => ?_) (fun _ => ?_) _ _ 
theorem abU (ig:Nat) (cm ge:Nat -> Int) {x0 y0 : Int -> Prop} {x1 y1 : Int -> Prop} (h0 : ∀ o0, x0 o0 -> y0 o0) (h1 : ∀ o0, x1 o0 -> y1 o0) : ∀ (f:Nat) (ir:Int), yU ig cm ge f ir x0 x1 -> yU ig cm ge f ir y0 y1
  | 0, w0 => fun h => h
  | f + 1, w0 => ahG ig cm ge w0 (fun u0 => abU ig cm ge h0 h1 f u0) h0 h1
def adv (ig:Nat) (cm ge:Nat -> Int) (K0 : Bool -> Prop) (l0 : Int -> (Int -> Prop) -> (Int -> Prop) -> Prop) : Prop := Ts 5 ((l0 0 (fun oe => Ts 1 (K0 true)) (fun oe => K0 false)))
def ixN (n j k:Nat) : Nat := (j + k) % n
theorem V9 {n j k : Nat} (hj : j < n) (hn : n <= 1000000) (hk : k <= 1000002) : aB .i64 (au .i64 (j:Int) (k:Int)) (n:Int) = ((ixN n j k:Nat):Int) := by
  rw [fF (by omega) (by omega), rC]
  show ((j:Int) + (k:Int)).tmod (n:Int) = _
  rw [Int.tmod_eq_emod_of_nonneg (by omega)]
  unfold ixN
  rw [Int.natCast_emod, Int.natCast_add]
theorem abV {n j : Nat} (hj : j < n) (k:Nat) : ixN n j k < n := Nat.mod_lt _ (by omega)
def cx1 (n:Nat) (a b:Nat -> Int) (i:Nat) : Bool := !(ile (mF (a i) (b i) (a (ixN n i 1)) (b (ixN n i 1))) 0)
def cx2 (n:Nat) (a b:Nat -> Int) (i:Nat) : Bool := !(ilt (mF (dH (a (ixN n i 1)) (b (ixN n i 1)) (a i) (b i)) (dI (a (ixN n i 1)) (b (ixN n i 1)) (a i) (b i)) (dH (a (ixN n i 2)) (b (ixN n i 2)) (a (ixN n i 1)) (b (ixN n i 1))) (dI (a (ixN n i 2)) (b (ixN n i 2)) (a (ixN n i 1)) (b (ixN n i 1)))) (aI .i64 4 (au .i64 (Wi (dH (a (ixN n i 1)) (b (ixN n i 1)) (a i) (b i)) (dI (a (ixN n i 1)) (b (ixN n i 1)) (a i) (b i))) (Wi (dH (a (ixN n i 2)) (b (ixN n i 2)) (a (ixN n i 1)) (b (ixN n i 1))) (dI (a (ixN n i 2)) (b (ixN n i 2)) (a (ixN n i 1)) (b (ixN n i 1)))))))
def cx3 (n:Nat) (a b:Nat -> Int) (i k:Nat) : Bool := !(ile (mF (dH (a (ixN n i 1)) (b (ixN n i 1)) (a i) (b i)) (dI (a (ixN n i 1)) (b (ixN n i 1)) (a i) (b i)) (dH (a (ixN n i k)) (b (ixN n i k)) (a i) (b i)) (dI (a (ixN n i k)) (b (ixN n i k)) (a i) (b i))) 0)
def cxA (n:Nat) (a b:Nat -> Int) (i:Nat) : Bool := cx1 n a b i && cx2 n a b i && (List.range n).all fun k => decide (k < 2) || cx3 n a b i k
def amu (n:Nat) (a b:Nat -> Int) : Prop := n <= 1000000
def Nw (n:Nat) (a b:Nat -> Int) : Bool := (List.range n).all fun i => cxA n a b i
theorem UK {n : Nat} {a b : Nat -> Int} (hn : n <= 1000000) {i : Nat} (hi : i < n) {x0 x1 : Int -> Prop} (h3 : ((List.range n).all fun k => decide (k < 2) || cx3 n a b i k) = true -> ∀ v, x0 v) (h4 : ((List.range n).all fun k => decide (k < 2) || cx3 n a b i k) = false -> ∀ v, x1 v) : ∀ (f k:Nat), 2 <= k -> k <= n + 2 -> n + 2 < f + k -> (∀ j, 2 <= j -> j < k -> j < n -> cx3 n a b i j = true) -> mM n a b i f k x0 x1
  | 0, k, h1, h1', h2, g => by omega
  | f + 1, k, h1, h1', h2, g => by
    show yT n a b i k _ _ _
    unfold yT
    simp only [aH, true_and, Int.toNat_natCast, Nat.zero_add]
    refine aC (fun hc => ?_) (fun hc => ?_)
    . rw [dY] at hc
      have e1 : aB .i64 (au .i64 (i:Int) 1) (n:Int) = ((ixN n i 1:Nat):Int) := V9 (k := 1) hi hn (by omega)
      have l1 := abV hi 1
      have lk := abV hi k
      rw [V9 hi hn (by omega), e1]
      simp only [Int.toNat_natCast]
      refine ⟨trivial, by omega, ⟨by omega, by omega⟩, trivial, trivial, aC (fun he => ?_) (fun he => ?_)⟩
      . refine h4 ?_ _
        rw [List.all_eq_false]
        exact ⟨k, List.mem_range.2 (by omega), by unfold cx3; rw [he]; simp; omega⟩
      . rw [fF (by omega) (by omega)]
        refine UK hn hi h3 h4 f (k + 1) (by omega) (by omega) (by omega) fun j hj1 hj2 hj3 => ?_
        by_cases e : j = k
        . subst e; unfold cx3; rw [he]; rfl
        . exact g j hj1 (by omega) hj3
    . rw [fJ] at hc
      refine h3 (List.all_eq_true.2 fun j hj => ?_) _
      have := List.mem_range.1 hj
      by_cases e : j < 2
      . simp [e]
      . rw [g j (by omega) (by omega) this, Bool.or_true]
theorem abW {n : Nat} {a b : Nat -> Int} (hn : n <= 1000000) {x0 x1 : Int -> Prop} (h3 : Nw n a b = true -> ∀ v, x0 v) (h4 : Nw n a b = false -> ∀ v, x1 v) : ∀ (f i:Nat), i <= n -> n < f + i -> (∀ j, j < i -> cxA n a b j = true) -> yU n a b f i x0 x1
  | 0, i, h1, h2, g => by omega
  | f + 1, i, h1, h2, g => by
    show AY n a b i _ _ _ _
    unfold AY
    simp only [aH, true_and, Int.toNat_natCast, Nat.zero_add]
    refine aC (fun hc => ?_) (fun hc => ?_)
    . rw [dY] at hc
      have hi : i < n := by omega
      have e1 : aB .i64 (au .i64 (i:Int) 1) (n:Int) = ((ixN n i 1:Nat):Int) := V9 (k := 1) hi hn (by omega)
      have e2 : aB .i64 (au .i64 (i:Int) 2) (n:Int) = ((ixN n i 2:Nat):Int) := V9 (k := 2) hi hn (by omega)
      have l1 := abV hi 1
      have l2 := abV hi 2
      have bad : cxA n a b i = false -> ∀ v, x1 v := fun e => h4 (List.all_eq_false.2 ⟨i, List.mem_range.2 hi, by rw [e]; simp⟩)
      rw [e1, e2]
      simp only [Int.toNat_natCast]
      refine ⟨⟨by omega, by omega⟩, by omega, ⟨by omega, by omega⟩, by omega, ⟨by omega, by omega⟩, trivial, aC (fun he => ?_) (fun he => ?_)⟩
      . exact bad (by unfold cxA cx1; rw [he]; rfl) _
      . refine ⟨trivial, trivial, trivial, trivial, trivial, trivial, trivial, aC (fun hd => ?_) (fun hd => ?_)⟩
        . exact bad (by unfold cxA cx2; rw [hd]; simp) _
        . refine UK hn hi (fun e v => ?_) (fun e v => ?_) fuel 2 (by omega) (by omega) (by rw [gW]; omega) (fun j h1 h2 => by omega)
          . rw [fF (by omega) (by omega)]
            refine abW hn h3 h4 f (i + 1) (by omega) (by omega) fun j hj => ?_
            by_cases ej : j = i
            . subst ej; unfold cxA cx1 cx2; rw [he, hd, e]; rfl
            . exact g j (by omega)
          . exact bad (by unfold cxA; rw [e, Bool.and_false]) _
    . rw [fJ] at hc
      exact h3 (List.all_eq_true.2 fun j hj => g j (by have := List.mem_range.1 hj; omega)) _
theorem au6 (ig:Nat) (cm ge:Nat -> Int) {K0 : Bool -> Prop} (h : amu ig cm ge) (hK : K0 (Nw ig cm ge)) : adv ig cm ge K0 (yU ig cm ge fuel) := by
  unfold adv
  simp only [aH, true_and]
  have hn : ig <= 1000000 := h
  refine abW hn (fun e v => ?_) (fun e v => ?_) fuel 0 (Nat.zero_le _) (by rw [gW]; omega) (fun j hj => by omega)
  . rw [e] at hK; exact hK
  . rw [e] at hK; exact hK
def I9 (cm ge ij iq:Int) (iy:Nat) (iz i5:Nat -> Int) (kc:Int) (c x0 : Int -> Prop) (x1 : Int -> Int -> Prop)  : Prop := Ts 5 (cond (ilt kc (iy:Int)) (Ts 3 (((0 <= kc /\ kc < (iy:Int)) /\ Ts 2 (((Ze (iz (Int.toNat kc))) /\ Ts 2 (cond (!(Ns (iz (Int.toNat kc)))) (Ts 2 (x1 3 kc)) (Ts 3 (((0 <= kc /\ kc < (iy:Int)) /\ Ts 2 (((Ze (i5 (Int.toNat kc))) /\ Ts 2 (cond (!(Ns (i5 (Int.toNat kc)))) (Ts 1 (x1 3 kc)) (Ts 3 (c (au .i64 kc 1))))))))))))))) (x0 kc))
def yV (cm ge ij iq:Int) (iy:Nat) (iz i5:Nat -> Int) : Nat -> Int -> (Int -> Prop) -> (Int -> Int -> Prop) -> Prop
  | 0, _, _, _ => False
  | f + 1, w0, x0, x1 => I9 cm ge ij iq iy iz i5 w0 (fun u0 => yV cm ge ij iq iy iz i5 f u0 x0 x1) x0 x1 
theorem abX (cm ge ij iq:Int) (iy:Nat) (iz i5:Nat -> Int) (kc:Int) {c c' : Int -> Prop} {x0 y0 : Int -> Prop} {x1 y1 : Int -> Int -> Prop} (hc : ∀ w0, c w0 -> c' w0) (h0 : ∀ o0, x0 o0 -> y0 o0) (h1 : ∀ o0 o1, x1 o0 o1 -> y1 o0 o1) : I9 cm ge ij iq iy iz i5 kc c x0 x1  -> I9 cm ge ij iq iy iz i5 kc c' y0 y1  := by
  unfold I9
  repeat' first
    | exact hc _
    | exact h0 _
    | exact h1 _ _
    | refine dU ?_
    | refine cO ?_ ?_
    | refine cZ ?_
theorem abY (cm ge ij iq:Int) (iy:Nat) (iz i5:Nat -> Int) {x0 y0 : Int -> Prop} {x1 y1 : Int -> Int -> Prop} (h0 : ∀ o0, x0 o0 -> y0 o0) (h1 : ∀ o0 o1, x1 o0 o1 -> y1 o0 o1) : ∀ (f:Nat) (kc:Int), yV cm ge ij iq iy iz i5 f kc x0 x1 -> yV cm ge ij iq iy iz i5 f kc y0 y1
  | 0, w0 => fun h => h
  | f + 1, w0 => abX cm ge ij iq iy iz i5 w0 (fun u0 => abY cm ge ij iq iy iz i5 h0 h1 f u0) h0 h1
def adw (cm ge ij iq:Int) (iy:Nat) (iz i5:Nat -> Int) (K0 : Int -> Prop) (l0 : Int -> (Int -> Prop) -> (Int -> Int -> Prop) -> Prop) : Prop := Ts 6 (cond (ieq cm 1) (Ts 4 (cond (ine ij 0) (Ts 4 (K0 4)) (Ts 5 (cond (ine iq 0) (Ts 2 (K0 4)) (Ts 5 (cond (igt (iy:Int) 0) (Ts 1 (K0 4)) (Ts 2 (((afC ge) /\ Ts 1 (cond (!(CJ ge)) (Ts 1 (K0 3)) (Ts 1 (K0 0)))))))))))) (Ts 2 (cond (ieq cm 2) (Ts 4 (cond (ine ge 0) (Ts 2 (K0 4)) (Ts 5 (cond (igt (iy:Int) 0) (Ts 1 (K0 4)) (Ts 2 (((afC ij) /\ Ts 2 (cond (!(CJ ij)) (Ts 2 (K0 3)) (Ts 2 (((afC iq) /\ Ts 2 (cond (!(CJ iq)) (Ts 1 (K0 3)) (Ts 1 (K0 0)))))))))))))) (Ts 2 (cond (ieq cm 3) (Ts 4 (cond (ine ge 0) (Ts 8 (K0 4)) (Ts 5 (cond (ine ij 0) (Ts 6 (K0 4)) (Ts 5 (cond (ine iq 0) (Ts 4 (K0 4)) (Ts 6 (cond (ilt (iy:Int) 3) (Ts 2 (K0 4)) (Ts 5 (cond (igt (iy:Int) 8) (Ts 1 (K0 4)) (Ts 1 ((l0 0 (fun om => Ts 2 (((amu iy iz i5) /\ Ts 1 (cond (!(Nw iy iz i5)) (Ts 1 (K0 5)) (Ts 1 (K0 0)))))) (fun l6 om => K0 l6)))))))))))))) (Ts 1 (K0 8)))))))
def Wh (n:Nat) (x y:Nat -> Int) : Bool := (List.range n).all fun k => Ns (x k) && Ns (y k)
def afI (k r w h:Int) (n:Nat) (x y:Nat -> Int) : Prop := True
def uN (k r w h:Int) (n:Nat) (x y:Nat -> Int) : Int :=
  cond (ieq k 1) (cond (ine w 0) 4 (cond (ine h 0) 4 (cond (igt (n:Int) 0) 4 (cond (!(CJ r)) 3 0))))
    (cond (ieq k 2) (cond (ine r 0) 4 (cond (igt (n:Int) 0) 4 (cond (!(CJ w)) 3 (cond (!(CJ h)) 3 0))))
      (cond (ieq k 3) (cond (ine r 0) 4 (cond (ine w 0) 4 (cond (ine h 0) 4 (cond (ilt (n:Int) 3) 4 (cond (igt (n:Int) 8) 4 (cond (Wh n x y) (cond (!(Nw n x y)) 5 0) 3)))))) 8))
theorem abZ {k r w h : Int} {n : Nat} {x y : Nat -> Int} (hn : n <= 8) {x0 : Int -> Prop} {x1 : Int -> Int -> Prop} (h3 : Wh n x y = true -> ∀ v, x0 v) (h4 : Wh n x y = false -> ∀ v, x1 3 v) : ∀ (f i:Nat), i <= n -> n < f + i -> (∀ j, j < i -> (Ns (x j) && Ns (y j)) = true) -> yV k r w h n x y f i x0 x1
  | 0, i, h1, h2, g => by omega
  | f + 1, i, h1, h2, g => by
    show I9 k r w h n x y i _ _ _
    unfold I9
    simp only [aH, true_and, Int.toNat_natCast, Nat.zero_add]
    refine aC (fun hc => ?_) (fun hc => ?_)
    . rw [dY] at hc
      have bad : (Ns (x i) && Ns (y i)) = false -> ∀ v, x1 3 v := fun e => h4 (List.all_eq_false.2 ⟨i, List.mem_range.2 (by omega), by rw [e]; simp⟩)
      refine ⟨⟨by omega, hc⟩, trivial, aC (fun he => ?_) (fun he => ?_)⟩
      . exact bad (by rw [Bool.not_eq_true'] at he; rw [he]; rfl) _
      . refine ⟨⟨by omega, hc⟩, trivial, aC (fun hd => ?_) (fun hd => ?_)⟩
        . exact bad (by rw [Bool.not_eq_true'] at hd; rw [hd, Bool.and_false]) _
        . rw [fF (by omega) (by omega)]
          refine abZ hn h3 h4 f (i + 1) (by omega) (by omega) fun j hj => ?_
          by_cases e : j = i
          . subst e
            rw [Bool.not_eq_false'] at he hd
            rw [he, hd]; rfl
          . exact g j (by omega)
    . rw [fJ] at hc
      exact h3 (List.all_eq_true.2 fun j hj => g j (by have := List.mem_range.1 hj; omega)) _
theorem au7 (cm ge ij iq:Int) (iy:Nat) (iz i5:Nat -> Int) {K0 : Int -> Prop} (h : afI cm ge ij iq iy iz i5) (hK : K0 (uN cm ge ij iq iy iz i5)) : adw cm ge ij iq iy iz i5 K0 (yV cm ge ij iq iy iz i5 fuel) := by
  unfold adw
  unfold uN at hK
  simp only [aH, true_and]
  repeat' first
    | exact hK
    | (refine aC (fun hc => ?_) (fun hc => ?_) <;> rw [hc] at hK <;> simp only [cond_true, cond_false] at hK)
    | (refine ⟨trivial, ?_⟩)
    | fail
  all_goals
    rw [nV] at hc
    refine abZ (by omega) (fun e v => ?_) (fun e v => ?_) fuel 0 (Nat.zero_le _) (by rw [gW]; omega) (fun j hj => by omega)
    . rw [e] at hK
      simp only [cond_true] at hK
      refine ⟨by show iy <= 1000000; omega, aC (fun hc => ?_) (fun hc => ?_)⟩ <;> rw [hc] at hK <;> exact hK
    . rw [e] at hK
      exact hK
def amv (cm ge ij iq:Int) (iy:Nat) (iz i5:Nat -> Int) (K0 : Nat -> (Nat -> Int) -> (Nat -> Int) -> Prop)  : Prop := Ts 3 (((afI cm ge ij iq iy iz i5) /\ Ts 1 (cond (ine (uN cm ge ij iq iy iz i5) 0) (Ts 1 (K0 0 (fun _ => 0) (fun _ => 0))) (Ts 3 (cond (ieq cm 2) (Ts 26 (K0 4 (dO 1 (fun _ => (bM .i64 ij)) (dO 1 (fun _ => ij) (ay 1 (fun _ => ij) (bM .i64 ij)))) (dO 1 (fun _ => (bM .i64 iq)) (dO 1 (fun _ => (bM .i64 iq)) (ay 1 (fun _ => iq) iq))))) (Ts 3 ((((0 + iy) * 16 <= 1000000000000 /\ (0 + iy) <= 1000000000000) /\ Ts 1 (K0 (0 + iy) (dO 0 (fun _ => 0) iz) (dO 0 (fun _ => 0) i5))))))))))
def Zj (cm ge ij iq:Int) (iy:Nat) (iz i5:Nat -> Int) : Prop := (cond (ine (uN cm ge ij iq iy iz i5) 0) True (cond (ieq cm 2) True ((0 + iy) * 16 <= 1000000000000 /\ (0 + iy) <= 1000000000000)))
def lX (cm ge ij iq:Int) (iy:Nat) (iz i5:Nat -> Int) : Nat := (cond (ine (uN cm ge ij iq iy iz i5) 0) 0 (cond (ieq cm 2) 4 (0 + iy)))
def bH (cm ge ij iq:Int) (iy:Nat) (iz i5:Nat -> Int) : (Nat -> Int) := (cond (ine (uN cm ge ij iq iy iz i5) 0) (fun _ => 0) (cond (ieq cm 2) (dO 1 (fun _ => (bM .i64 ij)) (dO 1 (fun _ => ij) (ay 1 (fun _ => ij) (bM .i64 ij)))) (dO 0 (fun _ => 0) iz)))
def bI (cm ge ij iq:Int) (iy:Nat) (iz i5:Nat -> Int) : (Nat -> Int) := (cond (ine (uN cm ge ij iq iy iz i5) 0) (fun _ => 0) (cond (ieq cm 2) (dO 1 (fun _ => (bM .i64 iq)) (dO 1 (fun _ => (bM .i64 iq)) (ay 1 (fun _ => iq) iq))) (dO 0 (fun _ => 0) i5)))
theorem au8 (cm ge ij iq:Int) (iy:Nat) (iz i5:Nat -> Int) {K0 : Nat -> (Nat -> Int) -> (Nat -> Int) -> Prop} (h : Zj cm ge ij iq iy iz i5) (hK : K0 (lX cm ge ij iq iy iz i5) (bH cm ge ij iq iy iz i5) (bI cm ge ij iq iy iz i5)) : amv cm ge ij iq iy iz i5 K0  := by
 unfold amv Zj lX bH bI at *
 simp only [aH, true_and]; try simp only [aH, true_and] at h
 repeat' first | exact hK | (refine aC (fun c => ?_) (fun c => ?_) <;> try simp only [c, cond_true, cond_false] at h hK ⊢) | refine ⟨rfl, ?_⟩ | refine ⟨trivial, ?_⟩ | refine ⟨by decide, ?_⟩ | (refine ⟨h.1, ?_⟩; replace h := h.2) | refine ⟨h, ?_⟩
def amD (ii:Int) (ik:Bool) (im:Int) (ip:Bool) (K0 : Int -> Prop)  : Prop := Ts 10 (((Kz ii ik ii ik im ip im ip) /\ Ts 4 (((V6 ii ik) /\ Ts 1 (cond (Nk ii ik) (Ts 6 (K0 3)) (Ts 2 (((V6 im ip) /\ Ts 2 (cond (Nk im ip) (Ts 4 (K0 3)) (Ts 6 (cond (igt (bQ .i64 (pX ii ik ii ik im ip im ip) 4294967296) 65536) (Ts 2 (K0 3)) (Ts 5 (cond (igt (bQ .i64 4294967296 (pX ii ik ii ik im ip im ip)) 65536) (Ts 1 (K0 3)) (Ts 1 (K0 0)))))))))))))))
def ahH (ii:Int) (ik:Bool) (im:Int) (ip:Bool) : Prop := ((Kz ii ik ii ik im ip im ip) /\ ((V6 ii ik) /\ (cond (Nk ii ik) True (V6 im ip))))
def wz (ii:Int) (ik:Bool) (im:Int) (ip:Bool) : Int := (cond (Nk ii ik) 3 (cond (Nk im ip) 3 (cond (igt (bQ .i64 (pX ii ik ii ik im ip im ip) 4294967296) 65536) 3 (cond (igt (bQ .i64 4294967296 (pX ii ik ii ik im ip im ip)) 65536) 3 0))))
theorem avg (ii:Int) (ik:Bool) (im:Int) (ip:Bool) {K0 : Int -> Prop} (h : ahH ii ik im ip) (hK : K0 (wz ii ik im ip)) : amD ii ik im ip K0  := by
 unfold amD ahH wz at *
 simp only [aH, true_and]; try simp only [aH, true_and] at h
 repeat' first | exact hK | (refine aC (fun c => ?_) (fun c => ?_) <;> try simp only [c, cond_true, cond_false] at h hK ⊢) | refine ⟨rfl, ?_⟩ | refine ⟨trivial, ?_⟩ | refine ⟨by decide, ?_⟩ | (refine ⟨h.1, ?_⟩; replace h := h.2) | refine ⟨h, ?_⟩
def ads (ii:Int) (ik:Bool) (im:Int) (ip:Bool) (jn:Int) (jo:Bool) (i9:Int) (ja:Bool) (K0 : Int -> Bool -> Int -> Bool -> Prop)  : Prop := Ts 9 (((QA im ip) /\ Ts 2 (((Kz ii ik jn jo (nJ im ip) (gQ im ip) i9 ja) /\ Ts 8 (((Kz im ip jn jo ii ik i9 ja) /\ Ts 2 ((true = true /\ Ts 1 (K0 (pX ii ik jn jo (nJ im ip) (gQ im ip) i9 ja) (vU ii ik jn jo (nJ im ip) (gQ im ip) i9 ja) (pX im ip jn jo ii ik i9 ja) (vU im ip jn jo ii ik i9 ja))))))))))
def Zd (ii:Int) (ik:Bool) (im:Int) (ip:Bool) (jn:Int) (jo:Bool) (i9:Int) (ja:Bool) : Prop := ((Kz ii ik jn jo (nJ im ip) (gQ im ip) i9 ja) /\ (Kz im ip jn jo ii ik i9 ja))
def I5 (ii:Int) (ik:Bool) (im:Int) (ip:Bool) (jn:Int) (jo:Bool) (i9:Int) (ja:Bool) : Int := (pX ii ik jn jo (nJ im ip) (gQ im ip) i9 ja)
def Nq (ii:Int) (ik:Bool) (im:Int) (ip:Bool) (jn:Int) (jo:Bool) (i9:Int) (ja:Bool) : Bool := (vU ii ik jn jo (nJ im ip) (gQ im ip) i9 ja)
def I7 (ii:Int) (ik:Bool) (im:Int) (ip:Bool) (jn:Int) (jo:Bool) (i9:Int) (ja:Bool) : Int := (pX im ip jn jo ii ik i9 ja)
def Nr (ii:Int) (ik:Bool) (im:Int) (ip:Bool) (jn:Int) (jo:Bool) (i9:Int) (ja:Bool) : Bool := (vU im ip jn jo ii ik i9 ja)
theorem auY (ii:Int) (ik:Bool) (im:Int) (ip:Bool) (jn:Int) (jo:Bool) (i9:Int) (ja:Bool) {K0 : Int -> Bool -> Int -> Bool -> Prop} (h : Zd ii ik im ip jn jo i9 ja) (hK : K0 (I5 ii ik im ip jn jo i9 ja) (Nq ii ik im ip jn jo i9 ja) (I7 ii ik im ip jn jo i9 ja) (Nr ii ik im ip jn jo i9 ja)) : ads ii ik im ip jn jo i9 ja K0  := by
 unfold ads Zd I5 Nq I7 Nr at *
 simp only [aH, true_and]; try simp only [aH, true_and] at h
 repeat' first | exact hK | refine ⟨rfl, ?_⟩ | refine ⟨trivial, ?_⟩ | refine ⟨by decide, ?_⟩ | (refine ⟨h.1, ?_⟩; replace h := h.2) | refine ⟨h, ?_⟩
def an8 (lg:Int) (lh:Bool) (li:Int) (lj:Bool) (kp:Int) (kq:Bool) (kr:Int) (kt:Bool) (jn:Int) (jo:Bool) (i9:Int) (ja:Bool) (K0 : Int -> Bool -> Int -> Bool -> Prop)  : Prop := Ts 8 (((Zd kp kq kr kt jn jo i9 ja) /\ Ts 1 (((ae2 2 (ay 1 (fun _ => lg) (I5 kp kq kr kt jn jo i9 ja)) (ay 1 (fun _ => lh) (Nq kp kq kr kt jn jo i9 ja)) (ay 1 (fun _ => li) (I7 kp kq kr kt jn jo i9 ja)) (ay 1 (fun _ => lj) (Nr kp kq kr kt jn jo i9 ja))) /\ Ts 1 ((true = true /\ Ts 1 (K0 (Aq 2 (ay 1 (fun _ => lg) (I5 kp kq kr kt jn jo i9 ja)) (ay 1 (fun _ => lh) (Nq kp kq kr kt jn jo i9 ja)) (ay 1 (fun _ => li) (I7 kp kq kr kt jn jo i9 ja)) (ay 1 (fun _ => lj) (Nr kp kq kr kt jn jo i9 ja))) (Jl 2 (ay 1 (fun _ => lg) (I5 kp kq kr kt jn jo i9 ja)) (ay 1 (fun _ => lh) (Nq kp kq kr kt jn jo i9 ja)) (ay 1 (fun _ => li) (I7 kp kq kr kt jn jo i9 ja)) (ay 1 (fun _ => lj) (Nr kp kq kr kt jn jo i9 ja))) (IG 2 (ay 1 (fun _ => lg) (I5 kp kq kr kt jn jo i9 ja)) (ay 1 (fun _ => lh) (Nq kp kq kr kt jn jo i9 ja)) (ay 1 (fun _ => li) (I7 kp kq kr kt jn jo i9 ja)) (ay 1 (fun _ => lj) (Nr kp kq kr kt jn jo i9 ja))) (Nl 2 (ay 1 (fun _ => lg) (I5 kp kq kr kt jn jo i9 ja)) (ay 1 (fun _ => lh) (Nq kp kq kr kt jn jo i9 ja)) (ay 1 (fun _ => li) (I7 kp kq kr kt jn jo i9 ja)) (ay 1 (fun _ => lj) (Nr kp kq kr kt jn jo i9 ja))))))))))
def aie (lg:Int) (lh:Bool) (li:Int) (lj:Bool) (kp:Int) (kq:Bool) (kr:Int) (kt:Bool) (jn:Int) (jo:Bool) (i9:Int) (ja:Bool) : Prop := ((Zd kp kq kr kt jn jo i9 ja) /\ (ae2 2 (ay 1 (fun _ => lg) (I5 kp kq kr kt jn jo i9 ja)) (ay 1 (fun _ => lh) (Nq kp kq kr kt jn jo i9 ja)) (ay 1 (fun _ => li) (I7 kp kq kr kt jn jo i9 ja)) (ay 1 (fun _ => lj) (Nr kp kq kr kt jn jo i9 ja))))
def NJ (lg:Int) (lh:Bool) (li:Int) (lj:Bool) (kp:Int) (kq:Bool) (kr:Int) (kt:Bool) (jn:Int) (jo:Bool) (i9:Int) (ja:Bool) : Int := (Aq 2 (ay 1 (fun _ => lg) (I5 kp kq kr kt jn jo i9 ja)) (ay 1 (fun _ => lh) (Nq kp kq kr kt jn jo i9 ja)) (ay 1 (fun _ => li) (I7 kp kq kr kt jn jo i9 ja)) (ay 1 (fun _ => lj) (Nr kp kq kr kt jn jo i9 ja)))
def Jf (lg:Int) (lh:Bool) (li:Int) (lj:Bool) (kp:Int) (kq:Bool) (kr:Int) (kt:Bool) (jn:Int) (jo:Bool) (i9:Int) (ja:Bool) : Bool := (Jl 2 (ay 1 (fun _ => lg) (I5 kp kq kr kt jn jo i9 ja)) (ay 1 (fun _ => lh) (Nq kp kq kr kt jn jo i9 ja)) (ay 1 (fun _ => li) (I7 kp kq kr kt jn jo i9 ja)) (ay 1 (fun _ => lj) (Nr kp kq kr kt jn jo i9 ja)))
def NK (lg:Int) (lh:Bool) (li:Int) (lj:Bool) (kp:Int) (kq:Bool) (kr:Int) (kt:Bool) (jn:Int) (jo:Bool) (i9:Int) (ja:Bool) : Int := (IG 2 (ay 1 (fun _ => lg) (I5 kp kq kr kt jn jo i9 ja)) (ay 1 (fun _ => lh) (Nq kp kq kr kt jn jo i9 ja)) (ay 1 (fun _ => li) (I7 kp kq kr kt jn jo i9 ja)) (ay 1 (fun _ => lj) (Nr kp kq kr kt jn jo i9 ja)))
def Jg (lg:Int) (lh:Bool) (li:Int) (lj:Bool) (kp:Int) (kq:Bool) (kr:Int) (kt:Bool) (jn:Int) (jo:Bool) (i9:Int) (ja:Bool) : Bool := (Nl 2 (ay 1 (fun _ => lg) (I5 kp kq kr kt jn jo i9 ja)) (ay 1 (fun _ => lh) (Nq kp kq kr kt jn jo i9 ja)) (ay 1 (fun _ => li) (I7 kp kq kr kt jn jo i9 ja)) (ay 1 (fun _ => lj) (Nr kp kq kr kt jn jo i9 ja)))
theorem avz (lg:Int) (lh:Bool) (li:Int) (lj:Bool) (kp:Int) (kq:Bool) (kr:Int) (kt:Bool) (jn:Int) (jo:Bool) (i9:Int) (ja:Bool) {K0 : Int -> Bool -> Int -> Bool -> Prop} (h : aie lg lh li lj kp kq kr kt jn jo i9 ja) (hK : K0 (NJ lg lh li lj kp kq kr kt jn jo i9 ja) (Jf lg lh li lj kp kq kr kt jn jo i9 ja) (NK lg lh li lj kp kq kr kt jn jo i9 ja) (Jg lg lh li lj kp kq kr kt jn jo i9 ja)) : an8 lg lh li lj kp kq kr kt jn jo i9 ja K0  := by
 unfold an8 aie NJ Jf NK Jg at *
 simp only [aH, true_and]; try simp only [aH, true_and] at h
 repeat' first | exact hK | refine ⟨rfl, ?_⟩ | refine ⟨trivial, ?_⟩ | refine ⟨by decide, ?_⟩ | (refine ⟨h.1, ?_⟩; replace h := h.2) | refine ⟨h, ?_⟩
def amq (cm:Int) (ge:Bool) (K0 : Int -> Bool -> Int -> Bool -> Prop)  : Prop := Ts 3 (((ahK cm ge) /\ Ts 1 (((Je cm ge) /\ Ts 2 ((true = true /\ Ts 1 (K0 (SE cm ge) (SG cm ge) (Dp cm ge) (Dq cm ge))))))))
def adu (cm:Int) (ge:Bool) : Prop := (ahK cm ge)
def lW (cm:Int) (ge:Bool) : Int := (SE cm ge)
def RS (cm:Int) (ge:Bool) : Bool := (SG cm ge)
def RX (cm:Int) (ge:Bool) : Int := (Dp cm ge)
def RY (cm:Int) (ge:Bool) : Bool := (Dq cm ge)
theorem au3 (cm:Int) (ge:Bool) {K0 : Int -> Bool -> Int -> Bool -> Prop} (h : adu cm ge) (hK : K0 (lW cm ge) (RS cm ge) (RX cm ge) (RY cm ge)) : amq cm ge K0  := by
 unfold amq adu lW RS RX RY at *
 simp only [aH, true_and]; try simp only [aH, true_and] at h
 repeat' first | exact hK | refine ⟨rfl, ?_⟩ | refine ⟨trivial, ?_⟩ | refine ⟨by decide, ?_⟩ | (refine ⟨h.1, ?_⟩; replace h := h.2) | refine ⟨h, ?_⟩
def an9 (cm ge:Int) (K0 : Int -> Bool -> Int -> Bool -> Prop)  : Prop := Ts 4 (((EM cm 256) /\ Ts 2 (((EM ge 256) /\ Ts 2 ((true = true /\ Ts 1 (K0 (iD cm 256) (mJ cm 256) (iD ge 256) (mJ ge 256))))))))
def NI (cm ge:Int) : Prop := ((EM cm 256) /\ (EM ge 256))
def dQ (cm ge:Int) : Int := (iD cm 256)
def dR (cm ge:Int) : Bool := (mJ cm 256)
def Ny (cm ge:Int) : Int := (iD ge 256)
def Nz (cm ge:Int) : Bool := (mJ ge 256)
theorem avJ (cm ge:Int) {K0 : Int -> Bool -> Int -> Bool -> Prop} (h : NI cm ge) (hK : K0 (dQ cm ge) (dR cm ge) (Ny cm ge) (Nz cm ge)) : an9 cm ge K0  := by
 unfold an9 NI dQ dR Ny Nz at *
 simp only [aH, true_and]; try simp only [aH, true_and] at h
 repeat' first | exact hK | refine ⟨rfl, ?_⟩ | refine ⟨trivial, ?_⟩ | refine ⟨by decide, ?_⟩ | (refine ⟨h.1, ?_⟩; replace h := h.2) | refine ⟨h, ?_⟩
theorem n256 : Num' 256 := ⟨by decide, by decide⟩
theorem RZ {x y : Int} (hx : Num' x) (hy : Num' y) : NI x y /\ TT x y /\ dQ x y = iT x y /\ dR x y = iZ x y /\ Ny x y = iU x y /\ Nz x y = jA x y /\ Num' (iT x y) /\ Num' (iU x y) := by
  obtain ⟨a1, a2, a3, a4, a5⟩ := yQ hx n256
  obtain ⟨b1, b2, b3, b4, b5⟩ := yQ hy n256
  exact ⟨⟨a1, b1⟩, ⟨a2, b2⟩, a3, a4, b3, b4, a5, b5⟩
def IU (ig:Nat) (ii:Nat -> Int) (ik : Nat -> Bool) (im:Nat -> Int) (ip : Nat -> Bool) (kd:Int) (ll : (Nat -> Int)) (lm : (Nat -> Bool)) (ky : (Nat -> Int)) (kz : (Nat -> Bool)) (c x0 : Int -> (Nat -> Int) -> (Nat -> Bool) -> (Nat -> Int) -> (Nat -> Bool) -> Prop)  : Prop := Ts 1 (cond (ilt kd (ig:Int)) (Ts 1 (((0 <= kd /\ kd < (ig:Int)) /\ Ts 12 (((0 <= kd /\ kd < (((Int.toNat (ig:Int)):Nat):Int)) /\ (((Int.toNat kd) < (Int.toNat (ig:Int))) /\ ((0 <= kd /\ kd < (((Int.toNat (ig:Int)):Nat):Int)) /\ (((Int.toNat kd) < (Int.toNat (ig:Int))) /\ (true = true /\ Ts 2 (c (au .i64 kd 1) (Kq (Int.toNat kd) ll (ii (Int.toNat kd))) (Kq (Int.toNat kd) lm (ik (Int.toNat kd))) (Kq (Int.toNat kd) ky (im (Int.toNat kd))) (Kq (Int.toNat kd) kz (ip (Int.toNat kd))))))))))))) (x0 kd ll lm ky kz))
def yN (ig:Nat) (ii:Nat -> Int) (ik : Nat -> Bool) (im:Nat -> Int) (ip : Nat -> Bool) : Nat -> Int -> (Nat -> Int) -> (Nat -> Bool) -> (Nat -> Int) -> (Nat -> Bool) -> (Int -> (Nat -> Int) -> (Nat -> Bool) -> (Nat -> Int) -> (Nat -> Bool) -> Prop) -> Prop
  | 0, _, _, _, _, _, _ => False
  | f + 1, w0, w1, w2, w3, w4, x0 => IU ig ii ik im ip w0 w1 w2 w3 w4 (fun u0 u1 u2 u3 u4 => yN ig ii ik im ip f u0 u1 u2 u3 u4 x0) x0 
theorem afe (ig:Nat) (ii:Nat -> Int) (ik : Nat -> Bool) (im:Nat -> Int) (ip : Nat -> Bool) (kd:Int) (ll : (Nat -> Int)) (lm : (Nat -> Bool)) (ky : (Nat -> Int)) (kz : (Nat -> Bool)) {c c' : Int -> (Nat -> Int) -> (Nat -> Bool) -> (Nat -> Int) -> (Nat -> Bool) -> Prop} {x0 y0 : Int -> (Nat -> Int) -> (Nat -> Bool) -> (Nat -> Int) -> (Nat -> Bool) -> Prop} (hc : ∀ w0 w1 w2 w3 w4, c w0 w1 w2 w3 w4 -> c' w0 w1 w2 w3 w4) (h0 : ∀ o0 o1 o2 o3 o4, x0 o0 o1 o2 o3 o4 -> y0 o0 o1 o2 o3 o4) : IU ig ii ik im ip kd ll lm ky kz c x0  -> IU ig ii ik im ip kd ll lm ky kz c' y0  := by
  unfold IU
  repeat' first
    | exact hc _ _ _ _ _
    | exact h0 _ _ _ _ _
    | refine dU ?_
    | refine cO ?_ ?_
    | refine cZ ?_
theorem aff (ig:Nat) (ii:Nat -> Int) (ik : Nat -> Bool) (im:Nat -> Int) (ip : Nat -> Bool) {x0 y0 : Int -> (Nat -> Int) -> (Nat -> Bool) -> (Nat -> Int) -> (Nat -> Bool) -> Prop} (h0 : ∀ o0 o1 o2 o3 o4, x0 o0 o1 o2 o3 o4 -> y0 o0 o1 o2 o3 o4) : ∀ (f:Nat) (kd:Int) (ll : (Nat -> Int)) (lm : (Nat -> Bool)) (ky : (Nat -> Int)) (kz : (Nat -> Bool)), yN ig ii ik im ip f kd ll lm ky kz x0 -> yN ig ii ik im ip f kd ll lm ky kz y0
  | 0, w0, w1, w2, w3, w4 => fun h => h
  | f + 1, w0, w1, w2, w3, w4 => afe ig ii ik im ip w0 w1 w2 w3 w4 (fun u0 u1 u2 u3 u4 => aff ig ii ik im ip h0 f u0 u1 u2 u3 u4) h0
def am1 (ig:Nat) (ii:Nat -> Int) (ik : Nat -> Bool) (im:Nat -> Int) (ip : Nat -> Bool) (K0 : Int -> Bool -> Int -> Bool -> Prop) (l0 : Int -> (Nat -> Int) -> (Nat -> Bool) -> (Nat -> Int) -> (Nat -> Bool) -> (Int -> (Nat -> Int) -> (Nat -> Bool) -> (Nat -> Int) -> (Nat -> Bool) -> Prop) -> Prop) : Prop := Ts 3 (((0 <= (ig:Int) /\ (ig:Int) = (ig:Int) /\ (ig:Int) <= 1000000 /\ 16 <= 1000000) /\ Ts 2 (((0 <= (ig:Int) /\ (ig:Int) = (ig:Int) /\ (ig:Int) <= 1000000 /\ 16 <= 1000000) /\ Ts 2 ((true = true /\ Ts 3 ((l0 0 (fun _ => 0) (fun _ => false) (fun _ => 0) (fun _ => false) (fun ol ou ov jc jd => Ts 1 (((afK (Int.toNat (ig:Int)) ou ov) /\ Ts 1 (((afK (Int.toNat (ig:Int)) jc jd) /\ Ts 3 (K0 (sH (Int.toNat (ig:Int)) ou ov) (uO (Int.toNat (ig:Int)) ou ov) (sH (Int.toNat (ig:Int)) jc jd) (uO (Int.toNat (ig:Int)) jc jd)))))))))))))))
def Jc {α : Type} (z : α) (x : Nat -> α) : Nat -> (Nat -> α)
  | 0 => fun _ => z
  | i + 1 => Kq i (Jc z x i) (x i)
theorem Dn {α : Type} {z : α} {x : Nat -> α} : ∀ {n k : Nat}, k < n -> Jc z x n k = x k
  | 0, k, h => by omega
  | n + 1, k, h => by
    show Kq n (Jc z x n) (x n) k = _
    by_cases e : k = n
    . subst e; rw [abD]
    . rw [abE _ _ e]; exact Dn (by omega)
theorem UL {f g : Nat -> Int} : ∀ (n:Nat), (∀ k, k < n -> f k = g k) -> yH f n = yH g n
  | 0, _ => rfl
  | n + 1, h => by unfold yH; rw [UL n (fun k hk => h k (by omega)), h n (by omega)]
theorem UM {f g : Nat -> Bool} : ∀ (n:Nat), (∀ k, k < n -> f k = g k) -> vN f n = vN g n
  | 0, _ => rfl
  | n + 1, h => by unfold vN; rw [UM n (fun k hk => h k (by omega)), h n (by omega)]
theorem X3 {n : Nat} {x x' : Nat -> Int} {y y' : Nat -> Bool} (h : ∀ k, k < n -> x k = x' k /\ y k = y' k) : sH n x y = sH n x' y' /\ uO n x y = uO n x' y' := by
  unfold sH uO kR
  rw [UL n (fun k hk => (h k hk).1), UM n (f := fun k => dP (x k) (y k)) (g := fun k => dP (x' k) (y' k)) (fun k hk => by rw [(h k hk).1, (h k hk).2])]
  exact ⟨rfl, rfl⟩
def X8 (n:Nat) (a:Nat -> Int) (b : Nat -> Bool) (c:Nat -> Int) (d : Nat -> Bool) : Prop := afK n a b /\ afK n c d
def qV (n:Nat) (a:Nat -> Int) (b : Nat -> Bool) (c:Nat -> Int) (d : Nat -> Bool) : Int := sH n a b
def qW (n:Nat) (a:Nat -> Int) (b : Nat -> Bool) (c:Nat -> Int) (d : Nat -> Bool) : Bool := uO n a b
def Wj (n:Nat) (a:Nat -> Int) (b : Nat -> Bool) (c:Nat -> Int) (d : Nat -> Bool) : Int := sH n c d
def Wn (n:Nat) (a:Nat -> Int) (b : Nat -> Bool) (c:Nat -> Int) (d : Nat -> Bool) : Bool := uO n c d
theorem afm {n : Nat} {a : Nat -> Int} {b : Nat -> Bool} {c : Nat -> Int} {d : Nat -> Bool} (hn : n <= 1000000) {x0 : Int -> (Nat -> Int) -> (Nat -> Bool) -> (Nat -> Int) -> (Nat -> Bool) -> Prop} (h3 : ∀ v, x0 v (Jc 0 a n) (Jc false b n) (Jc 0 c n) (Jc false d n)) : ∀ (f i:Nat), i <= n -> n < f + i -> yN n a b c d f i (Jc 0 a i) (Jc false b i) (Jc 0 c i) (Jc false d i) x0
  | 0, i, h1, h2 => by omega
  | f + 1, i, h1, h2 => by
    show IU n a b c d i _ _ _ _ _ _
    unfold IU
    simp only [aH, true_and, Int.toNat_natCast]
    refine aC (fun hc => ?_) (fun hc => ?_)
    . rw [dY] at hc
      rw [fF (by omega) (by omega)]
      exact ⟨⟨by omega, hc⟩, ⟨by omega, hc⟩, by omega, ⟨by omega, hc⟩, by omega, afm hn h3 f (i + 1) (by omega) (by omega)⟩
    . rw [fJ] at hc
      have : i = n := by omega
      subst this
      exact h3 _
theorem avG (ig:Nat) (ii:Nat -> Int) (ik : Nat -> Bool) (im:Nat -> Int) (ip : Nat -> Bool) {K0 : Int -> Bool -> Int -> Bool -> Prop} (h : X8 ig ii ik im ip) (hK : K0 (qV ig ii ik im ip) (qW ig ii ik im ip) (Wj ig ii ik im ip) (Wn ig ii ik im ip)) : am1 ig ii ik im ip K0 (yN ig ii ik im ip fuel) := by
  unfold am1
  simp only [aH, true_and, Int.toNat_natCast]
  obtain ⟨⟨hn, h1⟩, _, h2⟩ := h
  refine ⟨⟨by omega, by omega, by omega⟩, ⟨by omega, by omega, by omega⟩, afm hn (fun v => ?_) fuel 0 (Nat.zero_le _) (by rw [gW]; omega)⟩
  obtain ⟨e1, e2⟩ := X3 (n := ig) (x := Jc 0 ii ig) (x' := ii) (y := Jc false ik ig) (y' := ik) (fun k hk => ⟨Dn hk, Dn hk⟩)
  obtain ⟨e3, e4⟩ := X3 (n := ig) (x := Jc 0 im ig) (x' := im) (y := Jc false ip ig) (y' := ip) (fun k hk => ⟨Dn hk, Dn hk⟩)
  rw [e1, e2, e3, e4]
  exact ⟨⟨hn, fun k hk => by rw [Dn hk]; exact h1 k hk⟩, ⟨hn, fun k hk => by rw [Dn hk]; exact h2 k hk⟩, hK⟩
theorem ab4 {a b c d : Int} {e f g h : Bool} (ha : Num' a) (hb : Num' b) (hc : Num' c) (hd : Num' d) : X8 2 (ay 1 (fun _ => a) c) (ay 1 (fun _ => e) g) (ay 1 (fun _ => b) d) (ay 1 (fun _ => f) h) /\ ae2 2 (ay 1 (fun _ => a) c) (ay 1 (fun _ => e) g) (ay 1 (fun _ => b) d) (ay 1 (fun _ => f) h) /\
    qV 2 (ay 1 (fun _ => a) c) (ay 1 (fun _ => e) g) (ay 1 (fun _ => b) d) (ay 1 (fun _ => f) h) = Aq 2 (ay 1 (fun _ => a) c) (ay 1 (fun _ => e) g) (ay 1 (fun _ => b) d) (ay 1 (fun _ => f) h) /\
    qW 2 (ay 1 (fun _ => a) c) (ay 1 (fun _ => e) g) (ay 1 (fun _ => b) d) (ay 1 (fun _ => f) h) = Jl 2 (ay 1 (fun _ => a) c) (ay 1 (fun _ => e) g) (ay 1 (fun _ => b) d) (ay 1 (fun _ => f) h) /\
    Wj 2 (ay 1 (fun _ => a) c) (ay 1 (fun _ => e) g) (ay 1 (fun _ => b) d) (ay 1 (fun _ => f) h) = IG 2 (ay 1 (fun _ => a) c) (ay 1 (fun _ => e) g) (ay 1 (fun _ => b) d) (ay 1 (fun _ => f) h) /\
    Wn 2 (ay 1 (fun _ => a) c) (ay 1 (fun _ => e) g) (ay 1 (fun _ => b) d) (ay 1 (fun _ => f) h) = Nl 2 (ay 1 (fun _ => a) c) (ay 1 (fun _ => e) g) (ay 1 (fun _ => b) d) (ay 1 (fun _ => f) h) /\
    Num' (Aq 2 (ay 1 (fun _ => a) c) (ay 1 (fun _ => e) g) (ay 1 (fun _ => b) d) (ay 1 (fun _ => f) h)) /\ Num' (IG 2 (ay 1 (fun _ => a) c) (ay 1 (fun _ => e) g) (ay 1 (fun _ => b) d) (ay 1 (fun _ => f) h)) :=
  ⟨⟨⟨by decide, KE ha hc⟩, ⟨by decide, KE hb hd⟩⟩, ⟨by decide, fun k hk => ⟨KE ha hc k hk, KE hb hd k hk⟩⟩, rfl, rfl, rfl, rfl, sJ _, sJ _⟩
def aob (ii:Int) (ik:Bool) (im:Int) (ip:Bool) (K0 : Int -> Bool -> Prop)  : Prop := Ts 6 (((Y8 ii ik im ip) /\ Ts 2 (K0 (IX ii ik im ip) (IY ii ik im ip))))
def Zc (ii:Int) (ik:Bool) (im:Int) (ip:Bool) : Prop := (Y8 ii ik im ip)
def dS (ii:Int) (ik:Bool) (im:Int) (ip:Bool) : Int := (IX ii ik im ip)
def dV (ii:Int) (ik:Bool) (im:Int) (ip:Bool) : Bool := (IY ii ik im ip)
theorem awf (ii:Int) (ik:Bool) (im:Int) (ip:Bool) {K0 : Int -> Bool -> Prop} (h : Zc ii ik im ip) (hK : K0 (dS ii ik im ip) (dV ii ik im ip)) : aob ii ik im ip K0  := by
 unfold aob Zc dS dV at *
 simp only [aH, true_and]; try simp only [aH, true_and] at h
 repeat' first | exact hK | refine ⟨rfl, ?_⟩ | refine ⟨trivial, ?_⟩ | refine ⟨by decide, ?_⟩ | (refine ⟨h.1, ?_⟩; replace h := h.2) | refine ⟨h, ?_⟩
theorem ab5 {a b : Int} {e f : Bool} (ha : Num' a) (hb : Num' b) : Zc a e b f /\ acU a e b f /\ dS a e b f = CB a e b f /\ dV a e b f = CG a e b f /\ Num' (CB a e b f) := afw ha hb
def alA (ii:Int) (ik:Bool) (im:Int) (ip:Bool) (K0 : Bool -> Prop)  : Prop := Ts 4 (((O1 ii ik) /\ Ts 2 (cond (oG ii ik) (Ts 2 (K0 true)) (Ts 2 (((O1 im ip) /\ Ts 3 (K0 (oG im ip))))))))
def ae4 (ii:Int) (ik:Bool) (im:Int) (ip:Bool) : Prop := True
def CU (ii:Int) (ik:Bool) (im:Int) (ip:Bool) : Bool := (cond (oG ii ik) true (oG im ip))
theorem atX (ii:Int) (ik:Bool) (im:Int) (ip:Bool) {K0 : Bool -> Prop} (h : ae4 ii ik im ip) (hK : K0 (CU ii ik im ip)) : alA ii ik im ip K0  := by
 unfold alA ae4 CU at *
 simp only [aH, true_and]
 repeat' first | exact hK | (refine aC (fun c => ?_) (fun c => ?_) <;> try simp only [c, cond_true, cond_false] at h hK ⊢) | refine ⟨rfl, ?_⟩ | refine ⟨trivial, ?_⟩ | refine ⟨by decide, ?_⟩ | (refine ⟨h.1, ?_⟩; replace h := h.2) | refine ⟨h, ?_⟩
def Jd (ig:Nat) (ii:Nat -> Int) (ik : Nat -> Bool) (im:Nat -> Int) (ip : Nat -> Bool) (ko:Int) (c x0 : Int -> Prop) (x1 : Int -> Int -> Prop)  : Prop := Ts 1 (cond (ilt ko (ig:Int)) (Ts 5 (((0 <= ko /\ ko < (ig:Int)) /\ Ts 1 (((ae4 (ii (Int.toNat ko)) (ik (Int.toNat ko)) (im (Int.toNat ko)) (ip (Int.toNat ko))) /\ cond (CU (ii (Int.toNat ko)) (ik (Int.toNat ko)) (im (Int.toNat ko)) (ip (Int.toNat ko))) (Ts 2 (x1 ko ko)) (Ts 2 (c (au .i64 ko 1)))))))) (x0 ko))
def yY (ig:Nat) (ii:Nat -> Int) (ik : Nat -> Bool) (im:Nat -> Int) (ip : Nat -> Bool) : Nat -> Int -> (Int -> Prop) -> (Int -> Int -> Prop) -> Prop
  | 0, _, _, _ => False
  | f + 1, w0, x0, x1 => Jd ig ii ik im ip w0 (fun u0 => yY ig ii ik im ip f u0 x0 x1) x0 x1 
theorem ab6 (ig:Nat) (ii:Nat -> Int) (ik : Nat -> Bool) (im:Nat -> Int) (ip : Nat -> Bool) (ko:Int) {c c' : Int -> Prop} {x0 y0 : Int -> Prop} {x1 y1 : Int -> Int -> Prop} (hc : ∀ w0, c w0 -> c' w0) (h0 : ∀ o0, x0 o0 -> y0 o0) (h1 : ∀ o0 o1, x1 o0 o1 -> y1 o0 o1) : Jd ig ii ik im ip ko c x0 x1  -> Jd ig ii ik im ip ko c' y0 y1  := by
  unfold Jd
  repeat' first
    | exact hc _
    | exact h0 _
    | exact h1 _ _
    | refine dU ?_
    | refine cO ?_ ?_
    | refine cZ ?_
theorem ab7 (ig:Nat) (ii:Nat -> Int) (ik : Nat -> Bool) (im:Nat -> Int) (ip : Nat -> Bool) {x0 y0 : Int -> Prop} {x1 y1 : Int -> Int -> Prop} (h0 : ∀ o0, x0 o0 -> y0 o0) (h1 : ∀ o0 o1, x1 o0 o1 -> y1 o0 o1) : ∀ (f:Nat) (ko:Int), yY ig ii ik im ip f ko x0 x1 -> yY ig ii ik im ip f ko y0 y1
  | 0, w0 => fun h => h
  | f + 1, w0 => ab6 ig ii ik im ip w0 (fun u0 => ab7 ig ii ik im ip h0 h1 f u0) h0 h1
def ady (ig:Nat) (ii:Nat -> Int) (ik : Nat -> Bool) (im:Nat -> Int) (ip : Nat -> Bool) (K0 : Int -> Prop) (l0 : Int -> (Int -> Prop) -> (Int -> Int -> Prop) -> Prop) : Prop := Ts 4 ((l0 0 (fun qd => Ts 1 (K0 (-1))) (fun oe qd => K0 oe)))
def ixF (p : Nat -> Bool) : Nat -> Int
  | 0 => -1
  | n + 1 => if ixF p n < 0 then (if p n = true then (n:Int) else -1) else ixF p n
theorem Si {p : Nat -> Bool} : ∀ {n : Nat}, (∀ k, k < n -> p k = false) -> ixF p n = -1
  | 0, _ => rfl
  | n + 1, h => by
    unfold ixF
    rw [Si (fun k hk => h k (by omega)), h n (by omega)]
    rfl
theorem UN {p : Nat -> Bool} {i : Nat} (h0 : ∀ k, k < i -> p k = false) (hi : p i = true) : ∀ {n : Nat}, i < n -> ixF p n = (i:Int)
  | 0, h => by omega
  | n + 1, h => by
    unfold ixF
    by_cases e : i = n
    . subst e; rw [Si h0, if_pos (by decide), if_pos hi]
    . rw [UN h0 hi (by omega), if_neg (by omega)]
theorem ab8 {p : Nat -> Bool} : ∀ {n : Nat}, ige (ixF p n) 0 = vN p n
  | 0 => by unfold ixF vN; rw [pU]; omega
  | n + 1 => by
    have ih := ab8 (p := p) (n := n)
    unfold ixF vN
    by_cases h : ixF p n < 0
    . rw [if_pos h, <- ih, pU.2 h, Bool.false_or]
      cases hp : p n with
      | true => rw [if_pos rfl, mD]; omega
      | false => rw [if_neg (by decide), pU]; omega
    . rw [if_neg h, <- ih, mD.2 (by omega), Bool.true_or]
def ahI (n:Nat) (a:Nat -> Int) (b : Nat -> Bool) (c:Nat -> Int) (d : Nat -> Bool) : Prop := n <= 1000000
def Sj (n:Nat) (a:Nat -> Int) (b : Nat -> Bool) (c:Nat -> Int) (d : Nat -> Bool) : Int := ixF (fun k => CU (a k) (b k) (c k) (d k)) n
theorem Fb {n : Nat} {a : Nat -> Int} {b : Nat -> Bool} {c : Nat -> Int} {d : Nat -> Bool} (hp : n <= 1000000) {x0 : Int -> Prop} {x1 : Int -> Int -> Prop} (h3 : (∀ k, k < n -> CU (a k) (b k) (c k) (d k) = false) -> ∀ v, x0 v) (h4 : ∀ i : Nat, i < n -> (∀ k, k < i -> CU (a k) (b k) (c k) (d k) = false) -> CU (a i) (b i) (c i) (d i) = true -> ∀ v, x1 (i:Int) v) : ∀ (f i:Nat), i <= n -> n < f + i -> (∀ k, k < i -> CU (a k) (b k) (c k) (d k) = false) -> yY n a b c d f i x0 x1
  | 0, i, h1, h2, _ => by omega
  | f + 1, i, h1, h2, g => by
    show Jd n a b c d i _ _ _
    unfold Jd
    simp only [aH, true_and, Int.toNat_natCast]
    refine aC (fun hc => ?_) (fun hc => ?_)
    . rw [dY] at hc
      refine ⟨⟨by omega, hc⟩, trivial, aC (fun hd => h4 i (by omega) g hd _) (fun hd => ?_)⟩
      rw [fF (by omega) (by omega)]
      exact Fb hp h3 h4 f (i + 1) (by omega) (by omega) (fun k hk => if e : k = i then by subst e; exact hd else g k (by omega))
    . rw [fJ] at hc
      exact h3 (fun k hk => g k (by omega)) _
theorem avh (ig:Nat) (ii:Nat -> Int) (ik : Nat -> Bool) (im:Nat -> Int) (ip : Nat -> Bool) {K0 : Int -> Prop} (h : ahI ig ii ik im ip) (hK : K0 (Sj ig ii ik im ip)) : ady ig ii ik im ip K0 (yY ig ii ik im ip fuel) := by
  unfold ady
  simp only [aH]
  have hp : ig <= 1000000 := h
  unfold Sj at hK
  refine Fb hp (fun g v => ?_) (fun i hi g hs v => ?_) fuel 0 (Nat.zero_le _) (by rw [gW]; omega) (fun k hk => by omega)
  . rw [Si g] at hK; exact hK
  . rw [UN g hs hi] at hK; exact hK
def amE (ig:Nat) (ii:Nat -> Int) (ik : Nat -> Bool) (im:Nat -> Int) (ip : Nat -> Bool) (K0 : Bool -> Prop)  : Prop := Ts 3 (((ahI ig ii ik im ip) /\ Ts 2 (K0 (ige (Sj ig ii ik im ip) 0))))
def afN (ig:Nat) (ii:Nat -> Int) (ik : Nat -> Bool) (im:Nat -> Int) (ip : Nat -> Bool) : Prop := (ahI ig ii ik im ip)
def Sl (ig:Nat) (ii:Nat -> Int) (ik : Nat -> Bool) (im:Nat -> Int) (ip : Nat -> Bool) : Bool := (ige (Sj ig ii ik im ip) 0)
theorem avi (ig:Nat) (ii:Nat -> Int) (ik : Nat -> Bool) (im:Nat -> Int) (ip : Nat -> Bool) {K0 : Bool -> Prop} (h : afN ig ii ik im ip) (hK : K0 (Sl ig ii ik im ip)) : amE ig ii ik im ip K0  := by
 unfold amE afN Sl at *
 simp only [aH, true_and]; try simp only [aH, true_and] at h
 repeat' first | exact hK | refine ⟨rfl, ?_⟩ | refine ⟨trivial, ?_⟩ | refine ⟨by decide, ?_⟩ | (refine ⟨h.1, ?_⟩; replace h := h.2) | refine ⟨h, ?_⟩
def ada (ig:Nat) (ii:Nat -> Int) (ik : Nat -> Bool) (im:Nat -> Int) (ip : Nat -> Bool) (K0 : Bool -> Prop)  : Prop := Ts 2 (((afN ig ii ik im ip) /\ Ts 1 (K0 (Sl ig ii ik im ip))))
def adb (ig:Nat) (ii:Nat -> Int) (ik : Nat -> Bool) (im:Nat -> Int) (ip : Nat -> Bool) : Prop := (afN ig ii ik im ip)
def vV (ig:Nat) (ii:Nat -> Int) (ik : Nat -> Bool) (im:Nat -> Int) (ip : Nat -> Bool) : Bool := (Sl ig ii ik im ip)
theorem auj (ig:Nat) (ii:Nat -> Int) (ik : Nat -> Bool) (im:Nat -> Int) (ip : Nat -> Bool) {K0 : Bool -> Prop} (h : adb ig ii ik im ip) (hK : K0 (vV ig ii ik im ip)) : ada ig ii ik im ip K0  := by
 unfold ada adb vV at *
 simp only [aH, true_and]; try simp only [aH, true_and] at h
 repeat' first | exact hK | refine ⟨rfl, ?_⟩ | refine ⟨trivial, ?_⟩ | refine ⟨by decide, ?_⟩ | (refine ⟨h.1, ?_⟩; replace h := h.2) | refine ⟨h, ?_⟩
def alN (ii:Int) (ik:Bool) (im:Int) (ip:Bool) (K0 : Int -> Bool -> Int -> Bool -> Bool -> Prop)  : Prop := Ts 5 (((adb 1 (fun _ => ii) (fun _ => ik) (fun _ => im) (fun _ => ip)) /\ cond (vV 1 (fun _ => ii) (fun _ => ik) (fun _ => im) (fun _ => ip)) (Ts 4 (K0 0 false 0 false false)) (Ts 16 (cond (ilt (imax (imax (imax ii (bM .i64 ii)) im) (bM .i64 im)) 16777216) (Ts 15 (((Zc (aI .i64 ii 16777216) ik (aI .i64 im 16777216) ip) /\ Ts 5 (cond (dV (aI .i64 ii 16777216) ik (aI .i64 im 16777216) ip) (Ts 5 (K0 0 false 0 false false)) (Ts 4 (cond (ieq (dS (aI .i64 ii 16777216) ik (aI .i64 im 16777216) ip) 0) (Ts 4 (K0 0 false 0 false false)) (Ts 3 (((aeZ (aI .i64 ii 16777216) ik (dS (aI .i64 ii 16777216) ik (aI .i64 im 16777216) ip) (dV (aI .i64 ii 16777216) ik (aI .i64 im 16777216) ip)) /\ Ts 3 (((aeZ (aI .i64 im 16777216) ip (dS (aI .i64 ii 16777216) ik (aI .i64 im 16777216) ip) (dV (aI .i64 ii 16777216) ik (aI .i64 im 16777216) ip)) /\ Ts 3 ((true = true /\ Ts 1 (K0 (Aj (aI .i64 ii 16777216) ik (dS (aI .i64 ii 16777216) ik (aI .i64 im 16777216) ip) (dV (aI .i64 ii 16777216) ik (aI .i64 im 16777216) ip)) (Ak (aI .i64 ii 16777216) ik (dS (aI .i64 ii 16777216) ik (aI .i64 im 16777216) ip) (dV (aI .i64 ii 16777216) ik (aI .i64 im 16777216) ip)) (Aj (aI .i64 im 16777216) ip (dS (aI .i64 ii 16777216) ik (aI .i64 im 16777216) ip) (dV (aI .i64 ii 16777216) ik (aI .i64 im 16777216) ip)) (Ak (aI .i64 im 16777216) ip (dS (aI .i64 ii 16777216) ik (aI .i64 im 16777216) ip) (dV (aI .i64 ii 16777216) ik (aI .i64 im 16777216) ip)) true)))))))))))))) (Ts 1 (((Zc ii ik im ip) /\ Ts 5 (cond (dV ii ik im ip) (Ts 5 (K0 0 false 0 false false)) (Ts 4 (cond (ieq (dS ii ik im ip) 0) (Ts 4 (K0 0 false 0 false false)) (Ts 3 (((aeZ ii ik (dS ii ik im ip) (dV ii ik im ip)) /\ Ts 3 (((aeZ im ip (dS ii ik im ip) (dV ii ik im ip)) /\ Ts 3 ((true = true /\ Ts 1 (K0 (Aj ii ik (dS ii ik im ip) (dV ii ik im ip)) (Ak ii ik (dS ii ik im ip) (dV ii ik im ip)) (Aj im ip (dS ii ik im ip) (dV ii ik im ip)) (Ak im ip (dS ii ik im ip) (dV ii ik im ip)) true))))))))))))))))))
def Fg (ii:Int) (ik:Bool) (im:Int) (ip:Bool) : Prop := ((adb 1 (fun _ => ii) (fun _ => ik) (fun _ => im) (fun _ => ip)) /\ (cond (vV 1 (fun _ => ii) (fun _ => ik) (fun _ => im) (fun _ => ip)) True (cond (ilt (imax (imax (imax ii (bM .i64 ii)) im) (bM .i64 im)) 16777216) ((Zc (aI .i64 ii 16777216) ik (aI .i64 im 16777216) ip) /\ (cond (dV (aI .i64 ii 16777216) ik (aI .i64 im 16777216) ip) True (cond (ieq (dS (aI .i64 ii 16777216) ik (aI .i64 im 16777216) ip) 0) True ((aeZ (aI .i64 ii 16777216) ik (dS (aI .i64 ii 16777216) ik (aI .i64 im 16777216) ip) (dV (aI .i64 ii 16777216) ik (aI .i64 im 16777216) ip)) /\ (aeZ (aI .i64 im 16777216) ip (dS (aI .i64 ii 16777216) ik (aI .i64 im 16777216) ip) (dV (aI .i64 ii 16777216) ik (aI .i64 im 16777216) ip)))))) ((Zc ii ik im ip) /\ (cond (dV ii ik im ip) True (cond (ieq (dS ii ik im ip) 0) True ((aeZ ii ik (dS ii ik im ip) (dV ii ik im ip)) /\ (aeZ im ip (dS ii ik im ip) (dV ii ik im ip)))))))))
def iE (ii:Int) (ik:Bool) (im:Int) (ip:Bool) : Int := (cond (vV 1 (fun _ => ii) (fun _ => ik) (fun _ => im) (fun _ => ip)) 0 (cond (ilt (imax (imax (imax ii (bM .i64 ii)) im) (bM .i64 im)) 16777216) (cond (dV (aI .i64 ii 16777216) ik (aI .i64 im 16777216) ip) 0 (cond (ieq (dS (aI .i64 ii 16777216) ik (aI .i64 im 16777216) ip) 0) 0 (Aj (aI .i64 ii 16777216) ik (dS (aI .i64 ii 16777216) ik (aI .i64 im 16777216) ip) (dV (aI .i64 ii 16777216) ik (aI .i64 im 16777216) ip)))) (cond (dV ii ik im ip) 0 (cond (ieq (dS ii ik im ip) 0) 0 (Aj ii ik (dS ii ik im ip) (dV ii ik im ip))))))
def iR (ii:Int) (ik:Bool) (im:Int) (ip:Bool) : Bool := (cond (vV 1 (fun _ => ii) (fun _ => ik) (fun _ => im) (fun _ => ip)) false (cond (ilt (imax (imax (imax ii (bM .i64 ii)) im) (bM .i64 im)) 16777216) (cond (dV (aI .i64 ii 16777216) ik (aI .i64 im 16777216) ip) false (cond (ieq (dS (aI .i64 ii 16777216) ik (aI .i64 im 16777216) ip) 0) false (Ak (aI .i64 ii 16777216) ik (dS (aI .i64 ii 16777216) ik (aI .i64 im 16777216) ip) (dV (aI .i64 ii 16777216) ik (aI .i64 im 16777216) ip)))) (cond (dV ii ik im ip) false (cond (ieq (dS ii ik im ip) 0) false (Ak ii ik (dS ii ik im ip) (dV ii ik im ip))))))
def CO (ii:Int) (ik:Bool) (im:Int) (ip:Bool) : Int := (cond (vV 1 (fun _ => ii) (fun _ => ik) (fun _ => im) (fun _ => ip)) 0 (cond (ilt (imax (imax (imax ii (bM .i64 ii)) im) (bM .i64 im)) 16777216) (cond (dV (aI .i64 ii 16777216) ik (aI .i64 im 16777216) ip) 0 (cond (ieq (dS (aI .i64 ii 16777216) ik (aI .i64 im 16777216) ip) 0) 0 (Aj (aI .i64 im 16777216) ip (dS (aI .i64 ii 16777216) ik (aI .i64 im 16777216) ip) (dV (aI .i64 ii 16777216) ik (aI .i64 im 16777216) ip)))) (cond (dV ii ik im ip) 0 (cond (ieq (dS ii ik im ip) 0) 0 (Aj im ip (dS ii ik im ip) (dV ii ik im ip))))))
def CP (ii:Int) (ik:Bool) (im:Int) (ip:Bool) : Bool := (cond (vV 1 (fun _ => ii) (fun _ => ik) (fun _ => im) (fun _ => ip)) false (cond (ilt (imax (imax (imax ii (bM .i64 ii)) im) (bM .i64 im)) 16777216) (cond (dV (aI .i64 ii 16777216) ik (aI .i64 im 16777216) ip) false (cond (ieq (dS (aI .i64 ii 16777216) ik (aI .i64 im 16777216) ip) 0) false (Ak (aI .i64 im 16777216) ip (dS (aI .i64 ii 16777216) ik (aI .i64 im 16777216) ip) (dV (aI .i64 ii 16777216) ik (aI .i64 im 16777216) ip)))) (cond (dV ii ik im ip) false (cond (ieq (dS ii ik im ip) 0) false (Ak im ip (dS ii ik im ip) (dV ii ik im ip))))))
def Sm (ii:Int) (ik:Bool) (im:Int) (ip:Bool) : Bool := (cond (vV 1 (fun _ => ii) (fun _ => ik) (fun _ => im) (fun _ => ip)) false (cond (ilt (imax (imax (imax ii (bM .i64 ii)) im) (bM .i64 im)) 16777216) (cond (dV (aI .i64 ii 16777216) ik (aI .i64 im 16777216) ip) false (cond (ieq (dS (aI .i64 ii 16777216) ik (aI .i64 im 16777216) ip) 0) false true)) (cond (dV ii ik im ip) false (cond (ieq (dS ii ik im ip) 0) false true))))
theorem auf (ii:Int) (ik:Bool) (im:Int) (ip:Bool) {K0 : Int -> Bool -> Int -> Bool -> Bool -> Prop} (h : Fg ii ik im ip) (hK : K0 (iE ii ik im ip) (iR ii ik im ip) (CO ii ik im ip) (CP ii ik im ip) (Sm ii ik im ip)) : alN ii ik im ip K0  := by
 unfold alN Fg iE iR CO CP Sm at *
 simp only [aH, true_and]; try simp only [aH, true_and] at h
 repeat' first | exact hK | (refine aC (fun c => ?_) (fun c => ?_) <;> try simp only [c, cond_true, cond_false] at h hK ⊢) | refine ⟨rfl, ?_⟩ | refine ⟨trivial, ?_⟩ | refine ⟨by decide, ?_⟩ | (refine ⟨h.1, ?_⟩; replace h := h.2) | refine ⟨h, ?_⟩
theorem afO {x y : Int} {f g : Bool} (hx : Num' x) (hy : Num' y) : adb 1 (fun _ => x) (fun _ => f) (fun _ => y) (fun _ => g) /\ vV 1 (fun _ => x) (fun _ => f) (fun _ => y) (fun _ => g) = (f || g) := by
  refine ⟨(show 1 <= 1000000 by decide), ?_⟩
  show ige (ixF (fun k => CU x f y g) 1) 0 = _
  rw [ab8]
  show (false || CU x f y g) = _
  unfold CU
  rw [(F7 hx).2, (F7 hy).2]
  cases f <;> cases g <;> rfl
theorem KG {x : Int} {f : Bool} (hx : Num' x) : V6 x f /\ Nk x f = f := by
  refine ⟨⟨by decide, fun k hk => afp hx⟩, ?_⟩
  show (kR 1 (fun _ => x) (fun _ => f) || vM (yH (fun _ => x) 1)) = f
  have e : yH (fun _ => x) 1 = x := by show 0 + whole x = x; rw [eX hx]; omega
  rw [e, Pv hx, Bool.or_false]
  show (false || dP x f) = f
  rw [dX hx, Bool.false_or]
theorem afP {x y : Int} {f g : Bool} (hx : Num' x) (hy : Num' y) : amm 1 (fun _ => x) (fun _ => f) (fun _ => y) (fun _ => g) /\ Zg 1 (fun _ => x) (fun _ => f) (fun _ => y) (fun _ => g) = (f || g) := by
  obtain ⟨p1, e1⟩ := KG (f := f) hx
  obtain ⟨p2, e2⟩ := KG (f := g) hy
  refine ⟨⟨by decide, fun k hk => ⟨p1, p2⟩⟩, ?_⟩
  show (false || (Nk x f || Nk y g)) = _
  rw [e1, e2, Bool.false_or]
theorem Wq {x y : Int} {f g : Bool} (hx : Num' x) (hy : Num' y) : Fg x f y g /\ afR x f y g /\ iE x f y g = Gn x f y g /\ iR x f y g = Rl x f y g /\ CO x f y g = Nu x f y g /\ CP x f y g = RQ x f y g /\ Sm x f y g = af6 x f y g /\ Num' (Gn x f y g) /\ Num' (Nu x f y g) := by
  obtain ⟨PA, hA⟩ := afO (f := f) (g := g) hx hy
  obtain ⟨PB, hB⟩ := afP (f := f) (g := g) hx hy
  unfold Fg afR iE iR CO CP Sm Gn Rl Nu RQ af6
  rw [hA, hB]
  cases hfg : (f || g) with
  | true => exact ⟨⟨PA, trivial⟩, ⟨PB, trivial⟩, rfl, rfl, rfl, rfl, rfl, (show Num' 0 from ⟨by decide, by decide⟩), (show Num' 0 from ⟨by decide, by decide⟩)⟩
  | false =>
    have hf : f = false /\ g = false := by cases f <;> cases g <;> first | exact ⟨rfl, rfl⟩ | cases hfg
    obtain ⟨rfl, rfl⟩ := hf
    simp only [cond_false]
    have hax : F8 x false = max x (-x) := (afa hx).1
    have hay : F8 y false = max y (-y) := (afa hy).1
    have eng : bM .i64 x = -x /\ bM .i64 y = -y := ⟨rF hx.1 hx.2, rF hy.1 hy.2⟩
    simp only [hax, hay, eng.1, eng.2, Cb]
    have fin : ∀ X Y : Int, Num' X -> Num' Y -> (dS X false Y false = CB X false Y false /\ dV X false Y false = CG X false Y false) /\ Zc X false Y false /\ acU X false Y false /\ Num' (CB X false Y false) /\
        (aeZ X false (CB X false Y false) (CG X false Y false) /\ MQ X false (CB X false Y false) (CG X false Y false) /\ Aj X false (CB X false Y false) (CG X false Y false) = oI X false (CB X false Y false) (CG X false Y false) /\ Ak X false (CB X false Y false) (CG X false Y false) = uF X false (CB X false Y false) (CG X false Y false) /\ Num' (oI X false (CB X false Y false) (CG X false Y false))) /\
        (aeZ Y false (CB X false Y false) (CG X false Y false) /\ MQ Y false (CB X false Y false) (CG X false Y false) /\ Aj Y false (CB X false Y false) (CG X false Y false) = oI Y false (CB X false Y false) (CG X false Y false) /\ Ak Y false (CB X false Y false) (CG X false Y false) = uF Y false (CB X false Y false) (CG X false Y false) /\ Num' (oI Y false (CB X false Y false) (CG X false Y false))) := fun X Y hX hY => by
      obtain ⟨l1, l2, l3, l4, l5⟩ := ab5 (e := false) (f := false) hX hY
      exact ⟨⟨l3, l4⟩, l1, l2, l5, Y9 hX l5, Y9 hY l5⟩
    have z : Num' 0 := ⟨by decide, by decide⟩
    by_cases hs : max x (-x) < 16777216 /\ max y (-y) < 16777216
    . have m1 : ilt (max (max (max x (-x)) y) (-y)) 16777216 = true := by rw [dY]; omega
      have m2 : ilt (max x (-x)) 16777216 = true := by rw [dY]; exact hs.1
      have m3 : ilt (max y (-y)) 16777216 = true := by rw [dY]; exact hs.2
      have ex : aI .i64 x 16777216 = x * 16777216 := kQ (by omega) (by omega)
      have ey : aI .i64 y 16777216 = y * 16777216 := kQ (by omega) (by omega)
      have nX : Num' (x * 16777216) := ⟨by omega, by omega⟩
      have nY : Num' (y * 16777216) := ⟨by omega, by omega⟩
      have ofX : jC (x * 16777216) = x * 16777216 /\ jF (x * 16777216) = false := ⟨(jQ _ _).trans (eX nX), dX nX _⟩
      have ofY : jC (y * 16777216) = y * 16777216 /\ jF (y * 16777216) = false := ⟨(jQ _ _).trans (eX nY), dX nY _⟩
      simp only [m1, m2, m3, cond_true, ex, ey, ofX.1, ofX.2, ofY.1, ofY.2]
      obtain ⟨⟨l3, l4⟩, l1, l2, l5, ⟨d1, d2, d3, d4, d5⟩, ⟨e1, e2, e3, e4, e5⟩⟩ := fin _ _ nX nY
      simp only [l3, l4]
      cases h1 : CG (x * 16777216) false (y * 16777216) false with
      | true => refine ⟨⟨PA, l1, trivial⟩, ⟨PB, l2, trivial⟩, ?_, ?_, ?_, ?_, ?_, z, z⟩ <;> first | rfl | trivial
      | false =>
        cases ieq (CB (x * 16777216) false (y * 16777216) false) 0 with
        | true => refine ⟨⟨PA, l1, trivial⟩, ⟨PB, l2, trivial⟩, ?_, ?_, ?_, ?_, ?_, z, z⟩ <;> first | rfl | trivial
        | false =>
          simp only [h1] at d1 d2 d3 d4 d5 e1 e2 e3 e4 e5
          simp only [cond_false]
          exact ⟨⟨PA, l1, d1, e1⟩, ⟨PB, l2, d2, e2⟩, d3, d4, e3, e4, trivial, d5, e5⟩
    . have m1 : ilt (max (max (max x (-x)) y) (-y)) 16777216 = false := by rw [fJ]; omega
      obtain ⟨⟨l3, l4⟩, l1, l2, l5, ⟨d1, d2, d3, d4, d5⟩, ⟨e1, e2, e3, e4, e5⟩⟩ := fin _ _ hx hy
      have hm : ilt (max x (-x)) 16777216 = false \/ (ilt (max x (-x)) 16777216 = true /\ ilt (max y (-y)) 16777216 = false) := by
        by_cases h : max x (-x) < 16777216
        . exact .inr ⟨dY.2 h, by rw [fJ]; omega⟩
        . exact .inl (by rw [fJ]; omega)
      simp only [m1, cond_false, l3, l4]
      rcases hm with m2 | ⟨m2, m3⟩
      . simp only [m2, cond_false]
        cases h1 : CG x false y false with
        | true => refine ⟨⟨PA, l1, trivial⟩, ⟨PB, l2, trivial⟩, ?_, ?_, ?_, ?_, ?_, z, z⟩ <;> first | rfl | trivial
        | false =>
          cases ieq (CB x false y false) 0 with
          | true => refine ⟨⟨PA, l1, trivial⟩, ⟨PB, l2, trivial⟩, ?_, ?_, ?_, ?_, ?_, z, z⟩ <;> first | rfl | trivial
          | false =>
            simp only [h1] at d1 d2 d3 d4 d5 e1 e2 e3 e4 e5
            simp only [cond_false]
            exact ⟨⟨PA, l1, d1, e1⟩, ⟨PB, l2, d2, e2⟩, d3, d4, e3, e4, trivial, d5, e5⟩
      . simp only [m2, m3, cond_true, cond_false]
        cases h1 : CG x false y false with
        | true => refine ⟨⟨PA, l1, trivial⟩, ⟨PB, l2, trivial⟩, ?_, ?_, ?_, ?_, ?_, z, z⟩ <;> first | rfl | trivial
        | false =>
          cases ieq (CB x false y false) 0 with
          | true => refine ⟨⟨PA, l1, trivial⟩, ⟨PB, l2, trivial⟩, ?_, ?_, ?_, ?_, ?_, z, z⟩ <;> first | rfl | trivial
          | false =>
            simp only [h1] at d1 d2 d3 d4 d5 e1 e2 e3 e4 e5
            simp only [cond_false]
            exact ⟨⟨PA, l1, d1, e1⟩, ⟨PB, l2, d2, e2⟩, d3, d4, e3, e4, trivial, d5, e5⟩
def amw (ii:Int) (ik:Bool) (im:Int) (ip:Bool) (ic:Int) (ie:Bool) (K0 : Int -> Bool -> Int -> Bool -> Prop)  : Prop := Ts 6 (((ae0 ii ik ic ie) /\ Ts 3 (((ae0 im ip ic ie) /\ Ts 2 ((true = true /\ Ts 1 (K0 (Am ii ik ic ie) (sV ii ik ic ie) (Am im ip ic ie) (sV im ip ic ie))))))))
def afJ (ii:Int) (ik:Bool) (im:Int) (ip:Bool) (ic:Int) (ie:Bool) : Prop := ((ae0 ii ik ic ie) /\ (ae0 im ip ic ie))
def Ja (ii:Int) (ik:Bool) (im:Int) (ip:Bool) (ic:Int) (ie:Bool) : Int := (Am ii ik ic ie)
def Sv (ii:Int) (ik:Bool) (im:Int) (ip:Bool) (ic:Int) (ie:Bool) : Bool := (sV ii ik ic ie)
def Sz (ii:Int) (ik:Bool) (im:Int) (ip:Bool) (ic:Int) (ie:Bool) : Int := (Am im ip ic ie)
def SA (ii:Int) (ik:Bool) (im:Int) (ip:Bool) (ic:Int) (ie:Bool) : Bool := (sV im ip ic ie)
theorem au9 (ii:Int) (ik:Bool) (im:Int) (ip:Bool) (ic:Int) (ie:Bool) {K0 : Int -> Bool -> Int -> Bool -> Prop} (h : afJ ii ik im ip ic ie) (hK : K0 (Ja ii ik im ip ic ie) (Sv ii ik im ip ic ie) (Sz ii ik im ip ic ie) (SA ii ik im ip ic ie)) : amw ii ik im ip ic ie K0  := by
 unfold amw afJ Ja Sv Sz SA at *
 simp only [aH, true_and]; try simp only [aH, true_and] at h
 repeat' first | exact hK | refine ⟨rfl, ?_⟩ | refine ⟨trivial, ?_⟩ | refine ⟨by decide, ?_⟩ | (refine ⟨h.1, ?_⟩; replace h := h.2) | refine ⟨h, ?_⟩
theorem adA {a b k : Int} {e f g : Bool} (ha : Num' a) (hb : Num' b) (hk : Num' k) : afJ a e b f k g /\ YU a e b f k g /\ Ja a e b f k g = MP a e b f k g /\ Sv a e b f k g = QO a e b f k g /\ Sz a e b f k g = abl a e b f k g /\ SA a e b f k g = ahR a e b f k g /\ Num' (MP a e b f k g) /\ Num' (abl a e b f k g) := by
  obtain ⟨a1, a2, a3, a4, a5⟩ := VH (f := e) (g := g) ha hk
  obtain ⟨b1, b2, b3, b4, b5⟩ := VH (f := f) (g := g) hb hk
  exact ⟨⟨a1, b1⟩, trivial, a3, a4, b3, b4, a5, b5⟩
def amZ (ii:Int) (ik:Bool) (im:Int) (ip:Bool) (jn:Int) (jo:Bool) (i9:Int) (ja:Bool) (K0 : Int -> Bool -> Prop)  : Prop := Ts 11 (((VX ii ik jn jo im ip i9 ja) /\ Ts 2 (K0 (Di ii ik jn jo im ip i9 ja) (Dj ii ik jn jo im ip i9 ja))))
def Zn (ii:Int) (ik:Bool) (im:Int) (ip:Bool) (jn:Int) (jo:Bool) (i9:Int) (ja:Bool) : Prop := (VX ii ik jn jo im ip i9 ja)
def Gs (ii:Int) (ik:Bool) (im:Int) (ip:Bool) (jn:Int) (jo:Bool) (i9:Int) (ja:Bool) : Int := (Di ii ik jn jo im ip i9 ja)
def SH (ii:Int) (ik:Bool) (im:Int) (ip:Bool) (jn:Int) (jo:Bool) (i9:Int) (ja:Bool) : Bool := (Dj ii ik jn jo im ip i9 ja)
theorem avE (ii:Int) (ik:Bool) (im:Int) (ip:Bool) (jn:Int) (jo:Bool) (i9:Int) (ja:Bool) {K0 : Int -> Bool -> Prop} (h : Zn ii ik im ip jn jo i9 ja) (hK : K0 (Gs ii ik im ip jn jo i9 ja) (SH ii ik im ip jn jo i9 ja)) : amZ ii ik im ip jn jo i9 ja K0  := by
 unfold amZ Zn Gs SH at *
 simp only [aH, true_and]; try simp only [aH, true_and] at h
 repeat' first | exact hK | refine ⟨rfl, ?_⟩ | refine ⟨trivial, ?_⟩ | refine ⟨by decide, ?_⟩ | (refine ⟨h.1, ?_⟩; replace h := h.2) | refine ⟨h, ?_⟩
theorem ahJ {a b c d : Int} {e f g h : Bool} (ha : Num' a) (hb : Num' b) (hc : Num' c) (hd : Num' d) : Zn a e b f c g d h /\ amW a e b f c g d h /\ Gs a e b f c g d h = WS a e b f c g d h /\ SH a e b f c g d h = af7 a e b f c g d h /\ Num' (WS a e b f c g d h) := afA ha hc hb hd
def amh (ii:Int) (ik:Bool) (im:Int) (ip:Bool) (jn:Int) (jo:Bool) (i9:Int) (ja:Bool) (K0 : Int -> Bool -> Prop)  : Prop := Ts 9 (((O1 im ip) /\ Ts 2 (((VX ii ik i9 ja (oD im ip) (oG im ip) jn jo) /\ Ts 1 ((true = true /\ Ts 1 (K0 (Di ii ik i9 ja (oD im ip) (oG im ip) jn jo) (Dj ii ik i9 ja (oD im ip) (oG im ip) jn jo))))))))
def VY (ii:Int) (ik:Bool) (im:Int) (ip:Bool) (jn:Int) (jo:Bool) (i9:Int) (ja:Bool) : Prop := (VX ii ik i9 ja (oD im ip) (oG im ip) jn jo)
def Gh (ii:Int) (ik:Bool) (im:Int) (ip:Bool) (jn:Int) (jo:Bool) (i9:Int) (ja:Bool) : Int := (Di ii ik i9 ja (oD im ip) (oG im ip) jn jo)
def NC (ii:Int) (ik:Bool) (im:Int) (ip:Bool) (jn:Int) (jo:Bool) (i9:Int) (ja:Bool) : Bool := (Dj ii ik i9 ja (oD im ip) (oG im ip) jn jo)
theorem auU (ii:Int) (ik:Bool) (im:Int) (ip:Bool) (jn:Int) (jo:Bool) (i9:Int) (ja:Bool) {K0 : Int -> Bool -> Prop} (h : VY ii ik im ip jn jo i9 ja) (hK : K0 (Gh ii ik im ip jn jo i9 ja) (NC ii ik im ip jn jo i9 ja)) : amh ii ik im ip jn jo i9 ja K0  := by
 unfold amh VY Gh NC at *
 simp only [aH, true_and]; try simp only [aH, true_and] at h
 repeat' first | exact hK | refine ⟨rfl, ?_⟩ | refine ⟨trivial, ?_⟩ | refine ⟨by decide, ?_⟩ | (refine ⟨h.1, ?_⟩; replace h := h.2) | refine ⟨h, ?_⟩
theorem adB {a b c d : Int} {e f g h : Bool} (ha : Num' a) (hb : Num' b) (hc : Num' c) (hd : Num' d) : VY a e b f c g d h /\ aiW a e b f c g d h /\ Gh a e b f c g d h = wG a e b f c g d h /\ NC a e b f c g d h = abk a e b f c g d h /\ Num' (wG a e b f c g d h) := by
  unfold VY aiW Gh NC wG abk
  obtain ⟨n1, n2, n3⟩ := afs (f := f) hb
  rw [n1, n2]
  obtain ⟨p1, p2, q⟩ := afA (e := e) (f := h) (g := gQ b f) (h := g) ha hd n3 hc
  exact ⟨p1, p2, q⟩
def aoc (a0 a1:Int) (K0 : Int -> Bool -> Int -> Bool -> Prop)  : Prop := Ts 2 (((X6 a0) /\ Ts 1 (((X6 a1) /\ Ts 3 (K0 (qF a0) (oC a0) (qF a1) (oC a1))))))
def ap0 (a0 a1:Int) : Prop := True
def af0 (a0 a1:Int) : Int := (qF a0)
def ZP (a0 a1:Int) : Bool := (oC a0)
def af2 (a0 a1:Int) : Int := (qF a1)
def af4 (a0 a1:Int) : Bool := (oC a1)
theorem awg (a0 a1:Int) {K0 : Int -> Bool -> Int -> Bool -> Prop} (h : ap0 a0 a1) (hK : K0 (af0 a0 a1) (ZP a0 a1) (af2 a0 a1) (af4 a0 a1)) : aoc a0 a1 K0  := by
 unfold aoc ap0 af0 ZP af2 af4 at *
 simp only [aH, true_and]
 repeat' first | exact hK | refine ⟨rfl, ?_⟩ | refine ⟨trivial, ?_⟩ | refine ⟨by decide, ?_⟩ | (refine ⟨h.1, ?_⟩; replace h := h.2) | refine ⟨h, ?_⟩
def SB (cm ge:Int) : Int := (eG cm)
def SC (cm ge:Int) : Bool := (eH cm)
def ND (cm ge:Int) : Int := (eG ge)
def I4 (cm ge:Int) : Bool := (eH ge)
def ahE (cm ge ic ie:Int) : Prop := (afR (SB (bQ .i64 ie ge) (bQ .i64 cm ic)) (SC (bQ .i64 ie ge) (bQ .i64 cm ic)) (ND (bQ .i64 ie ge) (bQ .i64 cm ic)) (I4 (bQ .i64 ie ge) (bQ .i64 cm ic)))
def Np (cm ge ic ie:Int) : Int := (Gn (SB (bQ .i64 ie ge) (bQ .i64 cm ic)) (SC (bQ .i64 ie ge) (bQ .i64 cm ic)) (ND (bQ .i64 ie ge) (bQ .i64 cm ic)) (I4 (bQ .i64 ie ge) (bQ .i64 cm ic)))
def abm (cm ge ic ie:Int) : Bool := (Rl (SB (bQ .i64 ie ge) (bQ .i64 cm ic)) (SC (bQ .i64 ie ge) (bQ .i64 cm ic)) (ND (bQ .i64 ie ge) (bQ .i64 cm ic)) (I4 (bQ .i64 ie ge) (bQ .i64 cm ic)))
def Wp (cm ge ic ie:Int) : Int := (Nu (SB (bQ .i64 ie ge) (bQ .i64 cm ic)) (SC (bQ .i64 ie ge) (bQ .i64 cm ic)) (ND (bQ .i64 ie ge) (bQ .i64 cm ic)) (I4 (bQ .i64 ie ge) (bQ .i64 cm ic)))
def abn (cm ge ic ie:Int) : Bool := (RQ (SB (bQ .i64 ie ge) (bQ .i64 cm ic)) (SC (bQ .i64 ie ge) (bQ .i64 cm ic)) (ND (bQ .i64 ie ge) (bQ .i64 cm ic)) (I4 (bQ .i64 ie ge) (bQ .i64 cm ic)))

def Jh (ig:Nat) (cm ge:Nat -> Int) (km:Int) (c x0 x1 : Int -> Prop)  : Prop := Ts 1 (cond (ilt km (ig:Int)) (((0 <= km /\ km < (ig:Int)) /\ Ts 16 (cond (igt (imax (imax (imax (cm (Int.toNat km)) (bM .i64 (cm (Int.toNat km)))) (ge (Int.toNat km))) (bM .i64 (ge (Int.toNat km)))) 2097152) (Ts 4 (x1 km)) (Ts 5 (cond (ilt (cm (Int.toNat km)) (-2097152)) (Ts 2 (x1 km)) (Ts 4 (cond (ilt (ge (Int.toNat km)) (-2097152)) (Ts 1 (x1 km)) (Ts 2 (c (au .i64 km 1)))))))))) (x0 km))
def y5 (ig:Nat) (cm ge:Nat -> Int) : Nat -> Int -> (Int -> Prop) -> (Int -> Prop) -> Prop
  | 0, _, _, _ => False
  | f + 1, w0, x0, x1 => Jh ig cm ge w0 (fun u0 => y5 ig cm ge f u0 x0 x1) x0 x1 
theorem ab9 (ig:Nat) (cm ge:Nat -> Int) (km:Int) {c c' : Int -> Prop} {x0 y0 : Int -> Prop} {x1 y1 : Int -> Prop} (hc : ∀ w0, c w0 -> c' w0) (h0 : ∀ o0, x0 o0 -> y0 o0) (h1 : ∀ o0, x1 o0 -> y1 o0) : Jh ig cm ge km c x0 x1  -> Jh ig cm ge km c' y0 y1  := by
  unfold Jh
  repeat' first
    | exact hc _
    | exact h0 _
    | exact h1 _
    | refine dU ?_
    | refine cO ?_ ?_
    | refine cZ ?_
theorem acd (ig:Nat) (cm ge:Nat -> Int) {x0 y0 : Int -> Prop} {x1 y1 : Int -> Prop} (h0 : ∀ o0, x0 o0 -> y0 o0) (h1 : ∀ o0, x1 o0 -> y1 o0) : ∀ (f:Nat) (km:Int), y5 ig cm ge f km x0 x1 -> y5 ig cm ge f km y0 y1
  | 0, w0 => fun h => h
  | f + 1, w0 => ab9 ig cm ge w0 (fun u0 => acd ig cm ge h0 h1 f u0) h0 h1
def adC (ig:Nat) (cm ge:Nat -> Int) (K0 : Bool -> Prop) (l0 : Int -> (Int -> Prop) -> (Int -> Prop) -> Prop) : Prop := Ts 4 ((l0 0 (fun qf => Ts 1 (K0 true)) (fun qf => K0 false)))
def sK (n:Nat) (x y:Nat -> Int) : Bool := (List.range n).all fun k => dM (x k) (y k)
theorem qE {n : Nat} {x y : Nat -> Int} : sK n x y = true ↔ ∀ k, k < n -> dM (x k) (y k) = true := by
  unfold sK
  rw [List.all_eq_true]
  exact ⟨fun h k hk => h k (List.mem_range.2 hk), fun h k hk => h k (List.mem_range.1 hk)⟩
def AZ (n:Nat) (x y:Nat -> Int) : Prop := n <= 1000000 /\ ∀ k, k < n -> I64 (x k) /\ I64 (y k)
def jI (n:Nat) (x y:Nat -> Int) : Bool := sK n x y
theorem ace {n : Nat} {x y : Nat -> Int} (hp : AZ n x y) {x0 x1 : Int -> Prop} : ∀ (f i:Nat), i <= n -> n < f + i -> ((∀ k, i <= k -> k < n -> dM (x k) (y k) = true) -> ∀ v, x0 v) -> (∀ k, k < n -> dM (x k) (y k) = false -> ∀ v, x1 v) -> y5 n x y f i x0 x1
  | 0, i, h1, h2, _, _ => by omega
  | f + 1, i, h1, h2, h3, h4 => by
    show Jh n x y i _ _ _
    unfold Jh
    simp only [aH, true_and, Int.toNat_natCast, Nat.zero_add]
    refine aC (fun hc => ?_) (fun hc => ?_)
    . rw [dY] at hc
      have hi : i < n := by omega
      refine ⟨⟨by omega, hc⟩, ?_⟩
      obtain ⟨⟨hx1, hx2⟩, ⟨hy1, hy2⟩⟩ := hp.2 i hi
      have key : dM (x i) (y i) = false -> ∀ v, x1 v := h4 i hi
      have nk : ¬ (-2097152 <= x i /\ x i <= 2097152 /\ -2097152 <= y i /\ y i <= 2097152) -> ∀ v, x1 v := fun h => key (by rw [<- Bool.not_eq_true, gJ]; exact h)
      have hnx : bM .i64 (x i) = -(x i) \/ (x i = -9223372036854775808 /\ bM .i64 (x i) = -9223372036854775808) := by
        by_cases h : x i = -9223372036854775808
        . exact .inr ⟨h, by rw [h, Qi]⟩
        . exact .inl (rF (by omega) hx2)
      have hny : bM .i64 (y i) = -(y i) \/ (y i = -9223372036854775808 /\ bM .i64 (y i) = -9223372036854775808) := by
        by_cases h : y i = -9223372036854775808
        . exact .inr ⟨h, by rw [h, Qi]⟩
        . exact .inl (rF (by omega) hy2)
      refine aC (fun hc => ?_) (fun hc => ?_)
      . rw [qY, Cb, Cb, Cb] at hc
        exact nk (by omega) _
      . rw [nV, Cb, Cb, Cb] at hc
        refine aC (fun hc => ?_) (fun hc => ?_)
        . rw [dY] at hc
          exact nk (by omega) _
        . rw [fJ] at hc
          refine aC (fun hc => ?_) (fun hc => ?_)
          . rw [dY] at hc
            exact nk (by omega) _
          . rw [fJ] at hc
            have hn := hp.1
            rw [fF (by omega) (by omega)]
            refine ace hp f (i + 1) (by omega) (by omega) (fun h => h3 fun k hk1 hk2 => ?_) h4
            by_cases hk : k = i
            . subst hk
              rw [gJ]
              omega
            . exact h k (by omega) hk2
    . rw [fJ] at hc
      exact h3 (fun k hk1 hk2 => by omega) _
theorem avp (ig:Nat) (cm ge:Nat -> Int) {K0 : Bool -> Prop} (h : AZ ig cm ge) (hK : K0 (jI ig cm ge)) : adC ig cm ge K0 (y5 ig cm ge fuel) := by
  unfold adC
  simp only [aH, true_and]
  refine ace h fuel 0 (Nat.zero_le _) (by rw [gW]; have := h.1; omega) (fun h => ?_) (fun k hk hs => ?_)
  . intro v
    have : jI ig cm ge = true := qE.2 fun k hk => h k (Nat.zero_le _) hk
    rw [this] at hK
    exact hK
  . intro v
    have : jI ig cm ge = false := by
      cases hf : jI ig cm ge with
      | false => rfl
      | true => rw [qE.1 hf k hk] at hs; cases hs
    rw [this] at hK
    exact hK
def ac9 (cm ge ij iq:Int) (K0 : Int -> Prop)  : Prop := Ts 16 ((true = true /\ Ts 3 (((AZ 2 (ay 1 (fun _ => cm) ij) (ay 1 (fun _ => ge) iq)) /\ Ts 2 (cond (!(jI 2 (ay 1 (fun _ => cm) ij) (ay 1 (fun _ => ge) iq))) (Ts 1 (K0 3)) (Ts 6 (cond (igt cm ij) (Ts 3 (K0 5)) (Ts 7 (cond (igt ge iq) (Ts 1 (K0 5)) (Ts 1 (K0 0)))))))))))
def Vr (cm ge ij iq:Int) : Prop := (AZ 2 (ay 1 (fun _ => cm) ij) (ay 1 (fun _ => ge) iq))
def yJ (cm ge ij iq:Int) : Int := (cond (!(jI 2 (ay 1 (fun _ => cm) ij) (ay 1 (fun _ => ge) iq))) 3 (cond (igt cm ij) 5 (cond (igt ge iq) 5 0)))
theorem aui (cm ge ij iq:Int) {K0 : Int -> Prop} (h : Vr cm ge ij iq) (hK : K0 (yJ cm ge ij iq)) : ac9 cm ge ij iq K0  := by
 unfold ac9 Vr yJ at *
 simp only [aH, true_and]; try simp only [aH, true_and] at h
 repeat' first | exact hK | (refine aC (fun c => ?_) (fun c => ?_) <;> try simp only [c, cond_true, cond_false] at h hK ⊢) | refine ⟨rfl, ?_⟩ | refine ⟨trivial, ?_⟩ | refine ⟨by decide, ?_⟩ | (refine ⟨h.1, ?_⟩; replace h := h.2) | refine ⟨h, ?_⟩
def al0 (cm ge ij iq a1:Int) (K0 : Int -> Int -> Int -> Int -> Prop)  : Prop := Ts 3 (((Vr cm ge ij iq) /\ Ts 1 (cond (ine (yJ cm ge ij iq) 0) (Ts 3 (K0 cm ge ij iq)) (Ts 35 (K0 (imax (bQ .i64 cm (imax 0 (Ia a1 4194304))) (-2097152)) (imax (bQ .i64 ge (imax 0 (Ia a1 4194304))) (-2097152)) (Ia (au .i64 ij (imax 0 (Ia a1 4194304))) 2097152) (Ia (au .i64 iq (imax 0 (Ia a1 4194304))) 2097152))))))
def VA (cm ge ij iq a1:Int) : Prop := (Vr cm ge ij iq)
def qB (cm ge ij iq a1:Int) : Int := (cond (ine (yJ cm ge ij iq) 0) cm (imax (bQ .i64 cm (imax 0 (Ia a1 4194304))) (-2097152)))
def qC (cm ge ij iq a1:Int) : Int := (cond (ine (yJ cm ge ij iq) 0) ge (imax (bQ .i64 ge (imax 0 (Ia a1 4194304))) (-2097152)))
def Jb (cm ge ij iq a1:Int) : Int := (cond (ine (yJ cm ge ij iq) 0) ij (Ia (au .i64 ij (imax 0 (Ia a1 4194304))) 2097152))
def Jk (cm ge ij iq a1:Int) : Int := (cond (ine (yJ cm ge ij iq) 0) iq (Ia (au .i64 iq (imax 0 (Ia a1 4194304))) 2097152))
theorem auB (cm ge ij iq a1:Int) {K0 : Int -> Int -> Int -> Int -> Prop} (h : VA cm ge ij iq a1) (hK : K0 (qB cm ge ij iq a1) (qC cm ge ij iq a1) (Jb cm ge ij iq a1) (Jk cm ge ij iq a1)) : al0 cm ge ij iq a1 K0  := by
 unfold al0 VA qB qC Jb Jk at *
 simp only [aH, true_and]; try simp only [aH, true_and] at h
 repeat' first | exact hK | (refine aC (fun c => ?_) (fun c => ?_) <;> try simp only [c, cond_true, cond_false] at h hK ⊢) | refine ⟨rfl, ?_⟩ | refine ⟨trivial, ?_⟩ | refine ⟨by decide, ?_⟩ | (refine ⟨h.1, ?_⟩; replace h := h.2) | refine ⟨h, ?_⟩
def amN (cm ge ic ie:Int) (K0 : Int -> Int -> Prop)  : Prop := Ts 16 (K0 (bQ .i64 ic cm) (bQ .i64 ie ge))
def Wy (cm ge ic ie:Int) : Prop := True
def bY (cm ge ic ie:Int) : Int := (bQ .i64 ic cm)
def bZ (cm ge ic ie:Int) : Int := (bQ .i64 ie ge)
theorem avs (cm ge ic ie:Int) {K0 : Int -> Int -> Prop} (h : Wy cm ge ic ie) (hK : K0 (bY cm ge ic ie) (bZ cm ge ic ie)) : amN cm ge ic ie K0  := by
 unfold amN Wy bY bZ at *
 exact aH.2 hK
def amy (cm ge ic ie:Int) (K0 : Int -> Prop)  : Prop := Ts 15 (K0 (bQ .i64 (aI .i64 cm ie) (aI .i64 ge ic)))
def afL (cm ge ic ie:Int) : Prop := True
def Gi (cm ge ic ie:Int) : Int := (bQ .i64 (aI .i64 cm ie) (aI .i64 ge ic))
theorem avb (cm ge ic ie:Int) {K0 : Int -> Prop} (h : afL cm ge ic ie) (hK : K0 (Gi cm ge ic ie)) : amy cm ge ic ie K0  := by
 unfold amy afL Gi at *
 exact aH.2 hK
def amJ (cm ge ic ie il io:Int) (K0 : Int -> Prop)  : Prop := Ts 6 (((Wy cm ge ic ie) /\ Ts 2 (((Wy cm ge il io) /\ ((afL (bY cm ge ic ie) (bZ cm ge ic ie) (bY cm ge il io) (bZ cm ge il io)) /\ Ts 1 ((true = true /\ K0 (Gi (bY cm ge ic ie) (bZ cm ge ic ie) (bY cm ge il io) (bZ cm ge il io)))))))))
def Ws (cm ge ic ie il io:Int) : Prop := True
def NH (cm ge ic ie il io:Int) : Int := (Gi (bY cm ge ic ie) (bZ cm ge ic ie) (bY cm ge il io) (bZ cm ge il io))
theorem avn (cm ge ic ie il io:Int) {K0 : Int -> Prop} (h : Ws cm ge ic ie il io) (hK : K0 (NH cm ge ic ie il io)) : amJ cm ge ic ie il io K0  := by
 unfold amJ Ws NH at *
 simp only [aH, true_and]
 repeat' first | exact hK | refine ⟨rfl, ?_⟩ | refine ⟨trivial, ?_⟩ | refine ⟨by decide, ?_⟩ | (refine ⟨h.1, ?_⟩; replace h := h.2) | refine ⟨h, ?_⟩
def aof (cm ge ic ie il io:Int) (K0 : Int -> Prop)  : Prop := Ts 9 (((AZ 3 (dO 1 (fun _ => cm) (ay 1 (fun _ => ic) il)) (dO 1 (fun _ => ge) (ay 1 (fun _ => ie) io))) /\ cond (jI 3 (dO 1 (fun _ => cm) (ay 1 (fun _ => ic) il)) (dO 1 (fun _ => ge) (ay 1 (fun _ => ie) io))) (Ts 3 (((Ws cm ge ic ie il io) /\ Ts 4 (cond (igt (NH cm ge ic ie il io) 0) (Ts 1 (K0 1)) (Ts 3 (cond (ilt (NH cm ge ic ie il io) 0) (Ts 1 (K0 (-1))) (Ts 1 (K0 0)))))))) (Ts 3 (cond (igt 0 0) (Ts 1 (K0 1)) (Ts 3 (cond (ilt 0 0) (Ts 1 (K0 (-1))) (Ts 1 (K0 0))))))))
def avO (cm ge ic ie il io:Int) : Prop := (AZ 3 (dO 1 (fun _ => cm) (ay 1 (fun _ => ic) il)) (dO 1 (fun _ => ge) (ay 1 (fun _ => ie) io)))
def kW (cm ge ic ie il io:Int) : Int := (cond (jI 3 (dO 1 (fun _ => cm) (ay 1 (fun _ => ic) il)) (dO 1 (fun _ => ge) (ay 1 (fun _ => ie) io))) (cond (igt (NH cm ge ic ie il io) 0) 1 (cond (ilt (NH cm ge ic ie il io) 0) (-1) 0)) (cond (igt 0 0) 1 (cond (ilt 0 0) (-1) 0)))
theorem awQ (cm ge ic ie il io:Int) {K0 : Int -> Prop} (h : avO cm ge ic ie il io) (hK : K0 (kW cm ge ic ie il io)) : aof cm ge ic ie il io K0  := by
 unfold aof avO kW at *
 simp only [aH, true_and]; try simp only [aH, true_and] at h
 repeat' first | exact hK | (refine aC (fun c => ?_) (fun c => ?_) <;> try simp only [c, cond_true, cond_false] at h hK ⊢) | refine ⟨rfl, ?_⟩ | refine ⟨trivial, ?_⟩ | refine ⟨by decide, ?_⟩ | (refine ⟨h.1, ?_⟩; replace h := h.2) | refine ⟨h, ?_⟩
def alR  (K0 : Bool -> Prop)  : Prop := Ts 4 (((avO 0 0 1 0 0 1) /\ Ts 2 (cond (ieq (kW 0 0 1 0 0 1) 1) (Ts 1 (((VA 0 0 1 1 2) /\ Ts 4 (K0 ((ieq (qB 0 0 1 1 2) (-2)) && ((ieq (qC 0 0 1 1 2) (-2)) && ((ieq (Jb 0 0 1 1 2) 3) && (ieq (Jk 0 0 1 1 2) 3)))))))) (Ts 2 (K0 false)))))
def XP  : Prop := ((avO 0 0 1 0 0 1) /\ (cond (ieq (kW 0 0 1 0 0 1) 1) (VA 0 0 1 1 2) True))
def vW  : Bool := (cond (ieq (kW 0 0 1 0 0 1) 1) ((ieq (qB 0 0 1 1 2) (-2)) && ((ieq (qC 0 0 1 1 2) (-2)) && ((ieq (Jb 0 0 1 1 2) 3) && (ieq (Jk 0 0 1 1 2) 3)))) false)
theorem aum  {K0 : Bool -> Prop} (h : XP ) (hK : K0 vW) : alR  K0  := by
 unfold alR XP vW at *
 simp only [aH, true_and]; try simp only [aH, true_and] at h
 repeat' first | exact hK | (refine aC (fun c => ?_) (fun c => ?_) <;> try simp only [c, cond_true, cond_false] at h hK ⊢) | refine ⟨rfl, ?_⟩ | refine ⟨trivial, ?_⟩ | refine ⟨by decide, ?_⟩ | (refine ⟨h.1, ?_⟩; replace h := h.2) | refine ⟨h, ?_⟩
theorem ajg (a b c d:Int) : jI 2 (ay 1 (fun _ => a) c) (ay 1 (fun _ => b) d) = (dM a b && dM c d) := by
  unfold jI sK
  rw [show List.range 2 = [0, 1] from rfl]
  simp only [List.all_cons, List.all_nil, Bool.and_true]
  rfl
theorem afS {a b c d : Int} (h1 : I64 a) (h2 : I64 b) (h3 : I64 c) (h4 : I64 d) : AZ 2 (ay 1 (fun _ => a) c) (ay 1 (fun _ => b) d) := by
  refine ⟨by omega, fun k hk => ?_⟩
  have : k = 0 \/ k = 1 := by omega
  rcases this with rfl | rfl
  . exact ⟨h1, h2⟩
  . exact ⟨h3, h4⟩
theorem apV (a b c d e f:Int) : jI 3 (dO 1 (fun _ => a) (ay 1 (fun _ => c) e)) (dO 1 (fun _ => b) (ay 1 (fun _ => d) f)) = (dM a b && dM c d && dM e f) := by
  unfold jI sK
  rw [show List.range 3 = [0, 1, 2] from rfl]
  simp only [List.all_cons, List.all_nil, Bool.and_true]
  rw [Bool.and_assoc]
  rfl
theorem amS {a b c d e f : Int} (h1 : I64 a) (h2 : I64 b) (h3 : I64 c) (h4 : I64 d) (h5 : I64 e) (h6 : I64 f) : AZ 3 (dO 1 (fun _ => a) (ay 1 (fun _ => c) e)) (dO 1 (fun _ => b) (ay 1 (fun _ => d) f)) := by
  refine ⟨by omega, fun k hk => ?_⟩
  have : k = 0 \/ k = 1 \/ k = 2 := by omega
  rcases this with rfl | rfl | rfl
  . exact ⟨h1, h2⟩
  . exact ⟨h3, h4⟩
  . exact ⟨h5, h6⟩
theorem ahM {b x y : Bool} : (cond b x y = true) ↔ ((b = true /\ x = true) \/ (b = false /\ y = true)) := by cases b <;> simp
def zx (a b c d:Int) : Prop := (-2097152 <= a /\ a <= 2097152 /\ -2097152 <= b /\ b <= 2097152) /\ (-2097152 <= c /\ c <= 2097152 /\ -2097152 <= d /\ d <= 2097152)
instance (a b c d:Int) : Decidable (zx a b c d) := by unfold zx; infer_instance
theorem amT {a b c d : Int} (h1 : I64 a) (h2 : I64 b) (h3 : I64 c) (h4 : I64 d) : Vr a b c d := afS h1 h2 h3 h4
theorem X7 (a b c d:Int) : (yJ a b c d = 3 /\ ¬ zx a b c d) \/ (yJ a b c d = 5 /\ zx a b c d /\ (c < a \/ d < b)) \/ (yJ a b c d = 0 /\ zx a b c d /\ a <= c /\ b <= d) := by
  unfold yJ zx
  rw [ajg]
  cases h : (dM a b && dM c d) with
  | false =>
    left
    refine ⟨rfl, fun ⟨h1, h2⟩ => ?_⟩
    rw [gJ.2 h1, gJ.2 h2] at h
    cases h
  | true =>
    right
    rw [Bool.and_eq_true, gJ, gJ] at h
    cases h1 : igt a c with
    | true => rw [qY] at h1; exact .inl ⟨rfl, h, .inl h1⟩
    | false =>
      rw [nV] at h1
      cases h2 : igt b d with
      | true => rw [qY] at h2; exact .inl ⟨rfl, h, .inr h2⟩
      | false => rw [nV] at h2; exact .inr ⟨rfl, h, h1, h2⟩
theorem acf (a b c d:Int) : yJ a b c d = 0 ↔ (zx a b c d /\ a <= c /\ b <= d) := by
  rcases X7 a b c d with ⟨h1, h2⟩ | ⟨h1, h2, h3⟩ | ⟨h1, h2, h3⟩ <;> rw [h1]
  . exact ⟨fun h => by omega, fun h => absurd h.1 h2⟩
  . exact ⟨fun h => by omega, fun h => by omega⟩
  . exact ⟨fun _ => ⟨h2, h3⟩, fun _ => rfl⟩
theorem ahN (a b c d r:Int) : (qB a b c d r, qC a b c d r, Jb a b c d r, Jk a b c d r) =
    if zx a b c d /\ a <= c /\ b <= d then (max (a - max 0 (min r 4194304)) (-2097152), max (b - max 0 (min r 4194304)) (-2097152), min (c + max 0 (min r 4194304)) 2097152, min (d + max 0 (min r 4194304)) 2097152) else (a, b, c, d) := by
  unfold qB qC Jb Jk
  cases h : ine (yJ a b c d) 0 with
  | true => rw [tY, acf] at h; rw [if_neg h]; rfl
  | false =>
    rw [tZ, acf] at h
    rw [if_pos h]
    unfold zx at h
    simp only [cond_false, Cb, ak3]
    rw [gI (by omega) (by omega), gI (by omega) (by omega), fF (by omega) (by omega), fF (by omega) (by omega)]
theorem adD {x : Int} (h1 : -2305843009213693952 <= x) (h2 : x <= 2305843009213693952) : I64 x := by unfold I64; omega
theorem afT : kW 0 0 1 0 0 1 = 1 := by
  unfold kW
  rw [apV]
  have h1 : dM 0 0 = true := by rw [gJ]; omega
  have h2 : dM 1 0 = true := by rw [gJ]; omega
  have h3 : dM 0 1 = true := by rw [gJ]; omega
  rw [h1, h2, h3]
  unfold NH Gi bY bZ
  have h : igt (bQ .i64 (aI .i64 (bQ .i64 1 0) (bQ .i64 1 0)) (aI .i64 (bQ .i64 0 0) (bQ .i64 0 0))) 0 = true := by
    have e0 : bQ .i64 0 0 = 0 := by rw [gI] <;> omega
    have e1 : bQ .i64 1 0 = 1 := by rw [gI] <;> omega
    have e2 : aI .i64 0 0 = 0 := by rw [kQ] <;> omega
    have e3 : aI .i64 1 1 = 1 := by rw [kQ] <;> omega
    rw [e0, e1, e2, e3, e1, qY]
    omega
  rw [h]
  rfl
theorem WB : XP := by
  refine ⟨amS ?_ ?_ ?_ ?_ ?_ ?_, aC (fun _ => amT ?_ ?_ ?_ ?_) (fun _ => trivial)⟩ <;> exact adD (by omega) (by omega)
theorem Dv : vW = true := by
  unfold vW
  rw [afT]
  have h := ahN 0 0 1 1 2
  rw [if_pos (by unfold zx; omega)] at h
  simp only [Prod.mk.injEq] at h
  obtain ⟨h1, h2, h3, h4⟩ := h
  rw [h1, h2, h3, h4]
  simp only [Bool.cond_eq_ite, kE, if_true, Bool.and_eq_true]
  omega
def SK (f:Nat -> Int) : Nat -> (Nat -> Int)
  | 0 => fun _ => 0
  | k + 1 => ay k (SK f k) (f k)
theorem adE {n k : Nat} (f:Nat -> Int) (x:Int) (h : k < n) : ay n f x k = f k := by
  unfold ay
  rw [show Nat.blt k n = true by rw [Nat.blt_eq]; exact h]
  rfl
theorem adF (n:Nat) (f:Nat -> Int) (x:Int) : ay n f x n = x := by
  unfold ay
  rw [show Nat.blt n n = false by cases h : Nat.blt n n with | false => rfl | true => (rw [Nat.blt_eq] at h; omega)]
  rfl
theorem SL (f:Nat -> Int) : ∀ (n k:Nat), k < n -> SK f n k = f k
  | 0, k, h => by omega
  | n + 1, k, h => by
    unfold SK
    by_cases hk : k = n
    . subst hk; exact adF _ _ _
    . rw [adE _ _ (by omega)]; exact SL f n k (by omega)



def amU (iw:Nat) (ii ik:Nat -> Int) (K0 : Nat -> (Nat -> Int) -> (Nat -> Int) -> Prop)  : Prop := Ts 4 (K0 iw ii ik)
def adG (iw:Nat) (ii ik:Nat -> Int) : Prop := True
def dB (iw:Nat) (ii ik:Nat -> Int) : Nat := iw
def gX (iw:Nat) (ii ik:Nat -> Int) : (Nat -> Int) := ii
def dJ (iw:Nat) (ii ik:Nat -> Int) : (Nat -> Int) := ik
theorem avx (iw:Nat) (ii ik:Nat -> Int) {K0 : Nat -> (Nat -> Int) -> (Nat -> Int) -> Prop} (h : adG iw ii ik) (hK : K0 (dB iw ii ik) (gX iw ii ik) (dJ iw ii ik)) : amU iw ii ik K0  := by
 unfold amU adG dB gX dJ at *
 exact aH.2 hK
def y7 (ig:Nat) (cm ge:Nat -> Int) (j0:Nat) (jb l7:Int) (c x0 x1 : Int -> Prop)  : Prop := Ts 1 (cond (ilt l7 (ig:Int)) (Ts 1 (((0 <= l7 /\ l7 < (ig:Int)) /\ Ts 8 (cond (ine l7 jb) (Ts 5 ((((ig:Int) ≠ 0) /\ Ts 3 (cond (ine l7 (aB .i64 (au .i64 jb 1) (ig:Int))) (Ts 3 (((Ws ((gX ig cm ge) j0) ((dJ ig cm ge) j0) ((gX ig cm ge) (nxE (dB ig cm ge) j0)) ((dJ ig cm ge) (nxE (dB ig cm ge) j0)) (cm (Int.toNat l7)) (ge (Int.toNat l7))) /\ Ts 2 (cond (ile (NH ((gX ig cm ge) j0) ((dJ ig cm ge) j0) ((gX ig cm ge) (nxE (dB ig cm ge) j0)) ((dJ ig cm ge) (nxE (dB ig cm ge) j0)) (cm (Int.toNat l7)) (ge (Int.toNat l7))) 0) (Ts 1 (x1 l7)) (Ts 2 (c (au .i64 l7 1))))))) (Ts 3 (c (au .i64 l7 1))))))) (Ts 5 (c (au .i64 l7 1))))))) (x0 l7))
def lG (ig:Nat) (cm ge:Nat -> Int) (j0:Nat) (jb:Int) : Nat -> Int -> (Int -> Prop) -> (Int -> Prop) -> Prop
  | 0, _, _, _ => False
  | f + 1, w0, x0, x1 => y7 ig cm ge j0 jb w0 (fun u0 => lG ig cm ge j0 jb f u0 x0 x1) x0 x1 
theorem UO (ig:Nat) (cm ge:Nat -> Int) (j0:Nat) (jb l7:Int) {c c' : Int -> Prop} {x0 y0 : Int -> Prop} {x1 y1 : Int -> Prop} (hc : ∀ w0, c w0 -> c' w0) (h0 : ∀ o0, x0 o0 -> y0 o0) (h1 : ∀ o0, x1 o0 -> y1 o0) : y7 ig cm ge j0 jb l7 c x0 x1  -> y7 ig cm ge j0 jb l7 c' y0 y1  := by
  unfold y7
  repeat' first
    | exact hc _
    | exact h0 _
    | exact h1 _
    | refine dU ?_
    | refine cO ?_ ?_
    | refine cZ ?_
theorem NM (ig:Nat) (cm ge:Nat -> Int) (j0:Nat) (jb:Int) {x0 y0 : Int -> Prop} {x1 y1 : Int -> Prop} (h0 : ∀ o0, x0 o0 -> y0 o0) (h1 : ∀ o0, x1 o0 -> y1 o0) : ∀ (f:Nat) (l7:Int), lG ig cm ge j0 jb f l7 x0 x1 -> lG ig cm ge j0 jb f l7 y0 y1
  | 0, w0 => fun h => h
  | f + 1, w0 => UO ig cm ge j0 jb w0 (fun u0 => NM ig cm ge j0 jb h0 h1 f u0) h0 h1
def Dw (ig:Nat) (cm ge:Nat -> Int) : Nat := (dB ig cm ge)
def Dx (ig:Nat) (cm ge:Nat -> Int) : Prop := (dB ig cm ge) <= 1000000
def Ba (ig:Nat) (cm ge:Nat -> Int) (j0:Nat) (jb:Int) (c x0 : Int -> Prop) (l0 : Int -> (Int -> Prop) -> (Int -> Prop) -> Prop) : Prop := Ts 7 ((l0 0 (fun rb => Ts 3 (c (au .i64 jb 1))) (fun rb => x0 jb)))
def y8 (ig:Nat) (cm ge:Nat -> Int) : Nat -> Nat -> Int -> (Int -> Prop) -> (Int -> Prop) -> Prop
  | 0, _, w0, x0, _ => x0 w0
  | r + 1, j, w0, x0, x1 => Ba ig cm ge j w0 (fun u0 => y8 ig cm ge r (j + 1) u0 x0 x1) x1 (lG ig cm ge j w0 fuel)
theorem ahO (ig:Nat) (cm ge:Nat -> Int) (j0:Nat) (jb:Int) {c c' : Int -> Prop} {x0 y0 : Int -> Prop} (hc : ∀ w0, c w0 -> c' w0) (h0 : ∀ o0, x0 o0 -> y0 o0) : Ba ig cm ge j0 jb c x0 (lG ig cm ge j0 jb fuel) -> Ba ig cm ge j0 jb c' y0 (lG ig cm ge j0 jb fuel) := by
  unfold Ba
  repeat' first
    | exact hc _
    | exact h0 _
    | refine dU ?_
    | refine cO ?_ ?_
    | refine cZ ?_
    | refine NM _ _ _ _ _  (fun _ => ?_) (fun _ => ?_) _ _ 
theorem acg (ig:Nat) (cm ge:Nat -> Int) {x0 y0 : Int -> Prop} {x1 y1 : Int -> Prop} (h0 : ∀ o0, x0 o0 -> y0 o0) (h1 : ∀ o0, x1 o0 -> y1 o0) : ∀ (r j:Nat) (jb:Int), y8 ig cm ge r j jb x0 x1 -> y8 ig cm ge r j jb y0 y1
  | 0, j, w0 => h0 w0
  | r + 1, j, w0 => ahO ig cm ge j w0 (fun u0 => acg ig cm ge h0 h1 r (j + 1) u0) h1
def adH (ig:Nat) (cm ge:Nat -> Int) (K0 : Bool -> Prop) (l0 : Int -> (Int -> Prop) -> (Int -> Prop) -> Prop) : Prop := Ts 6 (cond (ilt (ig:Int) 3) (Ts 3 (K0 false)) (Ts 1 (((AZ ig cm ge) /\ Ts 2 (cond (!(jI ig cm ge)) (Ts 2 (K0 false)) (Ts 4 (((adG ig cm ge) /\ (l0 0 (fun pz => Ts 2 (K0 true)) (fun pz => Ts 1 (K0 false)))))))))))
theorem Gp {p q B : Int} (h1 : -B <= p) (h2 : p <= B) (h3 : -B <= q) (h4 : q <= B) : -(B * B) <= p * q /\ p * q <= B * B := by
  have hB : 0 <= B := by omega
  have e1 : p.natAbs <= B.natAbs := by omega
  have e2 : q.natAbs <= B.natAbs := by omega
  have e3 : (p * q).natAbs <= (B * B).natAbs := by rw [Int.natAbs_mul, Int.natAbs_mul]; exact Nat.mul_le_mul e1 e2
  have e4 : 0 <= B * B := Int.mul_nonneg hB hB
  omega
def Jo (a b:Nat -> Int) (i k j:Nat) : Int := (a k - a i) * (b j - b i) - (b k - b i) * (a j - a i)
theorem WC {x0 y0 x1 y1 x2 y2 : Int} (h0 : dM x0 y0 = true) (h1 : dM x1 y1 = true) (h2 : dM x2 y2 = true) : NH x0 y0 x1 y1 x2 y2 = (x1 - x0) * (y2 - y0) - (y1 - y0) * (x2 - x0) := by
  rw [gJ] at h0 h1 h2
  unfold NH Gi bY bZ
  rw [gI (a := x1) (by omega) (by omega), gI (a := y2) (by omega) (by omega), gI (a := y1) (by omega) (by omega), gI (a := x2) (by omega) (by omega)]
  have m1 := Gp (p := x1 - x0) (q := y2 - y0) (B := 4194304) (by omega) (by omega) (by omega) (by omega)
  have m2 := Gp (p := y1 - y0) (q := x2 - x0) (B := 4194304) (by omega) (by omega) (by omega) (by omega)
  rw [kQ (a := x1 - x0) (by omega) (by omega), kQ (a := y1 - y0) (by omega) (by omega), gI (by omega) (by omega)]
def ach (n:Nat) (a b:Nat -> Int) (i:Nat) : Prop := ∀ j, j < n -> j ≠ i -> j ≠ nxE n i -> 0 < Jo a b i (nxE n i) j
def KH (n:Nat) (a b:Nat -> Int) : Prop := (∀ k, k < n -> dM (a k) (b k) = true) /\ ∀ i, i < n -> ach n a b i
theorem y9 {n i : Nat} (h : i < n) : nxE n i < n := by unfold nxE; split <;> omega
theorem amV {n i : Nat} (h : i < n) (hn : n <= 1000000) : aB .i64 (au .i64 (i:Int) 1) (n:Int) = ((nxE n i:Nat):Int) := by
  rw [fF (by omega) (by omega), rC]
  show ((i:Int) + 1).tmod (n:Int) = _
  rw [Int.tmod_eq_emod_of_nonneg (by omega)]
  unfold nxE
  split
  . rw [Int.emod_eq_of_lt (by omega) (by omega)]; omega
  . have : (i:Int) + 1 = n := by omega
    rw [this, Int.emod_self]; rfl
open Classical in
def Oz (n:Nat) (a b:Nat -> Int) : Bool := decide (3 <= n /\ KH n a b)
def Jp (n:Nat) (a b:Nat -> Int) : Prop := n <= 1000000 /\ ∀ k, k < n -> I64 (a k) /\ I64 (b k)
def oJ (n:Nat) (a b:Nat -> Int) : Bool := Oz n a b
theorem BO {n : Nat} {a b : Nat -> Int} : Oz n a b = true ↔ (3 <= n /\ KH n a b) := by unfold Oz; simp
theorem OA {n : Nat} {a b : Nat -> Int} (h : ¬ (3 <= n /\ KH n a b)) : Oz n a b = false := by
  cases hf : Oz n a b with
  | false => rfl
  | true => exact absurd (BO.1 hf) h
theorem OB {n : Nat} {a b : Nat -> Int} (hn : n <= 1000000) (hv : ∀ k, k < n -> dM (a k) (b k) = true) {i : Nat} (hi : i < n) {x0 x1 : Int -> Prop} : ∀ (f j:Nat), j <= n -> n < f + j -> ((∀ j', j <= j' -> j' < n -> j' ≠ i -> j' ≠ nxE n i -> 0 < Jo a b i (nxE n i) j') -> ∀ v, x0 v) -> (¬ ach n a b i -> ∀ v, x1 v) ->
    lG n a b i i f j x0 x1
  | 0, j, h1, h2, _, _ => by omega
  | f + 1, j, h1, h2, h3, h4 => by
    show y7 n a b i i j _ _ _
    unfold y7 dB gX dJ
    simp only [aH, true_and, Int.toNat_natCast, Nat.zero_add]
    refine aC (fun hc => ?_) (fun hc => ?_)
    . rw [dY] at hc
      have hj : j < n := by omega
      have next : (j ≠ i -> j ≠ nxE n i -> 0 < Jo a b i (nxE n i) j) -> lG n a b i i f (au .i64 (j:Int) 1) x0 x1 := fun hh => by
        rw [fF (by omega) (by omega)]
        refine OB hn hv hi f (j + 1) (by omega) (by omega) (fun h => h3 fun j' hj1 hj2 => ?_) h4
        by_cases hk : j' = j
        . subst hk; exact hh
        . exact h j' (by omega) hj2
      refine ⟨⟨by omega, hc⟩, aC (fun he => ?_) (fun he => ?_)⟩
      . rw [tY] at he
        refine ⟨by omega, ?_⟩
        rw [amV hi hn]
        refine aC (fun hf => ?_) (fun hf => ?_)
        . rw [tY] at hf
          have ht := WC (hv i hi) (hv _ (y9 hi)) (hv j hj)
          refine ⟨trivial, aC (fun hg => ?_) (fun hg => ?_)⟩
          . rw [Xy, ht] at hg
            refine h4 (fun hr => ?_) _
            have := hr j hj (by omega) (by omega)
            unfold Jo at this
            omega
          . rw [Qh, ht] at hg
            exact next (fun _ _ => hg)
        . rw [tZ] at hf
          exact next (fun _ h => absurd (by omega) h)
      . rw [tZ] at he
        exact next (fun h _ => absurd (by omega) h)
    . exact h3 (fun j' hj1 hj2 => by rw [fJ] at hc; omega) _
theorem UQ {n : Nat} {a b : Nat -> Int} (hn : n <= 1000000) (hv : ∀ k, k < n -> dM (a k) (b k) = true) {x0 x1 : Int -> Prop} : ∀ (r k:Nat), r + k = n -> ((∀ i, k <= i -> i < n -> ach n a b i) -> ∀ v, x0 v) -> (∀ i, i < n -> ¬ ach n a b i -> ∀ v, x1 v) -> y8 n a b r k k x0 x1
  | 0, k, h1, h2, _ => h2 (fun i h h' => by omega) _
  | r + 1, k, h1, h2, h3 => by
    show Ba n a b k k _ _ _
    unfold Ba
    simp only [aH]
    refine OB hn hv (by omega) fuel 0 (Nat.zero_le _) (by rw [gW]; omega) (fun hh v => ?_) (fun hr v => h3 k (by omega) hr _)
    rw [fF (by omega) (by omega)]
    refine UQ hn hv r (k + 1) (by omega) (fun h => h2 fun i hi1 hi2 => ?_) h3
    by_cases hik : i = k
    . subst hik; exact fun j hj => hh j (Nat.zero_le _) hj
    . exact h i (by omega) hi2
theorem avy (ig:Nat) (cm ge:Nat -> Int) {K0 : Bool -> Prop} (h : Jp ig cm ge) (hK : K0 (oJ ig cm ge)) : adH ig cm ge K0 (fun p0 y0 y1 => Dx ig cm ge  /\ y8 ig cm ge  (Dw ig cm ge ) 0 p0 y0 y1) := by
  have no : ¬ (3 <= ig /\ KH ig cm ge) -> K0 false := fun hh => by
    unfold oJ at hK
    rw [OA hh] at hK
    exact hK
  have hn := h.1
  unfold adH
  simp only [aH]
  refine aC (fun hc => ?_) (fun hc => ?_)
  . rw [dY] at hc
    exact no (fun hh => by omega)
  . rw [fJ] at hc
    refine ⟨h, aC (fun hf => ?_) (fun hf => ?_)⟩
    . refine no (fun hh => ?_)
      have : jI ig cm ge = true := qE.2 hh.2.1
      rw [this] at hf
      cases hf
    . have hv : ∀ k, k < ig -> dM (cm k) (ge k) = true := by
        cases hh : jI ig cm ge with
        | true => exact qE.1 hh
        | false => rw [hh] at hf; cases hf
      refine ⟨trivial, hn, ?_⟩
      refine UQ hn hv _ 0 rfl (fun hh v => ?_) (fun i hi hr v => no (fun hh => hr (hh.2.2 i hi)))
      unfold oJ at hK
      rw [BO.2 ⟨by omega, hv, fun i hi => hh i (Nat.zero_le _) hi⟩] at hK
      exact hK
def ug (g h:Nat -> Int) : Nat -> Option (Int × Int × Int × Int × Int)
  | 0 => some (-1, 0, 1, 1, 1)
  | k + 1 => match ug g h k with
    | none => none
    | some (i, a, b, c, d) =>
      if g k < 0 then
        if h k < 0 then none
        else if i < 0 \/ 0 < AX (-(g k) * b) (a * (h k - g k)) then some ((k:Int), -(g k), h k - g k, c, d) else some (i, a, b, c, d)
      else if h k < 0 /\ AX (g k * d) (c * (g k - h k)) < 0 then some (i, a, b, g k, g k - h k) else some (i, a, b, c, d)
theorem SN {g h : Nat -> Int} {k : Nat} (hk : ug g h k = none) : ∀ {n : Nat}, k <= n -> ug g h n = none
  | 0, hn => by have : k = 0 := by omega
                subst this; exact hk
  | n + 1, hn => by
    by_cases e : k = n + 1
    . subst e; exact hk
    . unfold ug; rw [SN hk (n := n) (by omega)]
theorem KI {g h : Nat -> Int} {B : Int} (hB : 1 <= B) {n : Nat} (hg : ∀ k, k < n -> -B <= g k /\ g k <= B) (hh : ∀ k, k < n -> -B <= h k /\ h k <= B) : ∀ {k : Nat}, k <= n -> ∀ {i a b c d : Int}, ug g h k = some (i, a, b, c, d) -> (i = -1 /\ a = 0 /\ b = 1 \/ 0 <= i /\ i < (k:Int) /\ 0 < a /\ a <= B /\ 0 < b /\ b <= 2 * B /\ a <= b /\ a = -(g i.toNat) /\ b = h i.toNat - g i.toNat) /\ 0 <= c /\ c <= B /\ 0 < d /\ d <= 2 * B
  | 0, _, i, a, b, c, d, e => by
    unfold ug at e
    cases e
    omega
  | k + 1, hk, i, a, b, c, d, e => by
    unfold ug at e
    have g1 := hg k (by omega)
    have h1 := hh k (by omega)
    cases hc : ug g h k with
    | none => rw [hc] at e; cases e
    | some s =>
      obtain ⟨i0, a0, b0, c0, d0⟩ := s
      have ih := KI hB hg hh (k := k) (by omega) hc
      rw [hc] at e
      simp only at e
      split at e
      . split at e
        . cases e
        . split at e
          . simp only [Option.some.injEq, Prod.mk.injEq] at e
            obtain ⟨rfl, rfl, rfl, rfl, rfl⟩ := e
            refine ⟨.inr ⟨by omega, by omega, by omega, by omega, by omega, by omega, by omega, by rw [Int.toNat_natCast], by rw [Int.toNat_natCast]⟩, by omega⟩
          . simp only [Option.some.injEq, Prod.mk.injEq] at e
            obtain ⟨rfl, rfl, rfl, rfl, rfl⟩ := e
            refine ⟨ih.1.imp id (fun ⟨x1, x2, x3⟩ => ⟨x1, by omega, x3⟩), ih.2⟩
      . split at e
        . simp only [Option.some.injEq, Prod.mk.injEq] at e
          obtain ⟨rfl, rfl, rfl, rfl, rfl⟩ := e
          refine ⟨ih.1.imp id (fun ⟨x1, x2, x3⟩ => ⟨x1, by omega, x3⟩), by omega⟩
        . simp only [Option.some.injEq, Prod.mk.injEq] at e
          obtain ⟨rfl, rfl, rfl, rfl, rfl⟩ := e
          refine ⟨ih.1.imp id (fun ⟨x1, x2, x3⟩ => ⟨x1, by omega, x3⟩), ih.2⟩
theorem OC {g h g' h' : Nat -> Int} : ∀ {n : Nat}, (∀ k, k < n -> g k = g' k /\ h k = h' k) -> ug g h n = ug g' h' n
  | 0, _ => rfl
  | n + 1, e => by
    unfold ug
    rw [OC (fun k hk => e k (by omega)), (e n (by omega)).1, (e n (by omega)).2]
def aci (g h:Nat -> Int) (n:Nat) : Option (Nat × Int × Int) := match ug g h n with
  | none => none
  | some (i, a, b, c, d) => if i < 0 \/ 0 < AX (a * d) (c * b) then none else some (i.toNat, a, b)
def gT (n:Nat) (a b:Nat -> Int) (px py:Int) (j:Nat) : Int := (a (nxE n j) - a j) * (py - b j) - (b (nxE n j) - b j) * (px - a j)
theorem OD {n : Nat} {a b : Nat -> Int} {px py : Int} {j : Nat} (hj : j < n) (hv : ∀ k, k < n -> dM (a k) (b k) = true) (hp : dM px py = true) : -35184372088832 <= gT n a b px py j /\ gT n a b px py j <= 35184372088832 := by
  have h0 := hv j hj
  have h1 := hv _ (y9 hj)
  rw [gJ] at h0 h1 hp
  unfold gT
  have m1 := Gp (p := a (nxE n j) - a j) (q := py - b j) (B := 4194304) (by omega) (by omega) (by omega) (by omega)
  have m2 := Gp (p := b (nxE n j) - b j) (q := px - a j) (B := 4194304) (by omega) (by omega) (by omega) (by omega)
  omega
def am0 (cm ge a1:Int) (K0 : Int -> Int -> Int -> Int -> Prop)  : Prop := Ts 21 (K0 (bQ .i64 cm a1) (bQ .i64 ge a1) (au .i64 cm a1) (au .i64 ge a1))
def afV (cm ge a1:Int) : Prop := True
def qU (cm ge a1:Int) : Int := (bQ .i64 cm a1)
def AA (cm ge a1:Int) : Int := (bQ .i64 ge a1)
def AL (cm ge a1:Int) : Int := (au .i64 cm a1)
def AO (cm ge a1:Int) : Int := (au .i64 ge a1)
theorem avF (cm ge a1:Int) {K0 : Int -> Int -> Int -> Int -> Prop} (h : afV cm ge a1) (hK : K0 (qU cm ge a1) (AA cm ge a1) (AL cm ge a1) (AO cm ge a1)) : am0 cm ge a1 K0  := by
 unfold am0 afV qU AA AL AO at *
 exact aH.2 hK
def alZ (cm im ip ij:Int) (i6:Nat) (i7 i8:Nat -> Int) (K0 : Int -> Prop)  : Prop := Ts 9 (cond (!(ieq cm 1)) (Ts 5 (cond (ine cm 2) (Ts 1 (K0 8)) (Ts 3 (((AZ 1 (fun _ => im) (fun _ => ip)) /\ Ts 2 (cond (!(jI 1 (fun _ => im) (fun _ => ip))) (Ts 3 (K0 3)) (Ts 2 (((AZ i6 i7 i8) /\ Ts 3 (cond (!(jI i6 i7 i8)) (Ts 1 (K0 3)) (Ts 2 (cond (ieq cm 1) (Ts 5 (cond (igt ij 0) (Ts 4 (cond (igt ij 2097152) (Ts 4 (K0 3)) (Ts 4 (((afV im ip ij) /\ ((Vr (qU im ip ij) (AA im ip ij) (AL im ip ij) (AO im ip ij)) /\ Ts 4 (cond (ine (yJ (qU im ip ij) (AA im ip ij) (AL im ip ij) (AO im ip ij)) 0) (Ts 1 (K0 3)) (Ts 2 (cond (ieq cm 1) (Ts 4 (cond (ilt ij 1) (Ts 4 (K0 5)) (Ts 7 (cond (igt (i6:Int) 0) (Ts 1 (K0 5)) (Ts 3 (cond (!(ieq cm 1)) (Ts 4 (cond (ine ij 0) (Ts 6 (K0 5)) (Ts 6 (cond (igt (i6:Int) 8) (Ts 4 (K0 5)) (Ts 2 (((Jp i6 i7 i8) /\ Ts 4 (cond (!(oJ i6 i7 i8)) (Ts 1 (K0 5)) (Ts 1 (K0 0)))))))))) (Ts 3 (K0 0)))))))) (Ts 5 (cond (!(ieq cm 1)) (Ts 4 (cond (ine ij 0) (Ts 6 (K0 5)) (Ts 6 (cond (igt (i6:Int) 8) (Ts 4 (K0 5)) (Ts 2 (((Jp i6 i7 i8) /\ Ts 4 (cond (!(oJ i6 i7 i8)) (Ts 1 (K0 5)) (Ts 1 (K0 0)))))))))) (Ts 3 (K0 0))))))))))))) (Ts 4 (cond (ieq cm 1) (Ts 4 (cond (ilt ij 1) (Ts 4 (K0 5)) (Ts 7 (cond (igt (i6:Int) 0) (Ts 1 (K0 5)) (Ts 3 (cond (!(ieq cm 1)) (Ts 4 (cond (ine ij 0) (Ts 6 (K0 5)) (Ts 6 (cond (igt (i6:Int) 8) (Ts 4 (K0 5)) (Ts 2 (((Jp i6 i7 i8) /\ Ts 4 (cond (!(oJ i6 i7 i8)) (Ts 1 (K0 5)) (Ts 1 (K0 0)))))))))) (Ts 3 (K0 0)))))))) (Ts 5 (cond (!(ieq cm 1)) (Ts 4 (cond (ine ij 0) (Ts 6 (K0 5)) (Ts 6 (cond (igt (i6:Int) 8) (Ts 4 (K0 5)) (Ts 2 (((Jp i6 i7 i8) /\ Ts 4 (cond (!(oJ i6 i7 i8)) (Ts 1 (K0 5)) (Ts 1 (K0 0)))))))))) (Ts 3 (K0 0)))))))) (Ts 6 (cond (ieq cm 1) (Ts 4 (cond (ilt ij 1) (Ts 4 (K0 5)) (Ts 7 (cond (igt (i6:Int) 0) (Ts 1 (K0 5)) (Ts 3 (cond (!(ieq cm 1)) (Ts 4 (cond (ine ij 0) (Ts 6 (K0 5)) (Ts 6 (cond (igt (i6:Int) 8) (Ts 4 (K0 5)) (Ts 2 (((Jp i6 i7 i8) /\ Ts 4 (cond (!(oJ i6 i7 i8)) (Ts 1 (K0 5)) (Ts 1 (K0 0)))))))))) (Ts 3 (K0 0)))))))) (Ts 5 (cond (!(ieq cm 1)) (Ts 4 (cond (ine ij 0) (Ts 6 (K0 5)) (Ts 6 (cond (igt (i6:Int) 8) (Ts 4 (K0 5)) (Ts 2 (((Jp i6 i7 i8) /\ Ts 4 (cond (!(oJ i6 i7 i8)) (Ts 1 (K0 5)) (Ts 1 (K0 0)))))))))) (Ts 3 (K0 0)))))))))))))))))) (Ts 5 (((AZ 1 (fun _ => im) (fun _ => ip)) /\ Ts 2 (cond (!(jI 1 (fun _ => im) (fun _ => ip))) (Ts 3 (K0 3)) (Ts 2 (((AZ i6 i7 i8) /\ Ts 3 (cond (!(jI i6 i7 i8)) (Ts 1 (K0 3)) (Ts 2 (cond (ieq cm 1) (Ts 5 (cond (igt ij 0) (Ts 4 (cond (igt ij 2097152) (Ts 4 (K0 3)) (Ts 4 (((afV im ip ij) /\ ((Vr (qU im ip ij) (AA im ip ij) (AL im ip ij) (AO im ip ij)) /\ Ts 4 (cond (ine (yJ (qU im ip ij) (AA im ip ij) (AL im ip ij) (AO im ip ij)) 0) (Ts 1 (K0 3)) (Ts 2 (cond (ieq cm 1) (Ts 4 (cond (ilt ij 1) (Ts 4 (K0 5)) (Ts 7 (cond (igt (i6:Int) 0) (Ts 1 (K0 5)) (Ts 3 (cond (!(ieq cm 1)) (Ts 4 (cond (ine ij 0) (Ts 6 (K0 5)) (Ts 6 (cond (igt (i6:Int) 8) (Ts 4 (K0 5)) (Ts 2 (((Jp i6 i7 i8) /\ Ts 4 (cond (!(oJ i6 i7 i8)) (Ts 1 (K0 5)) (Ts 1 (K0 0)))))))))) (Ts 3 (K0 0)))))))) (Ts 5 (cond (!(ieq cm 1)) (Ts 4 (cond (ine ij 0) (Ts 6 (K0 5)) (Ts 6 (cond (igt (i6:Int) 8) (Ts 4 (K0 5)) (Ts 2 (((Jp i6 i7 i8) /\ Ts 4 (cond (!(oJ i6 i7 i8)) (Ts 1 (K0 5)) (Ts 1 (K0 0)))))))))) (Ts 3 (K0 0))))))))))))) (Ts 4 (cond (ieq cm 1) (Ts 4 (cond (ilt ij 1) (Ts 4 (K0 5)) (Ts 7 (cond (igt (i6:Int) 0) (Ts 1 (K0 5)) (Ts 3 (cond (!(ieq cm 1)) (Ts 4 (cond (ine ij 0) (Ts 6 (K0 5)) (Ts 6 (cond (igt (i6:Int) 8) (Ts 4 (K0 5)) (Ts 2 (((Jp i6 i7 i8) /\ Ts 4 (cond (!(oJ i6 i7 i8)) (Ts 1 (K0 5)) (Ts 1 (K0 0)))))))))) (Ts 3 (K0 0)))))))) (Ts 5 (cond (!(ieq cm 1)) (Ts 4 (cond (ine ij 0) (Ts 6 (K0 5)) (Ts 6 (cond (igt (i6:Int) 8) (Ts 4 (K0 5)) (Ts 2 (((Jp i6 i7 i8) /\ Ts 4 (cond (!(oJ i6 i7 i8)) (Ts 1 (K0 5)) (Ts 1 (K0 0)))))))))) (Ts 3 (K0 0)))))))) (Ts 6 (cond (ieq cm 1) (Ts 4 (cond (ilt ij 1) (Ts 4 (K0 5)) (Ts 7 (cond (igt (i6:Int) 0) (Ts 1 (K0 5)) (Ts 3 (cond (!(ieq cm 1)) (Ts 4 (cond (ine ij 0) (Ts 6 (K0 5)) (Ts 6 (cond (igt (i6:Int) 8) (Ts 4 (K0 5)) (Ts 2 (((Jp i6 i7 i8) /\ Ts 4 (cond (!(oJ i6 i7 i8)) (Ts 1 (K0 5)) (Ts 1 (K0 0)))))))))) (Ts 3 (K0 0)))))))) (Ts 5 (cond (!(ieq cm 1)) (Ts 4 (cond (ine ij 0) (Ts 6 (K0 5)) (Ts 6 (cond (igt (i6:Int) 8) (Ts 4 (K0 5)) (Ts 2 (((Jp i6 i7 i8) /\ Ts 4 (cond (!(oJ i6 i7 i8)) (Ts 1 (K0 5)) (Ts 1 (K0 0)))))))))) (Ts 3 (K0 0)))))))))))))))))
theorem acj (x y:Int) : I64 (bQ .i64 x y) := by
  rw [O8]
  unfold I64
  simp only [IntKind.wrap_i64]
  omega
theorem KJ (x y:Int) : I64 (au .i64 x y) := by
  rw [JH]
  unfold I64
  simp only [IntKind.wrap_i64]
  omega
def OE (k ba bb c:Int) (n:Nat) (da db:Nat -> Int) : Prop := (I64 k /\ I64 ba /\ I64 bb /\ I64 c) /\ n <= 1000000 /\ ∀ j, j < n -> I64 (da j) /\ I64 (db j)
def F5 (k ba bb c:Int) (n:Nat) (da db:Nat -> Int) : Prop := OE k ba bb c n da db
def mG (k ba bb c:Int) (n:Nat) (da db:Nat -> Int) : Int := cond (!(ieq k 1) && ine k 2) 8 (cond (!(jI 1 (fun _ => ba) (fun _ => bb))) 3 (cond (!(jI n da db)) 3 (cond (ieq k 1) (cond (igt c 0 && (igt c 2097152 || ine (yJ (qU ba bb c) (AA ba bb c) (AL ba bb c) (AO ba bb c)) 0)) 3 (cond (ilt c 1) 5 (cond (igt (n:Int) 0) 5 0))) (cond (ine c 0) 5 (cond (igt (n:Int) 8) 5 (cond (!(oJ n da db)) 5 0))))))
theorem auA (k ba bb c:Int) (n:Nat) (da db:Nat -> Int) {K0 : Int -> Prop} (h : F5 k ba bb c n da db) (hK : K0 (mG k ba bb c n da db)) : alZ k ba bb c n da db K0 := by
  obtain ⟨⟨h1, h2, h3, h4⟩, h5, h6⟩ := h
  have pf1 : AZ 1 (fun _ => ba) (fun _ => bb) := ⟨by omega, fun _ _ => ⟨h2, h3⟩⟩
  have pf2 : AZ n da db := ⟨h5, h6⟩
  have pf3 : Jp n da db := ⟨h5, h6⟩
  have pf4 : Vr (qU ba bb c) (AA ba bb c) (AL ba bb c) (AO ba bb c) := ⟨by omega, fun k hk => by
    have : k = 0 \/ k = 1 := by omega
    rcases this with rfl | rfl
    . exact ⟨acj _ _, acj _ _⟩
    . exact ⟨KJ _ _, KJ _ _⟩⟩
  unfold mG at hK
  unfold alZ
  simp only [aH, true_and]
  repeat' first
    | exact hK
    | (refine aC (fun hc => ?_) (fun hc => ?_) <;> (try simp only [Bool.not_eq_true', Bool.not_eq_false'] at hc) <;> (try simp only [hc, cond_true, cond_false, Bool.not_true, Bool.not_false, Bool.true_and, Bool.and_true, Bool.false_and, Bool.and_false, Bool.true_or, Bool.or_true, Bool.false_or, Bool.or_false] at hK) <;> (try simp only [hc, cond_true, cond_false, Bool.not_true, Bool.not_false]))
    | (refine ⟨pf1, ?_⟩)
    | (refine ⟨pf2, ?_⟩)
    | (refine ⟨pf3, ?_⟩)
    | (refine ⟨pf4, ?_⟩)
    | (refine ⟨trivial, ?_⟩)
    | (refine ⟨rfl, ?_⟩)
def amY (cm im ip ij:Int) (i6:Nat) (i7 i8:Nat -> Int) (K0:Prop) (K1 : Int -> Int -> Int -> Prop) (K2 : Nat -> (Nat -> Int) -> (Nat -> Int) -> Prop)  : Prop := Ts 3 (((F5 cm im ip ij i6 i7 i8) /\ Ts 1 (cond (ine (mG cm im ip ij i6 i7 i8) 0) (Ts 1 (K0 )) (Ts 3 (cond (ieq cm 1) (Ts 7 (K1 im ip ij)) (Ts 5 (K2 i6 i7 i8)))))))
def adI (cm im ip ij:Int) (i6:Nat) (i7 i8:Nat -> Int) : Prop := (F5 cm im ip ij i6 i7 i8)
def sN (cm im ip ij:Int) (i6:Nat) (i7 i8:Nat -> Int) : Bool := (cond (ine (mG cm im ip ij i6 i7 i8) 0) true false)
def sO (cm im ip ij:Int) (i6:Nat) (i7 i8:Nat -> Int) : Bool := (cond (ine (mG cm im ip ij i6 i7 i8) 0) false (cond (ieq cm 1) true false))
def kK (cm im ip ij:Int) (i6:Nat) (i7 i8:Nat -> Int) : Int := im
def kL (cm im ip ij:Int) (i6:Nat) (i7 i8:Nat -> Int) : Int := ip
def kM (cm im ip ij:Int) (i6:Nat) (i7 i8:Nat -> Int) : Int := ij
def jR (cm im ip ij:Int) (i6:Nat) (i7 i8:Nat -> Int) : Nat := i6
def jS (cm im ip ij:Int) (i6:Nat) (i7 i8:Nat -> Int) : (Nat -> Int) := i7
def jT (cm im ip ij:Int) (i6:Nat) (i7 i8:Nat -> Int) : (Nat -> Int) := i8
theorem avC (cm im ip ij:Int) (i6:Nat) (i7 i8:Nat -> Int) {K0 : Prop} {K1 : Int -> Int -> Int -> Prop} {K2 : Nat -> (Nat -> Int) -> (Nat -> Int) -> Prop} (h : adI cm im ip ij i6 i7 i8) (hK : cond (sN cm im ip ij i6 i7 i8) (K0 ) (cond (sO cm im ip ij i6 i7 i8) (K1 (kK cm im ip ij i6 i7 i8) (kL cm im ip ij i6 i7 i8) (kM cm im ip ij i6 i7 i8)) (K2 (jR cm im ip ij i6 i7 i8) (jS cm im ip ij i6 i7 i8) (jT cm im ip ij i6 i7 i8)))) : amY cm im ip ij i6 i7 i8 K0 K1 K2  := by
 unfold amY adI sN sO kK kL kM jR jS jT at *
 simp only [aH, true_and]; try simp only [aH, true_and] at h
 repeat' first | exact hK | (refine aC (fun c => ?_) (fun c => ?_) <;> try simp only [c, cond_true, cond_false] at h hK ⊢) | refine ⟨rfl, ?_⟩ | refine ⟨trivial, ?_⟩ | refine ⟨by decide, ?_⟩ | (refine ⟨h.1, ?_⟩; replace h := h.2) | refine ⟨h, ?_⟩
def Dy (iw:Nat) (ii ik:Nat -> Int) (ic ie:Int) : Nat := (dB iw ii ik)
def Dz (iw:Nat) (ii ik:Nat -> Int) (ic ie:Int) : Prop := (dB iw ii ik) <= 1000000
def Jq (iw:Nat) (ii ik:Nat -> Int) (ic ie:Int) (j0:Nat)  (c x0:Prop)  : Prop := Ts 7 (((Ws ((gX iw ii ik) j0) ((dJ iw ii ik) j0) ((gX iw ii ik) (nxE (dB iw ii ik) j0)) ((dJ iw ii ik) (nxE (dB iw ii ik) j0)) ic ie) /\ Ts 1 (cond (ilt (NH ((gX iw ii ik) j0) ((dJ iw ii ik) j0) ((gX iw ii ik) (nxE (dB iw ii ik) j0)) ((dJ iw ii ik) (nxE (dB iw ii ik) j0)) ic ie) 0) (Ts 1 (x0 )) (c ))))
def zf (iw:Nat) (ii ik:Nat -> Int) (ic ie:Int) : Nat -> Nat -> (Prop) -> (Prop) -> Prop
  | 0, _, x0, _ => x0 
  | r + 1, j, x0, x1 => Jq iw ii ik ic ie j  (zf iw ii ik ic ie r (j + 1)  x0 x1) x1 
theorem acn (iw:Nat) (ii ik:Nat -> Int) (ic ie:Int) (j0:Nat)  {c c' : Prop} {x0 y0 : Prop} (hc : c -> c') (h0 : x0 -> y0) : Jq iw ii ik ic ie j0  c x0  -> Jq iw ii ik ic ie j0  c' y0  := by
  unfold Jq
  repeat' first
    | exact hc 
    | exact h0 
    | refine dU ?_
    | refine cO ?_ ?_
    | refine cZ ?_
theorem aco (iw:Nat) (ii ik:Nat -> Int) (ic ie:Int) {x0 y0 : Prop} {x1 y1 : Prop} (h0 : x0 -> y0) (h1 : x1 -> y1) : ∀ (r j:Nat) , zf iw ii ik ic ie r j  x0 x1 -> zf iw ii ik ic ie r j  y0 y1
  | 0, j => h0 
  | r + 1, j => acn iw ii ik ic ie j  (aco iw ii ik ic ie h0 h1 r (j + 1) ) h1
def adJ (iw:Nat) (ii ik:Nat -> Int) (ic ie:Int) (K0 : Bool -> Prop) (l0 : (Prop) -> (Prop) -> Prop) : Prop := Ts 4 (((adG iw ii ik) /\ (l0  (Ts 2 (K0 true)) (Ts 1 (K0 false)))))
def ahQ (n:Nat) (a b:Nat -> Int) (px py:Int) : Prop := n <= 1000000
def OG (n:Nat) (a b:Nat -> Int) (px py:Int) (j:Nat) : Bool := !(ilt (NH (a j) (b j) (a (nxE n j)) (b (nxE n j)) px py) 0)
def Bh (n:Nat) (a b:Nat -> Int) (px py:Int) : Bool := (List.range n).all fun j => OG n a b px py j
theorem acp {n : Nat} {a b : Nat -> Int} {px py : Int} : Bh n a b px py = true ↔ ∀ j, j < n -> OG n a b px py j = true := by
  unfold Bh
  rw [List.all_eq_true]
  exact ⟨fun h k hk => h k (List.mem_range.2 hk), fun h k hk => h k (List.mem_range.1 hk)⟩
theorem acr {n : Nat} {a b : Nat -> Int} {px py : Int} {x0 x1 : Prop} : ∀ (r k:Nat), r + k = n -> ((∀ j, k <= j -> j < n -> OG n a b px py j = true) -> x0) -> (∀ j, j < n -> OG n a b px py j = false -> x1) -> zf n a b px py r k x0 x1
  | 0, k, h1, h2, _ => h2 (fun j h h' => by omega)
  | r + 1, k, h1, h2, h3 => by
    show Jq n a b px py k _ _
    unfold Jq dB gX dJ
    simp only [aH]
    refine ⟨trivial, aC (fun hc => ?_) (fun hc => ?_)⟩
    . exact h3 k (by omega) (by unfold OG; rw [hc]; rfl)
    . refine acr r (k + 1) (by omega) (fun h => h2 fun j hj1 hj2 => ?_) h3
      by_cases hk : j = k
      . subst hk; unfold OG; rw [hc]; rfl
      . exact h j (by omega) hj2
theorem avD (iw:Nat) (ii ik:Nat -> Int) (ic ie:Int) {K0 : Bool -> Prop} (h : ahQ iw ii ik ic ie) (hK : K0 (Bh iw ii ik ic ie)) : adJ iw ii ik ic ie K0 (fun y0 y1 => Dz iw ii ik ic ie  /\ zf iw ii ik ic ie  (Dy iw ii ik ic ie ) 0  y0 y1) := by
  unfold adJ
  simp only [aH]
  refine ⟨trivial, h, acr _ 0 rfl (fun hh => ?_) (fun j hj hb => ?_)⟩
  . rw [acp.2 fun j hj => hh j (Nat.zero_le _) hj] at hK
    exact hK
  . have : Bh iw ii ik ic ie = false := by
      cases hf : Bh iw ii ik ic ie with
      | false => rfl
      | true => rw [acp.1 hf j hj] at hb; cases hb
    rw [this] at hK
    exact hK
def anb (cm ge ic ie:Int) (K0 : Int -> Prop)  : Prop := Ts 15 (K0 (au .i64 (aI .i64 cm ic) (aI .i64 ge ie)))
def ZQ (cm ge ic ie:Int) : Prop := True
def D6 (cm ge ic ie:Int) : Int := (au .i64 (aI .i64 cm ic) (aI .i64 ge ie))
theorem avR (cm ge ic ie:Int) {K0 : Int -> Prop} (h : ZQ cm ge ic ie) (hK : K0 (D6 cm ge ic ie)) : anb cm ge ic ie K0  := by
 unfold anb ZQ D6 at *
 exact aH.2 hK
def alv (ii ik ge ic ie:Int) (K0 : Bool -> Prop)  : Prop := Ts 6 (((Wy ii ik ic ie) /\ Ts 4 (((ZQ (bY ii ik ic ie) (bZ ii ik ic ie) (bY ii ik ic ie) (bZ ii ik ic ie)) /\ Ts 7 ((true = true /\ K0 (ile (D6 (bY ii ik ic ie) (bZ ii ik ic ie) (bY ii ik ic ie) (bZ ii ik ic ie)) (aI .i64 ge ge))))))))
def YM (ii ik ge ic ie:Int) : Prop := True
def fE (ii ik ge ic ie:Int) : Bool := (ile (D6 (bY ii ik ic ie) (bZ ii ik ic ie) (bY ii ik ic ie) (bZ ii ik ic ie)) (aI .i64 ge ge))
theorem atT (ii ik ge ic ie:Int) {K0 : Bool -> Prop} (h : YM ii ik ge ic ie) (hK : K0 (fE ii ik ge ic ie)) : alv ii ik ge ic ie K0  := by
 unfold alv YM fE at *
 simp only [aH, true_and]
 repeat' first | exact hK | refine ⟨rfl, ?_⟩ | refine ⟨trivial, ?_⟩ | refine ⟨by decide, ?_⟩ | (refine ⟨h.1, ?_⟩; replace h := h.2) | refine ⟨h, ?_⟩
def ade (a0:Int) (K0 : Int -> Bool -> Prop)  : Prop := Ts 2 (((EM a0 256) /\ Ts 2 (K0 (iD a0 256) (mJ a0 256))))
def ahz (a0:Int) : Prop := (EM a0 256)
def FZ (a0:Int) : Int := (iD a0 256)
def II (a0:Int) : Bool := (mJ a0 256)
theorem auq (a0:Int) {K0 : Int -> Bool -> Prop} (h : ahz a0) (hK : K0 (FZ a0) (II a0)) : ade a0 K0  := by
 unfold ade ahz FZ II at *
 simp only [aH, true_and]; try simp only [aH, true_and] at h
 repeat' first | exact hK | refine ⟨rfl, ?_⟩ | refine ⟨trivial, ?_⟩ | refine ⟨by decide, ?_⟩ | (refine ⟨h.1, ?_⟩; replace h := h.2) | refine ⟨h, ?_⟩
theorem adK {x : Int} (hx : Num' x) : ahz x /\ Hl x 256 /\ FZ x = jG x 256 /\ II x = jW x 256 /\ Num' (jG x 256) := yQ hx n256
def aml (cm:Int) (ge:Bool) (K0 : Int -> Bool -> Prop)  : Prop := Ts 5 (((ahL 2 (ay 1 (fun _ => 0) cm) (ay 1 (fun _ => false) ge)) /\ Ts 2 (K0 (Jm 2 (ay 1 (fun _ => 0) cm) (ay 1 (fun _ => false) ge)) (Gg 2 (ay 1 (fun _ => 0) cm) (ay 1 (fun _ => false) ge)))))
def TU (cm:Int) (ge:Bool) : Prop := (ahL 2 (ay 1 (fun _ => 0) cm) (ay 1 (fun _ => false) ge))
def uM (cm:Int) (ge:Bool) : Int := (Jm 2 (ay 1 (fun _ => 0) cm) (ay 1 (fun _ => false) ge))
def SI (cm:Int) (ge:Bool) : Bool := (Gg 2 (ay 1 (fun _ => 0) cm) (ay 1 (fun _ => false) ge))
theorem auZ (cm:Int) (ge:Bool) {K0 : Int -> Bool -> Prop} (h : TU cm ge) (hK : K0 (uM cm ge) (SI cm ge)) : aml cm ge K0  := by
 unfold aml TU uM SI at *
 simp only [aH, true_and]; try simp only [aH, true_and] at h
 repeat' first | exact hK | refine ⟨rfl, ?_⟩ | refine ⟨trivial, ?_⟩ | refine ⟨by decide, ?_⟩ | (refine ⟨h.1, ?_⟩; replace h := h.2) | refine ⟨h, ?_⟩
theorem n0 : Num' 0 := ⟨by decide, by decide⟩
theorem Ya {x : Int} {f : Bool} (hx : Num' x) : TU x f /\ Fj 2 (ay 1 (fun _ => 0) x) (ay 1 (fun _ => false) f) /\ uM x f = vZ 2 (ay 1 (fun _ => 0) x) (ay 1 (fun _ => false) f) /\ SI x f = wo 2 (ay 1 (fun _ => 0) x) (ay 1 (fun _ => false) f) /\ Num' (vZ 2 (ay 1 (fun _ => 0) x) (ay 1 (fun _ => false) f)) := afy (by decide) (KE n0 hx)
def uQ (ic ie il io:Int) : Int := (D6 (bY ic ie il io) (bZ ic ie il io) (bY ic ie il io) (bZ ic ie il io))
def jP (ii ik ic ie il io:Int) : Int := (D6 (bY ii ik ic ie) (bZ ii ik ic ie) (bY ic ie il io) (bZ ic ie il io))
def WE (ii ik ic ie:Int) : Int := (D6 (bY ii ik ic ie) (bZ ii ik ic ie) (bY ii ik ic ie) (bZ ii ik ic ie))
def zh (ii ik ic ie il io ge:Int) : Int := (FX (jP ii ik ic ie il io) (jP ii ik ic ie il io) (uQ ic ie il io) (bQ .i64 (WE ii ik ic ie) (aI .i64 ge ge)))
def kS (ii ik ic ie:Int) : Int := (dQ (bY ii ik ic ie) (bZ ii ik ic ie))
def kT (ii ik ic ie:Int) : Bool := (dR (bY ii ik ic ie) (bZ ii ik ic ie))
def kU (ii ik ic ie:Int) : Int := (Ny (bY ii ik ic ie) (bZ ii ik ic ie))
def kV (ii ik ic ie:Int) : Bool := (Nz (bY ii ik ic ie) (bZ ii ik ic ie))
def jX (ic ie il io:Int) : Int := (dQ (bY ic ie il io) (bZ ic ie il io))
def jY (ic ie il io:Int) : Bool := (dR (bY ic ie il io) (bZ ic ie il io))
def iM (ic ie il io:Int) : Int := (Ny (bY ic ie il io) (bZ ic ie il io))
def iO (ic ie il io:Int) : Bool := (Nz (bY ic ie il io) (bZ ic ie il io))
def oV (ic ie il io:Int) : Int := (iE (jX ic ie il io) (jY ic ie il io) (iM ic ie il io) (iO ic ie il io))
def oW (ic ie il io:Int) : Bool := (iR (jX ic ie il io) (jY ic ie il io) (iM ic ie il io) (iO ic ie il io))
def oZ (ic ie il io:Int) : Int := (CO (jX ic ie il io) (jY ic ie il io) (iM ic ie il io) (iO ic ie il io))
def pF (ic ie il io:Int) : Bool := (CP (jX ic ie il io) (jY ic ie il io) (iM ic ie il io) (iO ic ie il io))
def pG (ic ie il io ii ik:Int) : Int := (Gh (oV ic ie il io) (oW ic ie il io) (oZ ic ie il io) (pF ic ie il io) (kS ii ik ic ie) (kT ii ik ic ie) (kU ii ik ic ie) (kV ii ik ic ie))
def pI (ic ie il io ii ik:Int) : Bool := (NC (oV ic ie il io) (oW ic ie il io) (oZ ic ie il io) (pF ic ie il io) (kS ii ik ic ie) (kT ii ik ic ie) (kU ii ik ic ie) (kV ii ik ic ie))
def zy (ge:Int) : Int := (Am (FZ ge) (II ge) (FZ ge) (II ge))
def zA (ge:Int) : Bool := (sV (FZ ge) (II ge) (FZ ge) (II ge))
def zB (ic ie il io ii ik:Int) : Int := (Am (pG ic ie il io ii ik) (pI ic ie il io ii ik) (pG ic ie il io ii ik) (pI ic ie il io ii ik))
def zC (ic ie il io ii ik:Int) : Bool := (sV (pG ic ie il io ii ik) (pI ic ie il io ii ik) (pG ic ie il io ii ik) (pI ic ie il io ii ik))
def zD (ge ic ie il io ii ik:Int) : Int := (rG (zy ge) (zA ge) (zB ic ie il io ii ik) (zC ic ie il io ii ik))
def zF (ge ic ie il io ii ik:Int) : Bool := (FY (zy ge) (zA ge) (zB ic ie il io ii ik) (zC ic ie il io ii ik))
def zG (ge ic ie il io ii ik:Int) : Int := (uM (zD ge ic ie il io ii ik) (zF ge ic ie il io ii ik))
def zH (ge ic ie il io ii ik:Int) : Bool := (SI (zD ge ic ie il io ii ik) (zF ge ic ie il io ii ik))
def zI (ge ic ie il io ii ik:Int) : Int := (yC (zG ge ic ie il io ii ik) (zH ge ic ie il io ii ik))
def zJ (ge ic ie il io ii ik:Int) : Bool := (Au (zG ge ic ie il io ii ik) (zH ge ic ie il io ii ik))
def GL (ic ie il io ii ik:Int) : Int := (Gs (oV ic ie il io) (oW ic ie il io) (oZ ic ie il io) (pF ic ie il io) (kS ii ik ic ie) (kT ii ik ic ie) (kU ii ik ic ie) (kV ii ik ic ie))
def GN (ic ie il io ii ik:Int) : Bool := (SH (oV ic ie il io) (oW ic ie il io) (oZ ic ie il io) (pF ic ie il io) (kS ii ik ic ie) (kT ii ik ic ie) (kU ii ik ic ie) (kV ii ik ic ie))
def zK (ic ie il io ii ik:Int) : Int := (oD (GL ic ie il io ii ik) (GN ic ie il io ii ik))
def zL (ic ie il io ii ik:Int) : Bool := (oG (GL ic ie il io ii ik) (GN ic ie il io ii ik))
def zM (ic ie il io ii ik ge:Int) : Int := (rG (zK ic ie il io ii ik) (zL ic ie il io ii ik) (zI ge ic ie il io ii ik) (zJ ge ic ie il io ii ik))
def zN (ic ie il io ii ik ge:Int) : Bool := (FY (zK ic ie il io ii ik) (zL ic ie il io ii ik) (zI ge ic ie il io ii ik) (zJ ge ic ie il io ii ik))
def zO (ic ie il io:Int) : Int := (dS (jX ic ie il io) (jY ic ie il io) (iM ic ie il io) (iO ic ie il io))
def zQ (ic ie il io:Int) : Bool := (dV (jX ic ie il io) (jY ic ie il io) (iM ic ie il io) (iO ic ie il io))
def zS (ic ie il io ii ik ge:Int) : Int := (Aj (zM ic ie il io ii ik ge) (zN ic ie il io ii ik ge) (zO ic ie il io) (zQ ic ie il io))
def zT (ic ie il io ii ik ge:Int) : Bool := (Ak (zM ic ie il io ii ik ge) (zN ic ie il io ii ik ge) (zO ic ie il io) (zQ ic ie il io))
def pJ (ic ie il io ii ik ge:Int) : Int := (Vy (zS ic ie il io ii ik ge) (zT ic ie il io ii ik ge) 0 false (qF 1) (oC 1))
def pK (ic ie il io ii ik ge:Int) : Bool := (Y2 (zS ic ie il io ii ik ge) (zT ic ie il io ii ik ge) 0 false (qF 1) (oC 1))
def uU (ic ie il io ii ik ge:Int) : Int := (Ja (jX ic ie il io) (jY ic ie il io) (iM ic ie il io) (iO ic ie il io) (pJ ic ie il io ii ik ge) (pK ic ie il io ii ik ge))
def uV (ic ie il io ii ik ge:Int) : Bool := (Sv (jX ic ie il io) (jY ic ie il io) (iM ic ie il io) (iO ic ie il io) (pJ ic ie il io ii ik ge) (pK ic ie il io ii ik ge))
def uX (ic ie il io ii ik ge:Int) : Int := (Sz (jX ic ie il io) (jY ic ie il io) (iM ic ie il io) (iO ic ie il io) (pJ ic ie il io ii ik ge) (pK ic ie il io ii ik ge))
def uY (ic ie il io ii ik ge:Int) : Bool := (SA (jX ic ie il io) (jY ic ie il io) (iM ic ie il io) (iO ic ie il io) (pJ ic ie il io ii ik ge) (pK ic ie il io ii ik ge))
def uZ (ii ik ic ie il io ge:Int) : Int := (qV 2 (ay 1 (fun _ => (kS ii ik ic ie)) (uU ic ie il io ii ik ge)) (ay 1 (fun _ => (kT ii ik ic ie)) (uV ic ie il io ii ik ge)) (ay 1 (fun _ => (kU ii ik ic ie)) (uX ic ie il io ii ik ge)) (ay 1 (fun _ => (kV ii ik ic ie)) (uY ic ie il io ii ik ge)))
def vg (ii ik ic ie il io ge:Int) : Bool := (qW 2 (ay 1 (fun _ => (kS ii ik ic ie)) (uU ic ie il io ii ik ge)) (ay 1 (fun _ => (kT ii ik ic ie)) (uV ic ie il io ii ik ge)) (ay 1 (fun _ => (kU ii ik ic ie)) (uX ic ie il io ii ik ge)) (ay 1 (fun _ => (kV ii ik ic ie)) (uY ic ie il io ii ik ge)))
def vk (ii ik ic ie il io ge:Int) : Int := (Wj 2 (ay 1 (fun _ => (kS ii ik ic ie)) (uU ic ie il io ii ik ge)) (ay 1 (fun _ => (kT ii ik ic ie)) (uV ic ie il io ii ik ge)) (ay 1 (fun _ => (kU ii ik ic ie)) (uX ic ie il io ii ik ge)) (ay 1 (fun _ => (kV ii ik ic ie)) (uY ic ie il io ii ik ge)))
def vw (ii ik ic ie il io ge:Int) : Bool := (Wn 2 (ay 1 (fun _ => (kS ii ik ic ie)) (uU ic ie il io ii ik ge)) (ay 1 (fun _ => (kT ii ik ic ie)) (uV ic ie il io ii ik ge)) (ay 1 (fun _ => (kU ii ik ic ie)) (uX ic ie il io ii ik ge)) (ay 1 (fun _ => (kV ii ik ic ie)) (uY ic ie il io ii ik ge)))
def GR (ii ik ic ie il io ge:Int) : Int := (iE (uZ ii ik ic ie il io ge) (vg ii ik ic ie il io ge) (vk ii ik ic ie il io ge) (vw ii ik ic ie il io ge))
def GU (ii ik ic ie il io ge:Int) : Bool := (iR (uZ ii ik ic ie il io ge) (vg ii ik ic ie il io ge) (vk ii ik ic ie il io ge) (vw ii ik ic ie il io ge))
def GV (ii ik ic ie il io ge:Int) : Int := (CO (uZ ii ik ic ie il io ge) (vg ii ik ic ie il io ge) (vk ii ik ic ie il io ge) (vw ii ik ic ie il io ge))
def GX (ii ik ic ie il io ge:Int) : Bool := (CP (uZ ii ik ic ie il io ge) (vg ii ik ic ie il io ge) (vk ii ik ic ie il io ge) (vw ii ik ic ie il io ge))
def am3 (ii ik ge ic ie il io:Int) (K0 : Bool -> Int -> Bool -> Int -> Bool -> Int -> Bool -> Prop)  : Prop := Ts 6 (((Wy ic ie il io) /\ Ts 3 (((Wy ii ik ic ie) /\ Ts 4 ((true = true /\ Ts 2 (((ZQ (bY ic ie il io) (bZ ic ie il io) (bY ic ie il io) (bZ ic ie il io)) /\ Ts 2 (((ZQ (bY ii ik ic ie) (bZ ii ik ic ie) (bY ic ie il io) (bZ ic ie il io)) /\ Ts 2 ((true = true /\ Ts 2 (((YM ii ik ge il io) /\ Ts 1 (cond (!(fE ii ik ge il io)) (Ts 3 (cond (ige (jP ii ik ic ie il io) 0) (Ts 4 (K0 false 0 false 0 false 0 false)) (Ts 5 (cond (ige (bM .i64 (jP ii ik ic ie il io)) (uQ ic ie il io)) (Ts 3 (K0 false 0 false 0 false 0 false)) (Ts 5 (((ZQ (bY ii ik ic ie) (bZ ii ik ic ie) (bY ii ik ic ie) (bZ ii ik ic ie)) /\ Ts 6 (((afb (jP ii ik ic ie il io) (jP ii ik ic ie il io) (uQ ic ie il io) (bQ .i64 (WE ii ik ic ie) (aI .i64 ge ge))) /\ Ts 1 ((true = true /\ cond (ilt (zh ii ik ic ie il io ge) 0) (Ts 3 (K0 false 0 false 0 false 0 false)) (Ts 1 (((NI (bY ii ik ic ie) (bZ ii ik ic ie)) /\ Ts 1 (((NI (bY ic ie il io) (bZ ic ie il io)) /\ Ts 2 (((ahz ge) /\ Ts 6 ((true = true /\ Ts 1 (((Fg (jX ic ie il io) (jY ic ie il io) (iM ic ie il io) (iO ic ie il io)) /\ Ts 8 (((VY (oV ic ie il io) (oW ic ie il io) (oZ ic ie il io) (pF ic ie il io) (kS ii ik ic ie) (kT ii ik ic ie) (kU ii ik ic ie) (kV ii ik ic ie)) /\ Ts 4 (((ae0 (FZ ge) (II ge) (FZ ge) (II ge)) /\ Ts 2 (((ae0 (pG ic ie il io ii ik) (pI ic ie il io ii ik) (pG ic ie il io ii ik) (pI ic ie il io ii ik)) /\ ((ahv (zy ge) (zA ge) (zB ic ie il io ii ik) (zC ic ie il io ii ik)) /\ ((TU (zD ge ic ie il io ii ik) (zF ge ic ie il io ii ik)) /\ ((Vl (zG ge ic ie il io ii ik) (zH ge ic ie il io ii ik)) /\ Ts 2 ((true = true /\ Ts 2 (((Zn (oV ic ie il io) (oW ic ie il io) (oZ ic ie il io) (pF ic ie il io) (kS ii ik ic ie) (kT ii ik ic ie) (kU ii ik ic ie) (kV ii ik ic ie)) /\ ((O1 (GL ic ie il io ii ik) (GN ic ie il io ii ik)) /\ Ts 1 (((ahv (zK ic ie il io ii ik) (zL ic ie il io ii ik) (zI ge ic ie il io ii ik) (zJ ge ic ie il io ii ik)) /\ Ts 1 (((Zc (jX ic ie il io) (jY ic ie il io) (iM ic ie il io) (iO ic ie il io)) /\ ((aeZ (zM ic ie il io ii ik ge) (zN ic ie il io ii ik ge) (zO ic ie il io) (zQ ic ie il io)) /\ Ts 2 ((true = true /\ Ts 2 (((X6 1) /\ ((ahy (zS ic ie il io ii ik ge) (zT ic ie il io ii ik ge) 0 false (qF 1) (oC 1)) /\ Ts 1 ((true = true /\ Ts 3 (((afJ (jX ic ie il io) (jY ic ie il io) (iM ic ie il io) (iO ic ie il io) (pJ ic ie il io ii ik ge) (pK ic ie il io ii ik ge)) /\ Ts 1 (((X8 2 (ay 1 (fun _ => (kS ii ik ic ie)) (uU ic ie il io ii ik ge)) (ay 1 (fun _ => (kT ii ik ic ie)) (uV ic ie il io ii ik ge)) (ay 1 (fun _ => (kU ii ik ic ie)) (uX ic ie il io ii ik ge)) (ay 1 (fun _ => (kV ii ik ic ie)) (uY ic ie il io ii ik ge))) /\ ((Fg (uZ ii ik ic ie il io ge) (vg ii ik ic ie il io ge) (vk ii ik ic ie il io ge) (vw ii ik ic ie il io ge)) /\ Ts 6 ((true = true /\ Ts 5 (K0 true (pJ ic ie il io ii ik ge) (pK ic ie il io ii ik ge) (GR ii ik ic ie il io ge) (GU ii ik ic ie il io ge) (GV ii ik ic ie il io ge) (GX ii ik ic ie il io ge))))))))))))))))))))))))))))))))))))))))))))))))))))))))) (Ts 1 (((NI (bY ii ik ic ie) (bZ ii ik ic ie)) /\ Ts 1 (((NI (bY ic ie il io) (bZ ic ie il io)) /\ Ts 2 (((ahz ge) /\ Ts 6 ((true = true /\ Ts 1 (((Fg (jX ic ie il io) (jY ic ie il io) (iM ic ie il io) (iO ic ie il io)) /\ Ts 8 (((VY (oV ic ie il io) (oW ic ie il io) (oZ ic ie il io) (pF ic ie il io) (kS ii ik ic ie) (kT ii ik ic ie) (kU ii ik ic ie) (kV ii ik ic ie)) /\ Ts 4 (((ae0 (FZ ge) (II ge) (FZ ge) (II ge)) /\ Ts 2 (((ae0 (pG ic ie il io ii ik) (pI ic ie il io ii ik) (pG ic ie il io ii ik) (pI ic ie il io ii ik)) /\ ((ahv (zy ge) (zA ge) (zB ic ie il io ii ik) (zC ic ie il io ii ik)) /\ ((TU (zD ge ic ie il io ii ik) (zF ge ic ie il io ii ik)) /\ ((Vl (zG ge ic ie il io ii ik) (zH ge ic ie il io ii ik)) /\ Ts 2 ((true = true /\ Ts 2 (((Zn (oV ic ie il io) (oW ic ie il io) (oZ ic ie il io) (pF ic ie il io) (kS ii ik ic ie) (kT ii ik ic ie) (kU ii ik ic ie) (kV ii ik ic ie)) /\ ((O1 (GL ic ie il io ii ik) (GN ic ie il io ii ik)) /\ Ts 1 (((ahv (zK ic ie il io ii ik) (zL ic ie il io ii ik) (zI ge ic ie il io ii ik) (zJ ge ic ie il io ii ik)) /\ Ts 1 (((Zc (jX ic ie il io) (jY ic ie il io) (iM ic ie il io) (iO ic ie il io)) /\ ((aeZ (zM ic ie il io ii ik ge) (zN ic ie il io ii ik ge) (zO ic ie il io) (zQ ic ie il io)) /\ Ts 2 ((true = true /\ Ts 2 (((X6 1) /\ ((ahy (zS ic ie il io ii ik ge) (zT ic ie il io ii ik ge) 0 false (qF 1) (oC 1)) /\ Ts 1 ((true = true /\ Ts 3 (((afJ (jX ic ie il io) (jY ic ie il io) (iM ic ie il io) (iO ic ie il io) (pJ ic ie il io ii ik ge) (pK ic ie il io ii ik ge)) /\ Ts 1 (((X8 2 (ay 1 (fun _ => (kS ii ik ic ie)) (uU ic ie il io ii ik ge)) (ay 1 (fun _ => (kT ii ik ic ie)) (uV ic ie il io ii ik ge)) (ay 1 (fun _ => (kU ii ik ic ie)) (uX ic ie il io ii ik ge)) (ay 1 (fun _ => (kV ii ik ic ie)) (uY ic ie il io ii ik ge))) /\ ((Fg (uZ ii ik ic ie il io ge) (vg ii ik ic ie il io ge) (vk ii ik ic ie il io ge) (vw ii ik ic ie il io ge)) /\ Ts 6 ((true = true /\ Ts 5 (K0 true (pJ ic ie il io ii ik ge) (pK ic ie il io ii ik ge) (GR ii ik ic ie il io ge) (GU ii ik ic ie il io ge) (GV ii ik ic ie il io ge) (GX ii ik ic ie il io ge)))))))))))))))))))))))))))))))))))))))))))))))))))))))))))))
def Yb (ii ik ge ic ie il io:Int) : Prop := (cond (!(fE ii ik ge il io)) (cond (ige (jP ii ik ic ie il io) 0) True (cond (ige (bM .i64 (jP ii ik ic ie il io)) (uQ ic ie il io)) True ((afb (jP ii ik ic ie il io) (jP ii ik ic ie il io) (uQ ic ie il io) (bQ .i64 (WE ii ik ic ie) (aI .i64 ge ge))) /\ (cond (ilt (zh ii ik ic ie il io ge) 0) True ((NI (bY ii ik ic ie) (bZ ii ik ic ie)) /\ ((NI (bY ic ie il io) (bZ ic ie il io)) /\ ((ahz ge) /\ ((Fg (jX ic ie il io) (jY ic ie il io) (iM ic ie il io) (iO ic ie il io)) /\ ((VY (oV ic ie il io) (oW ic ie il io) (oZ ic ie il io) (pF ic ie il io) (kS ii ik ic ie) (kT ii ik ic ie) (kU ii ik ic ie) (kV ii ik ic ie)) /\ ((ae0 (FZ ge) (II ge) (FZ ge) (II ge)) /\ ((ae0 (pG ic ie il io ii ik) (pI ic ie il io ii ik) (pG ic ie il io ii ik) (pI ic ie il io ii ik)) /\ ((ahv (zy ge) (zA ge) (zB ic ie il io ii ik) (zC ic ie il io ii ik)) /\ ((TU (zD ge ic ie il io ii ik) (zF ge ic ie il io ii ik)) /\ ((Vl (zG ge ic ie il io ii ik) (zH ge ic ie il io ii ik)) /\ ((Zn (oV ic ie il io) (oW ic ie il io) (oZ ic ie il io) (pF ic ie il io) (kS ii ik ic ie) (kT ii ik ic ie) (kU ii ik ic ie) (kV ii ik ic ie)) /\ ((ahv (zK ic ie il io ii ik) (zL ic ie il io ii ik) (zI ge ic ie il io ii ik) (zJ ge ic ie il io ii ik)) /\ ((Zc (jX ic ie il io) (jY ic ie il io) (iM ic ie il io) (iO ic ie il io)) /\ ((aeZ (zM ic ie il io ii ik ge) (zN ic ie il io ii ik ge) (zO ic ie il io) (zQ ic ie il io)) /\ ((ahy (zS ic ie il io ii ik ge) (zT ic ie il io ii ik ge) 0 false (qF 1) (oC 1)) /\ ((afJ (jX ic ie il io) (jY ic ie il io) (iM ic ie il io) (iO ic ie il io) (pJ ic ie il io ii ik ge) (pK ic ie il io ii ik ge)) /\ ((X8 2 (ay 1 (fun _ => (kS ii ik ic ie)) (uU ic ie il io ii ik ge)) (ay 1 (fun _ => (kT ii ik ic ie)) (uV ic ie il io ii ik ge)) (ay 1 (fun _ => (kU ii ik ic ie)) (uX ic ie il io ii ik ge)) (ay 1 (fun _ => (kV ii ik ic ie)) (uY ic ie il io ii ik ge))) /\ (Fg (uZ ii ik ic ie il io ge) (vg ii ik ic ie il io ge) (vk ii ik ic ie il io ge) (vw ii ik ic ie il io ge))))))))))))))))))))))) ((NI (bY ii ik ic ie) (bZ ii ik ic ie)) /\ ((NI (bY ic ie il io) (bZ ic ie il io)) /\ ((ahz ge) /\ ((Fg (jX ic ie il io) (jY ic ie il io) (iM ic ie il io) (iO ic ie il io)) /\ ((VY (oV ic ie il io) (oW ic ie il io) (oZ ic ie il io) (pF ic ie il io) (kS ii ik ic ie) (kT ii ik ic ie) (kU ii ik ic ie) (kV ii ik ic ie)) /\ ((ae0 (FZ ge) (II ge) (FZ ge) (II ge)) /\ ((ae0 (pG ic ie il io ii ik) (pI ic ie il io ii ik) (pG ic ie il io ii ik) (pI ic ie il io ii ik)) /\ ((ahv (zy ge) (zA ge) (zB ic ie il io ii ik) (zC ic ie il io ii ik)) /\ ((TU (zD ge ic ie il io ii ik) (zF ge ic ie il io ii ik)) /\ ((Vl (zG ge ic ie il io ii ik) (zH ge ic ie il io ii ik)) /\ ((Zn (oV ic ie il io) (oW ic ie il io) (oZ ic ie il io) (pF ic ie il io) (kS ii ik ic ie) (kT ii ik ic ie) (kU ii ik ic ie) (kV ii ik ic ie)) /\ ((ahv (zK ic ie il io ii ik) (zL ic ie il io ii ik) (zI ge ic ie il io ii ik) (zJ ge ic ie il io ii ik)) /\ ((Zc (jX ic ie il io) (jY ic ie il io) (iM ic ie il io) (iO ic ie il io)) /\ ((aeZ (zM ic ie il io ii ik ge) (zN ic ie il io ii ik ge) (zO ic ie il io) (zQ ic ie il io)) /\ ((ahy (zS ic ie il io ii ik ge) (zT ic ie il io ii ik ge) 0 false (qF 1) (oC 1)) /\ ((afJ (jX ic ie il io) (jY ic ie il io) (iM ic ie il io) (iO ic ie il io) (pJ ic ie il io ii ik ge) (pK ic ie il io ii ik ge)) /\ ((X8 2 (ay 1 (fun _ => (kS ii ik ic ie)) (uU ic ie il io ii ik ge)) (ay 1 (fun _ => (kT ii ik ic ie)) (uV ic ie il io ii ik ge)) (ay 1 (fun _ => (kU ii ik ic ie)) (uX ic ie il io ii ik ge)) (ay 1 (fun _ => (kV ii ik ic ie)) (uY ic ie il io ii ik ge))) /\ (Fg (uZ ii ik ic ie il io ge) (vg ii ik ic ie il io ge) (vk ii ik ic ie il io ge) (vw ii ik ic ie il io ge))))))))))))))))))))
def NP (ii ik ge ic ie il io:Int) : Bool := (cond (!(fE ii ik ge il io)) (cond (ige (jP ii ik ic ie il io) 0) false (cond (ige (bM .i64 (jP ii ik ic ie il io)) (uQ ic ie il io)) false (cond (ilt (zh ii ik ic ie il io ge) 0) false true))) true)
def NQ (ii ik ge ic ie il io:Int) : Int := (cond (!(fE ii ik ge il io)) (cond (ige (jP ii ik ic ie il io) 0) 0 (cond (ige (bM .i64 (jP ii ik ic ie il io)) (uQ ic ie il io)) 0 (cond (ilt (zh ii ik ic ie il io ge) 0) 0 (pJ ic ie il io ii ik ge)))) (pJ ic ie il io ii ik ge))
def NR (ii ik ge ic ie il io:Int) : Bool := (cond (!(fE ii ik ge il io)) (cond (ige (jP ii ik ic ie il io) 0) false (cond (ige (bM .i64 (jP ii ik ic ie il io)) (uQ ic ie il io)) false (cond (ilt (zh ii ik ic ie il io ge) 0) false (pK ic ie il io ii ik ge)))) (pK ic ie il io ii ik ge))
def NS (ii ik ge ic ie il io:Int) : Int := (cond (!(fE ii ik ge il io)) (cond (ige (jP ii ik ic ie il io) 0) 0 (cond (ige (bM .i64 (jP ii ik ic ie il io)) (uQ ic ie il io)) 0 (cond (ilt (zh ii ik ic ie il io ge) 0) 0 (GR ii ik ic ie il io ge)))) (GR ii ik ic ie il io ge))
def NT (ii ik ge ic ie il io:Int) : Bool := (cond (!(fE ii ik ge il io)) (cond (ige (jP ii ik ic ie il io) 0) false (cond (ige (bM .i64 (jP ii ik ic ie il io)) (uQ ic ie il io)) false (cond (ilt (zh ii ik ic ie il io ge) 0) false (GU ii ik ic ie il io ge)))) (GU ii ik ic ie il io ge))
def NU (ii ik ge ic ie il io:Int) : Int := (cond (!(fE ii ik ge il io)) (cond (ige (jP ii ik ic ie il io) 0) 0 (cond (ige (bM .i64 (jP ii ik ic ie il io)) (uQ ic ie il io)) 0 (cond (ilt (zh ii ik ic ie il io ge) 0) 0 (GV ii ik ic ie il io ge)))) (GV ii ik ic ie il io ge))
def NV (ii ik ge ic ie il io:Int) : Bool := (cond (!(fE ii ik ge il io)) (cond (ige (jP ii ik ic ie il io) 0) false (cond (ige (bM .i64 (jP ii ik ic ie il io)) (uQ ic ie il io)) false (cond (ilt (zh ii ik ic ie il io ge) 0) false (GX ii ik ic ie il io ge)))) (GX ii ik ic ie il io ge))
theorem avI (ii ik ge ic ie il io:Int) {K0 : Bool -> Int -> Bool -> Int -> Bool -> Int -> Bool -> Prop} (h : Yb ii ik ge ic ie il io) (hK : K0 (NP ii ik ge ic ie il io) (NQ ii ik ge ic ie il io) (NR ii ik ge ic ie il io) (NS ii ik ge ic ie il io) (NT ii ik ge ic ie il io) (NU ii ik ge ic ie il io) (NV ii ik ge ic ie il io)) : am3 ii ik ge ic ie il io K0  := by
 unfold am3 Yb NP NQ NR NS NT NU NV at *
 simp only [aH, true_and]; try simp only [aH, true_and] at h
 repeat' first | exact hK | (refine aC (fun c => ?_) (fun c => ?_) <;> try simp only [c, cond_true, cond_false] at h hK ⊢) | refine ⟨rfl, ?_⟩ | refine ⟨trivial, ?_⟩ | refine ⟨by decide, ?_⟩ | (refine ⟨h.1, ?_⟩; replace h := h.2) | refine ⟨h, ?_⟩
def adl (cm ge:Int) (K0 : Int -> Bool -> Int -> Bool -> Prop)  : Prop := Ts 6 (((ap0 cm ge) /\ Ts 2 (K0 (af0 cm ge) (ZP cm ge) (af2 cm ge) (af4 cm ge))))
def TS (cm ge:Int) : Prop := True
def uJ (cm ge:Int) : Int := (af0 cm ge)
def uK (cm ge:Int) : Bool := (ZP cm ge)
def sQ (cm ge:Int) : Int := (af2 cm ge)
def sS (cm ge:Int) : Bool := (af4 cm ge)
theorem auH (cm ge:Int) {K0 : Int -> Bool -> Int -> Bool -> Prop} (h : TS cm ge) (hK : K0 (uJ cm ge) (uK cm ge) (sQ cm ge) (sS cm ge)) : adl cm ge K0  := by
 unfold adl TS uJ uK sQ sS at *
 simp only [aH, true_and]
 repeat' first | exact hK | refine ⟨rfl, ?_⟩ | refine ⟨trivial, ?_⟩ | refine ⟨by decide, ?_⟩ | (refine ⟨h.1, ?_⟩; replace h := h.2) | refine ⟨h, ?_⟩
def amL (cm ge ic ie:Int) (K0 : Int -> Bool -> Int -> Bool -> Prop)  : Prop := Ts 5 (((Wy cm ge ic ie) /\ Ts 8 (((TS (bZ cm ge ic ie) (bM .i64 (bY cm ge ic ie))) /\ ((Fg (uJ (bZ cm ge ic ie) (bM .i64 (bY cm ge ic ie))) (uK (bZ cm ge ic ie) (bM .i64 (bY cm ge ic ie))) (sQ (bZ cm ge ic ie) (bM .i64 (bY cm ge ic ie))) (sS (bZ cm ge ic ie) (bM .i64 (bY cm ge ic ie)))) /\ Ts 9 (K0 (iE (uJ (bZ cm ge ic ie) (bM .i64 (bY cm ge ic ie))) (uK (bZ cm ge ic ie) (bM .i64 (bY cm ge ic ie))) (sQ (bZ cm ge ic ie) (bM .i64 (bY cm ge ic ie))) (sS (bZ cm ge ic ie) (bM .i64 (bY cm ge ic ie)))) (iR (uJ (bZ cm ge ic ie) (bM .i64 (bY cm ge ic ie))) (uK (bZ cm ge ic ie) (bM .i64 (bY cm ge ic ie))) (sQ (bZ cm ge ic ie) (bM .i64 (bY cm ge ic ie))) (sS (bZ cm ge ic ie) (bM .i64 (bY cm ge ic ie)))) (CO (uJ (bZ cm ge ic ie) (bM .i64 (bY cm ge ic ie))) (uK (bZ cm ge ic ie) (bM .i64 (bY cm ge ic ie))) (sQ (bZ cm ge ic ie) (bM .i64 (bY cm ge ic ie))) (sS (bZ cm ge ic ie) (bM .i64 (bY cm ge ic ie)))) (CP (uJ (bZ cm ge ic ie) (bM .i64 (bY cm ge ic ie))) (uK (bZ cm ge ic ie) (bM .i64 (bY cm ge ic ie))) (sQ (bZ cm ge ic ie) (bM .i64 (bY cm ge ic ie))) (sS (bZ cm ge ic ie) (bM .i64 (bY cm ge ic ie))))))))))
def Wx (cm ge ic ie:Int) : Prop := (Fg (uJ (bZ cm ge ic ie) (bM .i64 (bY cm ge ic ie))) (uK (bZ cm ge ic ie) (bM .i64 (bY cm ge ic ie))) (sQ (bZ cm ge ic ie) (bM .i64 (bY cm ge ic ie))) (sS (bZ cm ge ic ie) (bM .i64 (bY cm ge ic ie))))
def nN (cm ge ic ie:Int) : Int := (iE (uJ (bZ cm ge ic ie) (bM .i64 (bY cm ge ic ie))) (uK (bZ cm ge ic ie) (bM .i64 (bY cm ge ic ie))) (sQ (bZ cm ge ic ie) (bM .i64 (bY cm ge ic ie))) (sS (bZ cm ge ic ie) (bM .i64 (bY cm ge ic ie))))
def CQ (cm ge ic ie:Int) : Bool := (iR (uJ (bZ cm ge ic ie) (bM .i64 (bY cm ge ic ie))) (uK (bZ cm ge ic ie) (bM .i64 (bY cm ge ic ie))) (sQ (bZ cm ge ic ie) (bM .i64 (bY cm ge ic ie))) (sS (bZ cm ge ic ie) (bM .i64 (bY cm ge ic ie))))
def CS (cm ge ic ie:Int) : Int := (CO (uJ (bZ cm ge ic ie) (bM .i64 (bY cm ge ic ie))) (uK (bZ cm ge ic ie) (bM .i64 (bY cm ge ic ie))) (sQ (bZ cm ge ic ie) (bM .i64 (bY cm ge ic ie))) (sS (bZ cm ge ic ie) (bM .i64 (bY cm ge ic ie))))
def Dt (cm ge ic ie:Int) : Bool := (CP (uJ (bZ cm ge ic ie) (bM .i64 (bY cm ge ic ie))) (uK (bZ cm ge ic ie) (bM .i64 (bY cm ge ic ie))) (sQ (bZ cm ge ic ie) (bM .i64 (bY cm ge ic ie))) (sS (bZ cm ge ic ie) (bM .i64 (bY cm ge ic ie))))
theorem avq (cm ge ic ie:Int) {K0 : Int -> Bool -> Int -> Bool -> Prop} (h : Wx cm ge ic ie) (hK : K0 (nN cm ge ic ie) (CQ cm ge ic ie) (CS cm ge ic ie) (Dt cm ge ic ie)) : amL cm ge ic ie K0  := by
 unfold amL Wx nN CQ CS Dt at *
 simp only [aH, true_and]; try simp only [aH, true_and] at h
 repeat' first | exact hK | refine ⟨rfl, ?_⟩ | refine ⟨trivial, ?_⟩ | refine ⟨by decide, ?_⟩ | (refine ⟨h.1, ?_⟩; replace h := h.2) | refine ⟨h, ?_⟩
theorem UR {x0 y0 x1 y1 : Int} (h0 : dM x0 y0 = true) (h1 : dM x1 y1 = true) : Wx x0 y0 x1 y1 /\ ahE x0 y0 x1 y1 /\ nN x0 y0 x1 y1 = Np x0 y0 x1 y1 /\ CQ x0 y0 x1 y1 = abm x0 y0 x1 y1 /\ CS x0 y0 x1 y1 = Wp x0 y0 x1 y1 /\ Dt x0 y0 x1 y1 = abn x0 y0 x1 y1 /\ Num' (Np x0 y0 x1 y1) /\ Num' (Wp x0 y0 x1 y1) := by
  rw [gJ] at h0 h1
  have e1 : bQ .i64 y1 y0 = y1 - y0 := gI (by omega) (by omega)
  have e2 : bQ .i64 x1 x0 = x1 - x0 := gI (by omega) (by omega)
  have e3 : bQ .i64 x0 x1 = x0 - x1 := gI (by omega) (by omega)
  have e4 : bM .i64 (x1 - x0) = x0 - x1 := by rw [rF (by omega) (by omega)]; omega
  unfold Wx ahE nN CQ CS Dt Np abm Wp abn
  unfold bY bZ
  rw [e1, e2, e3, e4]
  obtain ⟨a1, a2, a3, a4, a5⟩ := afr (v := y1 - y0) ⟨by omega, by omega⟩
  obtain ⟨b1, b2, b3, b4, b5⟩ := afr (v := x0 - x1) ⟨by omega, by omega⟩
  have g0 : uJ (y1 - y0) (x0 - x1) = SB (y1 - y0) (x0 - x1) := a3
  have g1 : uK (y1 - y0) (x0 - x1) = SC (y1 - y0) (x0 - x1) := a4
  have g2 : sQ (y1 - y0) (x0 - x1) = ND (y1 - y0) (x0 - x1) := b3
  have g3 : sS (y1 - y0) (x0 - x1) = I4 (y1 - y0) (x0 - x1) := b4
  rw [g0, g1, g2, g3]
  obtain ⟨u1, u2, u3, u4, u5, u6, u7, u8, u9⟩ := Wq (f := SC (y1 - y0) (x0 - x1)) (g := I4 (y1 - y0) (x0 - x1)) a5 b5
  exact ⟨u1, u2, u3, u4, u5, u6, u8, u9⟩
def aog (cm ge ic ie:Int) (K0 : Bool -> Prop)  : Prop := Ts 11 (((afb cm ie ic ge) /\ Ts 2 (K0 (igt (FX cm ie ic ge) 0))))
def Vt (cm ge ic ie:Int) : Prop := (afb cm ie ic ge)
def gK (cm ge ic ie:Int) : Bool := (igt (FX cm ie ic ge) 0)
theorem aw8 (cm ge ic ie:Int) {K0 : Bool -> Prop} (h : Vt cm ge ic ie) (hK : K0 (gK cm ge ic ie)) : aog cm ge ic ie K0  := by
 unfold aog Vt gK at *
 simp only [aH, true_and]; try simp only [aH, true_and] at h
 repeat' first | exact hK | refine ⟨rfl, ?_⟩ | refine ⟨trivial, ?_⟩ | refine ⟨by decide, ?_⟩ | (refine ⟨h.1, ?_⟩; replace h := h.2) | refine ⟨h, ?_⟩
def iI (iw:Nat) (ii ik:Nat -> Int) (j0:Nat) (ic ie:Int) : Int := (NH ((gX iw ii ik) j0) ((dJ iw ii ik) j0) ((gX iw ii ik) (nxE (dB iw ii ik) j0)) ((dJ iw ii ik) (nxE (dB iw ii ik) j0)) ic ie)
def oK (iw:Nat) (ii ik:Nat -> Int) (j0:Nat) (il io:Int) : Int := (NH ((gX iw ii ik) j0) ((dJ iw ii ik) j0) ((gX iw ii ik) (nxE (dB iw ii ik) j0)) ((dJ iw ii ik) (nxE (dB iw ii ik) j0)) il io)
def Zp (iw:Nat) (ii ik:Nat -> Int) (j0:Nat) (ic ie il io:Int) : Int := (iD (iI iw ii ik j0 ic ie) (bQ .i64 (iI iw ii ik j0 ic ie) (oK iw ii ik j0 il io)))
def Zq (iw:Nat) (ii ik:Nat -> Int) (j0:Nat) (ic ie il io:Int) : Bool := (mJ (iI iw ii ik j0 ic ie) (bQ .i64 (iI iw ii ik j0 ic ie) (oK iw ii ik j0 il io)))
def Zr (iw:Nat) (ii ik:Nat -> Int) (j0:Nat) : Int := (nN ((gX iw ii ik) j0) ((dJ iw ii ik) j0) ((gX iw ii ik) (nxE (dB iw ii ik) j0)) ((dJ iw ii ik) (nxE (dB iw ii ik) j0)))
def Zt (iw:Nat) (ii ik:Nat -> Int) (j0:Nat) : Bool := (CQ ((gX iw ii ik) j0) ((dJ iw ii ik) j0) ((gX iw ii ik) (nxE (dB iw ii ik) j0)) ((dJ iw ii ik) (nxE (dB iw ii ik) j0)))
def Zu (iw:Nat) (ii ik:Nat -> Int) (j0:Nat) : Int := (CS ((gX iw ii ik) j0) ((dJ iw ii ik) j0) ((gX iw ii ik) (nxE (dB iw ii ik) j0)) ((dJ iw ii ik) (nxE (dB iw ii ik) j0)))
def Zv (iw:Nat) (ii ik:Nat -> Int) (j0:Nat) : Bool := (Dt ((gX iw ii ik) j0) ((dJ iw ii ik) j0) ((gX iw ii ik) (nxE (dB iw ii ik) j0)) ((dJ iw ii ik) (nxE (dB iw ii ik) j0)))
def WG (iw:Nat) (ii ik:Nat -> Int) (j0:Nat) (ic ie il io kw kx:Int) : Bool := (gK (bM .i64 (iI iw ii ik j0 ic ie)) (bQ .i64 (oK iw ii ik j0 il io) (iI iw ii ik j0 ic ie)) kw kx)
def WH (ln lp:Int) (iw:Nat) (ii ik:Nat -> Int) (j0:Nat) (ic ie il io:Int) : Bool := (gK ln lp (iI iw ii ik j0 ic ie) (bQ .i64 (iI iw ii ik j0 ic ie) (oK iw ii ik j0 il io)))
def DK (iw:Nat) (ii ik:Nat -> Int) (ic ie il io:Int) : Nat := (dB iw ii ik)
def DL (iw:Nat) (ii ik:Nat -> Int) (ic ie il io:Int) : Prop := (dB iw ii ik) <= 1000000
def Jr (iw:Nat) (ii ik:Nat -> Int) (ic ie il io:Int) (j0:Nat) (kw kx ln lp:Int) (l8:Bool) (l9:Int) (ma:Bool) (mb:Int) (mc:Bool) (md:Int) (me:Bool) (c x0 : Int -> Int -> Int -> Int -> Bool -> Int -> Bool -> Int -> Bool -> Int -> Bool -> Prop)  : Prop := Ts 7 (((Ws ((gX iw ii ik) j0) ((dJ iw ii ik) j0) ((gX iw ii ik) (nxE (dB iw ii ik) j0)) ((dJ iw ii ik) (nxE (dB iw ii ik) j0)) ic ie) /\ Ts 3 (((Ws ((gX iw ii ik) j0) ((dJ iw ii ik) j0) ((gX iw ii ik) (nxE (dB iw ii ik) j0)) ((dJ iw ii ik) (nxE (dB iw ii ik) j0)) il io) /\ Ts 2 ((true = true /\ Ts 3 (cond (ilt (iI iw ii ik j0 ic ie) 0) (Ts 4 (cond (ilt (oK iw ii ik j0 il io) 0) (Ts 2 (x0 kw kx ln lp l8 l9 ma mb mc md me)) (Ts 3 (cond (ilt (iI iw ii ik j0 ic ie) 0) (Ts 10 (((Vt (bM .i64 (iI iw ii ik j0 ic ie)) (bQ .i64 (oK iw ii ik j0 il io) (iI iw ii ik j0 ic ie)) kw kx) /\ cond (WG iw ii ik j0 ic ie il io kw kx) (Ts 6 (((EM (iI iw ii ik j0 ic ie) (bQ .i64 (iI iw ii ik j0 ic ie) (oK iw ii ik j0 il io))) /\ Ts 2 (((Wx ((gX iw ii ik) j0) ((dJ iw ii ik) j0) ((gX iw ii ik) (nxE (dB iw ii ik) j0)) ((dJ iw ii ik) (nxE (dB iw ii ik) j0))) /\ Ts 2 ((true = true /\ c (bM .i64 (iI iw ii ik j0 ic ie)) (bQ .i64 (oK iw ii ik j0 il io) (iI iw ii ik j0 ic ie)) ln lp true (Zp iw ii ik j0 ic ie il io) (Zq iw ii ik j0 ic ie il io) (Zr iw ii ik j0) (Zt iw ii ik j0) (Zu iw ii ik j0) (Zv iw ii ik j0)))))))) (c kw kx ln lp l8 l9 ma mb mc md me)))) (Ts 3 (cond (ilt (oK iw ii ik j0 il io) 0) (Ts 9 (((Vt ln lp (iI iw ii ik j0 ic ie) (bQ .i64 (iI iw ii ik j0 ic ie) (oK iw ii ik j0 il io))) /\ cond (WH ln lp iw ii ik j0 ic ie il io) (Ts 2 (c kw kx (iI iw ii ik j0 ic ie) (bQ .i64 (iI iw ii ik j0 ic ie) (oK iw ii ik j0 il io)) l8 l9 ma mb mc md me)) (c kw kx ln lp l8 l9 ma mb mc md me)))) (c kw kx ln lp l8 l9 ma mb mc md me))))))) (Ts 5 (cond (ilt (iI iw ii ik j0 ic ie) 0) (Ts 10 (((Vt (bM .i64 (iI iw ii ik j0 ic ie)) (bQ .i64 (oK iw ii ik j0 il io) (iI iw ii ik j0 ic ie)) kw kx) /\ cond (WG iw ii ik j0 ic ie il io kw kx) (Ts 6 (((EM (iI iw ii ik j0 ic ie) (bQ .i64 (iI iw ii ik j0 ic ie) (oK iw ii ik j0 il io))) /\ Ts 2 (((Wx ((gX iw ii ik) j0) ((dJ iw ii ik) j0) ((gX iw ii ik) (nxE (dB iw ii ik) j0)) ((dJ iw ii ik) (nxE (dB iw ii ik) j0))) /\ Ts 2 ((true = true /\ c (bM .i64 (iI iw ii ik j0 ic ie)) (bQ .i64 (oK iw ii ik j0 il io) (iI iw ii ik j0 ic ie)) ln lp true (Zp iw ii ik j0 ic ie il io) (Zq iw ii ik j0 ic ie il io) (Zr iw ii ik j0) (Zt iw ii ik j0) (Zu iw ii ik j0) (Zv iw ii ik j0)))))))) (c kw kx ln lp l8 l9 ma mb mc md me)))) (Ts 3 (cond (ilt (oK iw ii ik j0 il io) 0) (Ts 9 (((Vt ln lp (iI iw ii ik j0 ic ie) (bQ .i64 (iI iw ii ik j0 ic ie) (oK iw ii ik j0 il io))) /\ cond (WH ln lp iw ii ik j0 ic ie il io) (Ts 2 (c kw kx (iI iw ii ik j0 ic ie) (bQ .i64 (iI iw ii ik j0 ic ie) (oK iw ii ik j0 il io)) l8 l9 ma mb mc md me)) (c kw kx ln lp l8 l9 ma mb mc md me)))) (c kw kx ln lp l8 l9 ma mb mc md me))))))))))))
def zi (iw:Nat) (ii ik:Nat -> Int) (ic ie il io:Int) : Nat -> Nat -> Int -> Int -> Int -> Int -> Bool -> Int -> Bool -> Int -> Bool -> Int -> Bool -> (Int -> Int -> Int -> Int -> Bool -> Int -> Bool -> Int -> Bool -> Int -> Bool -> Prop) -> (Int -> Int -> Int -> Int -> Bool -> Int -> Bool -> Int -> Bool -> Int -> Bool -> Prop) -> Prop
  | 0, _, w0, w1, w2, w3, w4, w5, w6, w7, w8, w9, w10, x0, _ => x0 w0 w1 w2 w3 w4 w5 w6 w7 w8 w9 w10
  | r + 1, j, w0, w1, w2, w3, w4, w5, w6, w7, w8, w9, w10, x0, x1 => Jr iw ii ik ic ie il io j w0 w1 w2 w3 w4 w5 w6 w7 w8 w9 w10 (fun u0 u1 u2 u3 u4 u5 u6 u7 u8 u9 u10 => zi iw ii ik ic ie il io r (j + 1) u0 u1 u2 u3 u4 u5 u6 u7 u8 u9 u10 x0 x1) x1 
theorem acs (iw:Nat) (ii ik:Nat -> Int) (ic ie il io:Int) (j0:Nat) (kw kx ln lp:Int) (l8:Bool) (l9:Int) (ma:Bool) (mb:Int) (mc:Bool) (md:Int) (me:Bool) {c c' : Int -> Int -> Int -> Int -> Bool -> Int -> Bool -> Int -> Bool -> Int -> Bool -> Prop} {x0 y0 : Int -> Int -> Int -> Int -> Bool -> Int -> Bool -> Int -> Bool -> Int -> Bool -> Prop} (hc : ∀ w0 w1 w2 w3 w4 w5 w6 w7 w8 w9 w10, c w0 w1 w2 w3 w4 w5 w6 w7 w8 w9 w10 -> c' w0 w1 w2 w3 w4 w5 w6 w7 w8 w9 w10) (h0 : ∀ o0 o1 o2 o3 o4 o5 o6 o7 o8 o9 kv, x0 o0 o1 o2 o3 o4 o5 o6 o7 o8 o9 kv -> y0 o0 o1 o2 o3 o4 o5 o6 o7 o8 o9 kv) : Jr iw ii ik ic ie il io j0 kw kx ln lp l8 l9 ma mb mc md me c x0  -> Jr iw ii ik ic ie il io j0 kw kx ln lp l8 l9 ma mb mc md me c' y0  := by
  unfold Jr
  repeat' first
    | exact hc _ _ _ _ _ _ _ _ _ _ _
    | exact h0 _ _ _ _ _ _ _ _ _ _ _
    | refine dU ?_
    | refine cO ?_ ?_
    | refine cZ ?_
theorem acu (iw:Nat) (ii ik:Nat -> Int) (ic ie il io:Int) {x0 y0 : Int -> Int -> Int -> Int -> Bool -> Int -> Bool -> Int -> Bool -> Int -> Bool -> Prop} {x1 y1 : Int -> Int -> Int -> Int -> Bool -> Int -> Bool -> Int -> Bool -> Int -> Bool -> Prop} (h0 : ∀ o0 o1 o2 o3 o4 o5 o6 o7 o8 o9 kv, x0 o0 o1 o2 o3 o4 o5 o6 o7 o8 o9 kv -> y0 o0 o1 o2 o3 o4 o5 o6 o7 o8 o9 kv) (h1 : ∀ o0 o1 o2 o3 o4 o5 o6 o7 o8 o9 kv, x1 o0 o1 o2 o3 o4 o5 o6 o7 o8 o9 kv -> y1 o0 o1 o2 o3 o4 o5 o6 o7 o8 o9 kv) : ∀ (r j:Nat) (kw:Int) (kx:Int) (ln:Int) (lp:Int) (l8:Bool) (l9:Int) (ma:Bool) (mb:Int) (mc:Bool) (md:Int) (me:Bool), zi iw ii ik ic ie il io r j kw kx ln lp l8 l9 ma mb mc md me x0 x1 -> zi iw ii ik ic ie il io r j kw kx ln lp l8 l9 ma mb mc md me y0 y1
  | 0, j, w0, w1, w2, w3, w4, w5, w6, w7, w8, w9, w10 => h0 w0 w1 w2 w3 w4 w5 w6 w7 w8 w9 w10
  | r + 1, j, w0, w1, w2, w3, w4, w5, w6, w7, w8, w9, w10 => acs iw ii ik ic ie il io j w0 w1 w2 w3 w4 w5 w6 w7 w8 w9 w10 (fun u0 u1 u2 u3 u4 u5 u6 u7 u8 u9 u10 => acu iw ii ik ic ie il io h0 h1 r (j + 1) u0 u1 u2 u3 u4 u5 u6 u7 u8 u9 u10) h1
def adL (iw:Nat) (ii ik:Nat -> Int) (ic ie il io:Int) (K0 : Bool -> Int -> Bool -> Int -> Bool -> Int -> Bool -> Prop) (l0 : Int -> Int -> Int -> Int -> Bool -> Int -> Bool -> Int -> Bool -> Int -> Bool -> (Int -> Int -> Int -> Int -> Bool -> Int -> Bool -> Int -> Bool -> Int -> Bool -> Prop) -> (Int -> Int -> Int -> Int -> Bool -> Int -> Bool -> Int -> Bool -> Int -> Bool -> Prop) -> Prop) : Prop := Ts 12 (((adG iw ii ik) /\ (l0 (-1) 1 1 1 false 0 false 0 false 0 false (fun mz m7 qk qn qo qt qu qv qw qx qy => Ts 4 (cond (!qo) (Ts 4 (K0 false 0 false 0 false 0 false)) (Ts 2 (((Vt mz m7 qk qn) /\ Ts 1 (cond (gK mz m7 qk qn) (Ts 3 (K0 false 0 false 0 false 0 false)) (Ts 3 (K0 qo qt qu qv qw qx qy)))))))) (fun mz m7 qk qn qo qt qu qv qw qx qy => Ts 1 (K0 false 0 false 0 false 0 false)))))
def apW (n:Nat) (a b:Nat -> Int) : Prop := n <= 1000000 /\ ∀ k, k < n -> dM (a k) (b k) = true
def afW (n:Nat) (a b:Nat -> Int) (fx fy tx ty:Int) : Prop := apW n a b /\ dM fx fy = true /\ dM tx ty = true
def pmH (n:Nat) (a b:Nat -> Int) (fx fy tx ty:Int) : Option (Nat × Int × Int) := aci (gT n a b fx fy) (gT n a b tx ty) n
def SV (n:Nat) (a b:Nat -> Int) (fx fy tx ty:Int) : Bool := match pmH n a b fx fy tx ty with | none => false | some _ => true
def SX (n:Nat) (a b:Nat -> Int) (fx fy tx ty:Int) : Int := match pmH n a b fx fy tx ty with | none => 0 | some (i, x, y) => iD (-x) (-y)
def SY (n:Nat) (a b:Nat -> Int) (fx fy tx ty:Int) : Bool := match pmH n a b fx fy tx ty with | none => false | some (i, x, y) => mJ (-x) (-y)
def S9 (n:Nat) (a b:Nat -> Int) (fx fy tx ty:Int) : Int := match pmH n a b fx fy tx ty with | none => 0 | some (i, x, y) => nN (a i) (b i) (a (nxE n i)) (b (nxE n i))
def Tc (n:Nat) (a b:Nat -> Int) (fx fy tx ty:Int) : Bool := match pmH n a b fx fy tx ty with | none => false | some (i, x, y) => CQ (a i) (b i) (a (nxE n i)) (b (nxE n i))
def Td (n:Nat) (a b:Nat -> Int) (fx fy tx ty:Int) : Int := match pmH n a b fx fy tx ty with | none => 0 | some (i, x, y) => CS (a i) (b i) (a (nxE n i)) (b (nxE n i))
def Tf (n:Nat) (a b:Nat -> Int) (fx fy tx ty:Int) : Bool := match pmH n a b fx fy tx ty with | none => false | some (i, x, y) => Dt (a i) (b i) (a (nxE n i)) (b (nxE n i))
def inA (i x z:Int) : Int := if i < 0 then z else x
theorem ajh {n : Nat} {a b : Nat -> Int} {px py : Int} {j : Nat} (hj : j < n) (hv : ∀ k, k < n -> dM (a k) (b k) = true) (hp : dM px py = true) : NH (a j) (b j) (a (nxE n j)) (b (nxE n j)) px py = gT n a b px py j := WC (hv j hj) (hv _ (y9 hj)) hp
theorem acv {n : Nat} {a b : Nat -> Int} {fx fy tx ty : Int} (hP : afW n a b fx fy tx ty) {x0 x1 : Int -> Int -> Int -> Int -> Bool -> Int -> Bool -> Int -> Bool -> Int -> Bool -> Prop}
    (h0 : ∀ i x y c d, ug (gT n a b fx fy) (gT n a b tx ty) n = some (i, x, y, c, d) -> x0 (inA i x (-1)) (inA i y 1) c d (decide (0 <= i)) (inA i (iD (-x) (-y)) 0) (cond (decide (0 <= i)) (mJ (-x) (-y)) false) (inA i (nN (a i.toNat) (b i.toNat) (a (nxE n i.toNat)) (b (nxE n i.toNat))) 0) (cond (decide (0 <= i)) (CQ (a i.toNat) (b i.toNat) (a (nxE n i.toNat)) (b (nxE n i.toNat))) false) (inA i (CS (a i.toNat) (b i.toNat) (a (nxE n i.toNat)) (b (nxE n i.toNat))) 0) (cond (decide (0 <= i)) (Dt (a i.toNat) (b i.toNat) (a (nxE n i.toNat)) (b (nxE n i.toNat))) false))
    (h1 : ug (gT n a b fx fy) (gT n a b tx ty) n = none -> ∀ w0 w1 w2 w3 w4 w5 w6 w7 w8 w9 w10, x1 w0 w1 w2 w3 w4 w5 w6 w7 w8 w9 w10) : ∀ (r j:Nat) (i x y c d:Int), r + j = n -> ug (gT n a b fx fy) (gT n a b tx ty) j = some (i, x, y, c, d) ->
    zi n a b fx fy tx ty r j (inA i x (-1)) (inA i y 1) c d (decide (0 <= i)) (inA i (iD (-x) (-y)) 0) (cond (decide (0 <= i)) (mJ (-x) (-y)) false) (inA i (nN (a i.toNat) (b i.toNat) (a (nxE n i.toNat)) (b (nxE n i.toNat))) 0) (cond (decide (0 <= i)) (CQ (a i.toNat) (b i.toNat) (a (nxE n i.toNat)) (b (nxE n i.toNat))) false) (inA i (CS (a i.toNat) (b i.toNat) (a (nxE n i.toNat)) (b (nxE n i.toNat))) 0) (cond (decide (0 <= i)) (Dt (a i.toNat) (b i.toNat) (a (nxE n i.toNat)) (b (nxE n i.toNat))) false) x0 x1
  | 0, j, i, x, y, c, d, hr, hs => by
    have : j = n := by omega
    subst this
    exact h0 i x y c d hs
  | r + 1, j, i, x, y, c, d, hr, hs => by
    show Jr n a b fx fy tx ty j _ _ _ _ _ _ _ _ _ _ _ _ _
    unfold Jr
    simp only [aH]
    obtain ⟨⟨hn, hv⟩, hf, ht⟩ := hP
    have hj : j < n := by omega
    have e0 : iI n a b j fx fy = gT n a b fx fy j := ajh hj hv hf
    have e1 : oK n a b j tx ty = gT n a b tx ty j := ajh hj hv ht
    have b0 := OD hj hv hf
    have b1 := OD hj hv ht
    have hst := KI (B := 35184372088832) (by omega) (fun k hk => OD hk hv hf) (fun k hk => OD hk hv ht) (k := j) (by omega) hs
    have nx : ug (gT n a b fx fy) (gT n a b tx ty) (j + 1) = _ := rfl
    conv at nx => rhs; unfold ug; rw [hs]
    simp only at nx
    have rcs := fun i' x' y' c' d' => acv ⟨⟨hn, hv⟩, hf, ht⟩ h0 h1 r (j + 1) i' x' y' c' d' (by omega)
    unfold WG WH Zp Zq Zr Zt Zu Zv
    rw [e0, e1]
    have pn := UR (hv j hj) (hv _ (y9 hj))
    generalize gT n a b fx fy j = g at *
    generalize gT n a b tx ty j = h at *
    have es1 : bQ .i64 h g = h - g := gI (by omega) (by omega)
    have es2 : bQ .i64 g h = g - h := gI (by omega) (by omega)
    have en : bM .i64 g = -g := rF (by omega) (by omega)
    rw [es1, es2, en]
    unfold Vt gK
    refine ⟨trivial, trivial, trivial, aC (fun hc => ?_) (fun hc => ?_)⟩
    . rw [dY] at hc
      rw [if_pos hc] at nx
      refine aC (fun hd => ?_) (fun hd => ?_)
      . rw [dY] at hd
        rw [if_pos hd] at nx
        exact h1 (SN nx (by omega)) _ _ _ _ _ _ _ _ _ _ _
      . rw [fJ] at hd
        rw [if_neg (by omega)] at nx
        rw [dY.2 hc, cond_true]
        have hA : Num' (inA i x (-1)) := by unfold inA; split <;> exact ⟨by omega, by omega⟩
        have hB : Num' (inA i y 1) := by unfold inA; split <;> exact ⟨by omega, by omega⟩
        obtain ⟨po, eo⟩ := Dk (a := -g) (b := inA i y 1) (c := inA i x (-1)) (d := h - g) ⟨by omega, by omega⟩ hB hA ⟨by omega, by omega⟩
        rw [eo]
        have hor : igt (AX (-g * inA i y 1) (inA i x (-1) * (h - g))) 0 = true ↔ (i < 0 \/ 0 < AX (-g * y) (x * (h - g))) := by
          rw [qY]
          unfold inA
          by_cases hi : i < 0
          . rw [if_pos hi, if_pos hi, Nj (by omega)]
            exact ⟨fun _ => .inl hi, fun _ => by omega⟩
          . rw [if_neg hi, if_neg hi]
            exact ⟨fun q => .inr q, fun q => q.resolve_left hi⟩
        refine ⟨po, aC (fun he => ?_) (fun he => ?_)⟩
        . rw [if_pos (hor.1 he)] at nx
          obtain ⟨pr, _⟩ := yQ (a := g) (b := g - h) ⟨by omega, by omega⟩ ⟨by omega, by omega⟩
          refine ⟨pr, pn.1, trivial, ?_⟩
          have rr := rcs _ _ _ _ _ nx
          unfold inA at rr
          rw [Int.toNat_natCast] at rr
          simp only [if_neg (show ¬ ((j:Int) < 0) by omega), show decide (0 <= (j:Int)) = true from by simp, cond_true, Int.neg_neg, Int.neg_sub] at rr
          exact rr
        . have : ¬ (i < 0 \/ 0 < AX (-g * y) (x * (h - g))) := fun q => by rw [hor.2 q] at he; cases he
          rw [if_neg this] at nx
          exact rcs _ _ _ _ _ nx
    . rw [fJ] at hc
      rw [if_neg (by omega)] at nx
      rw [fJ.2 hc, cond_false]
      refine aC (fun hd => ?_) (fun hd => ?_)
      . rw [dY] at hd
        obtain ⟨po, eo⟩ := Dk (a := c) (b := g - h) (c := g) (d := d) ⟨by omega, by omega⟩ ⟨by omega, by omega⟩ ⟨by omega, by omega⟩ ⟨by omega, by omega⟩
        rw [eo]
        refine ⟨po, aC (fun he => ?_) (fun he => ?_)⟩
        . rw [qY] at he
          have : AX (g * d) (c * (g - h)) < 0 := by
            rcases Int.lt_trichotomy (c * (g - h)) (g * d) with q | q | q
            . rw [Nh q] at he; omega
            . rw [VZ q] at he; omega
            . rw [Nh q]; omega
          rw [if_pos ⟨hd, this⟩] at nx
          exact rcs _ _ _ _ _ nx
        . rw [nV] at he
          have : ¬ AX (g * d) (c * (g - h)) < 0 := by
            rcases Int.lt_trichotomy (c * (g - h)) (g * d) with q | q | q
            . rw [Nj q]; omega
            . rw [VZ q.symm]; omega
            . rw [Nj q] at he; omega
          rw [if_neg (fun q => this q.2)] at nx
          exact rcs _ _ _ _ _ nx
      . rw [fJ] at hd
        rw [if_neg (by omega)] at nx
        exact rcs _ _ _ _ _ nx
theorem avM (iw:Nat) (ii ik:Nat -> Int) (ic ie il io:Int) {K0 : Bool -> Int -> Bool -> Int -> Bool -> Int -> Bool -> Prop} (h : afW iw ii ik ic ie il io) (hK : K0 (SV iw ii ik ic ie il io) (SX iw ii ik ic ie il io) (SY iw ii ik ic ie il io) (S9 iw ii ik ic ie il io) (Tc iw ii ik ic ie il io) (Td iw ii ik ic ie il io) (Tf iw ii ik ic ie il io)) : adL iw ii ik ic ie il io K0 (fun p0 p1 p2 p3 p4 p5 p6 p7 p8 p9 p10 y0 y1 => DL iw ii ik ic ie il io  /\ zi iw ii ik ic ie il io  (DK iw ii ik ic ie il io ) 0 p0 p1 p2 p3 p4 p5 p6 p7 p8 p9 p10 y0 y1) := by
  unfold adL
  simp only [aH]
  have hP := h
  obtain ⟨⟨hn, hv⟩, hf, ht⟩ := h
  unfold SV SX SY S9 Tc Td Tf pmH aci at hK
  refine ⟨trivial, hn, ?_⟩
  refine acv hP (fun i x y c d hs => ?_) (fun hs _ _ _ _ _ _ _ _ _ _ _ => ?_) iw 0 (-1) 0 1 1 1 (by omega) rfl
  . rw [hs] at hK
    simp only at hK
    have hst := KI (B := 35184372088832) (by omega) (fun k hk => OD hk hv hf) (fun k hk => OD hk hv ht) (k := iw) (by omega) hs
    by_cases hi : i < 0
    . rw [show decide (0 <= i) = false by simp; omega]
      rw [if_pos (.inl hi)] at hK
      exact hK
    . rw [show decide (0 <= i) = true by simp; omega]
      unfold Vt gK inA
      simp only [if_neg hi, Bool.not_true, cond_false, cond_true]
      obtain ⟨po, eo⟩ := Dk (a := x) (b := d) (c := c) (d := y) ⟨by omega, by omega⟩ ⟨by omega, by omega⟩ ⟨by omega, by omega⟩ ⟨by omega, by omega⟩
      rw [eo]
      refine ⟨po, aC (fun he => ?_) (fun he => ?_)⟩
      . rw [qY] at he
        rw [if_pos (.inr he)] at hK
        exact hK
      . rw [nV] at he
        rw [if_neg (by omega)] at hK
        exact hK
  . rw [hs] at hK
    exact hK
def nO (ic il ie io:Int) : Bool := (jI 2 (ay 1 (fun _ => ic) il) (ay 1 (fun _ => ie) io))
def Bj (cm im ip ij:Int) (i6:Nat) (i7 i8:Nat -> Int) (ic ie:Int) : Bool := (fE (kK cm im ip ij i6 i7 i8) (kL cm im ip ij i6 i7 i8) (kM cm im ip ij i6 i7 i8) ic ie)
def Zw (cm im ip ij:Int) (i6:Nat) (i7 i8:Nat -> Int) (ic ie il io:Int) : Bool := (NP (kK cm im ip ij i6 i7 i8) (kL cm im ip ij i6 i7 i8) (kM cm im ip ij i6 i7 i8) ic ie il io)
def Zx (cm im ip ij:Int) (i6:Nat) (i7 i8:Nat -> Int) (ic ie il io:Int) : Int := (NQ (kK cm im ip ij i6 i7 i8) (kL cm im ip ij i6 i7 i8) (kM cm im ip ij i6 i7 i8) ic ie il io)
def Zy (cm im ip ij:Int) (i6:Nat) (i7 i8:Nat -> Int) (ic ie il io:Int) : Bool := (NR (kK cm im ip ij i6 i7 i8) (kL cm im ip ij i6 i7 i8) (kM cm im ip ij i6 i7 i8) ic ie il io)
def Zz (cm im ip ij:Int) (i6:Nat) (i7 i8:Nat -> Int) (ic ie il io:Int) : Int := (NS (kK cm im ip ij i6 i7 i8) (kL cm im ip ij i6 i7 i8) (kM cm im ip ij i6 i7 i8) ic ie il io)
def ZA (cm im ip ij:Int) (i6:Nat) (i7 i8:Nat -> Int) (ic ie il io:Int) : Bool := (NT (kK cm im ip ij i6 i7 i8) (kL cm im ip ij i6 i7 i8) (kM cm im ip ij i6 i7 i8) ic ie il io)
def ZB (cm im ip ij:Int) (i6:Nat) (i7 i8:Nat -> Int) (ic ie il io:Int) : Int := (NU (kK cm im ip ij i6 i7 i8) (kL cm im ip ij i6 i7 i8) (kM cm im ip ij i6 i7 i8) ic ie il io)
def ZC (cm im ip ij:Int) (i6:Nat) (i7 i8:Nat -> Int) (ic ie il io:Int) : Bool := (NV (kK cm im ip ij i6 i7 i8) (kL cm im ip ij i6 i7 i8) (kM cm im ip ij i6 i7 i8) ic ie il io)
def Bo (cm im ip ij:Int) (i6:Nat) (i7 i8:Nat -> Int) (ic ie:Int) : Bool := (Bh (jR cm im ip ij i6 i7 i8) (jS cm im ip ij i6 i7 i8) (jT cm im ip ij i6 i7 i8) ic ie)
def WI (cm im ip ij:Int) (i6:Nat) (i7 i8:Nat -> Int) (ic ie il io:Int) : Bool := (SV (jR cm im ip ij i6 i7 i8) (jS cm im ip ij i6 i7 i8) (jT cm im ip ij i6 i7 i8) ic ie il io)
def WJ (cm im ip ij:Int) (i6:Nat) (i7 i8:Nat -> Int) (ic ie il io:Int) : Int := (SX (jR cm im ip ij i6 i7 i8) (jS cm im ip ij i6 i7 i8) (jT cm im ip ij i6 i7 i8) ic ie il io)
def WL (cm im ip ij:Int) (i6:Nat) (i7 i8:Nat -> Int) (ic ie il io:Int) : Bool := (SY (jR cm im ip ij i6 i7 i8) (jS cm im ip ij i6 i7 i8) (jT cm im ip ij i6 i7 i8) ic ie il io)
def WM (cm im ip ij:Int) (i6:Nat) (i7 i8:Nat -> Int) (ic ie il io:Int) : Int := (S9 (jR cm im ip ij i6 i7 i8) (jS cm im ip ij i6 i7 i8) (jT cm im ip ij i6 i7 i8) ic ie il io)
def WO (cm im ip ij:Int) (i6:Nat) (i7 i8:Nat -> Int) (ic ie il io:Int) : Bool := (Tc (jR cm im ip ij i6 i7 i8) (jS cm im ip ij i6 i7 i8) (jT cm im ip ij i6 i7 i8) ic ie il io)
def WQ (cm im ip ij:Int) (i6:Nat) (i7 i8:Nat -> Int) (ic ie il io:Int) : Int := (Td (jR cm im ip ij i6 i7 i8) (jS cm im ip ij i6 i7 i8) (jT cm im ip ij i6 i7 i8) ic ie il io)
def WR (cm im ip ij:Int) (i6:Nat) (i7 i8:Nat -> Int) (ic ie il io:Int) : Bool := (Tf (jR cm im ip ij i6 i7 i8) (jS cm im ip ij i6 i7 i8) (jT cm im ip ij i6 i7 i8) ic ie il io)
def am7 (cm im ip ij:Int) (i6:Nat) (i7 i8:Nat -> Int) (ic ie il io:Int) (K0 : Bool -> Int -> Bool -> Int -> Bool -> Int -> Bool -> Prop)  : Prop := Ts 5 (((adI cm im ip ij i6 i7 i8) /\ cond (sN cm im ip ij i6 i7 i8) (Ts 9 (K0 false 0 false 0 false 0 false)) (cond (sO cm im ip ij i6 i7 i8) (Ts 7 (((AZ 2 (ay 1 (fun _ => ic) il) (ay 1 (fun _ => ie) io)) /\ Ts 3 (cond (!(nO ic il ie io)) (Ts 3 (K0 false 0 false 0 false 0 false)) (Ts 2 (((YM (kK cm im ip ij i6 i7 i8) (kL cm im ip ij i6 i7 i8) (kM cm im ip ij i6 i7 i8) ic ie) /\ Ts 1 (cond (Bj cm im ip ij i6 i7 i8 ic ie) (Ts 3 (K0 true 0 false 0 false 0 false)) (Ts 3 (((Yb (kK cm im ip ij i6 i7 i8) (kL cm im ip ij i6 i7 i8) (kM cm im ip ij i6 i7 i8) ic ie il io) /\ Ts 2 (K0 (Zw cm im ip ij i6 i7 i8 ic ie il io) (Zx cm im ip ij i6 i7 i8 ic ie il io) (Zy cm im ip ij i6 i7 i8 ic ie il io) (Zz cm im ip ij i6 i7 i8 ic ie il io) (ZA cm im ip ij i6 i7 i8 ic ie il io) (ZB cm im ip ij i6 i7 i8 ic ie il io) (ZC cm im ip ij i6 i7 i8 ic ie il io))))))))))))) (Ts 7 (((AZ 2 (ay 1 (fun _ => ic) il) (ay 1 (fun _ => ie) io)) /\ Ts 3 (cond (!(nO ic il ie io)) (Ts 3 (K0 false 0 false 0 false 0 false)) (Ts 2 (((ahQ (jR cm im ip ij i6 i7 i8) (jS cm im ip ij i6 i7 i8) (jT cm im ip ij i6 i7 i8) ic ie) /\ Ts 1 (cond (Bo cm im ip ij i6 i7 i8 ic ie) (Ts 3 (K0 true 0 false 0 false 0 false)) (Ts 3 (((afW (jR cm im ip ij i6 i7 i8) (jS cm im ip ij i6 i7 i8) (jT cm im ip ij i6 i7 i8) ic ie il io) /\ Ts 2 (K0 (WI cm im ip ij i6 i7 i8 ic ie il io) (WJ cm im ip ij i6 i7 i8 ic ie il io) (WL cm im ip ij i6 i7 i8 ic ie il io) (WM cm im ip ij i6 i7 i8 ic ie il io) (WO cm im ip ij i6 i7 i8 ic ie il io) (WQ cm im ip ij i6 i7 i8 ic ie il io) (WR cm im ip ij i6 i7 i8 ic ie il io))))))))))))))))
def NW (cm im ip ij:Int) (i6:Nat) (i7 i8:Nat -> Int) (ic ie il io:Int) : Prop := ((adI cm im ip ij i6 i7 i8) /\ (cond (sN cm im ip ij i6 i7 i8) True (cond (sO cm im ip ij i6 i7 i8) ((AZ 2 (ay 1 (fun _ => ic) il) (ay 1 (fun _ => ie) io)) /\ (cond (!(nO ic il ie io)) True (cond (Bj cm im ip ij i6 i7 i8 ic ie) True (Yb (kK cm im ip ij i6 i7 i8) (kL cm im ip ij i6 i7 i8) (kM cm im ip ij i6 i7 i8) ic ie il io)))) ((AZ 2 (ay 1 (fun _ => ic) il) (ay 1 (fun _ => ie) io)) /\ (cond (!(nO ic il ie io)) True ((ahQ (jR cm im ip ij i6 i7 i8) (jS cm im ip ij i6 i7 i8) (jT cm im ip ij i6 i7 i8) ic ie) /\ (cond (Bo cm im ip ij i6 i7 i8 ic ie) True (afW (jR cm im ip ij i6 i7 i8) (jS cm im ip ij i6 i7 i8) (jT cm im ip ij i6 i7 i8) ic ie il io))))))))
def oL (cm im ip ij:Int) (i6:Nat) (i7 i8:Nat -> Int) (ic ie il io:Int) : Bool := (cond (sN cm im ip ij i6 i7 i8) false (cond (sO cm im ip ij i6 i7 i8) (cond (!(nO ic il ie io)) false (cond (Bj cm im ip ij i6 i7 i8 ic ie) true (Zw cm im ip ij i6 i7 i8 ic ie il io))) (cond (!(nO ic il ie io)) false (cond (Bo cm im ip ij i6 i7 i8 ic ie) true (WI cm im ip ij i6 i7 i8 ic ie il io)))))
def jZ (cm im ip ij:Int) (i6:Nat) (i7 i8:Nat -> Int) (ic ie il io:Int) : Int := (cond (sN cm im ip ij i6 i7 i8) 0 (cond (sO cm im ip ij i6 i7 i8) (cond (!(nO ic il ie io)) 0 (cond (Bj cm im ip ij i6 i7 i8 ic ie) 0 (Zx cm im ip ij i6 i7 i8 ic ie il io))) (cond (!(nO ic il ie io)) 0 (cond (Bo cm im ip ij i6 i7 i8 ic ie) 0 (WJ cm im ip ij i6 i7 i8 ic ie il io)))))
def rJ (cm im ip ij:Int) (i6:Nat) (i7 i8:Nat -> Int) (ic ie il io:Int) : Bool := (cond (sN cm im ip ij i6 i7 i8) false (cond (sO cm im ip ij i6 i7 i8) (cond (!(nO ic il ie io)) false (cond (Bj cm im ip ij i6 i7 i8 ic ie) false (Zy cm im ip ij i6 i7 i8 ic ie il io))) (cond (!(nO ic il ie io)) false (cond (Bo cm im ip ij i6 i7 i8 ic ie) false (WL cm im ip ij i6 i7 i8 ic ie il io)))))
def wB (cm im ip ij:Int) (i6:Nat) (i7 i8:Nat -> Int) (ic ie il io:Int) : Int := (cond (sN cm im ip ij i6 i7 i8) 0 (cond (sO cm im ip ij i6 i7 i8) (cond (!(nO ic il ie io)) 0 (cond (Bj cm im ip ij i6 i7 i8 ic ie) 0 (Zz cm im ip ij i6 i7 i8 ic ie il io))) (cond (!(nO ic il ie io)) 0 (cond (Bo cm im ip ij i6 i7 i8 ic ie) 0 (WM cm im ip ij i6 i7 i8 ic ie il io)))))
def wC (cm im ip ij:Int) (i6:Nat) (i7 i8:Nat -> Int) (ic ie il io:Int) : Bool := (cond (sN cm im ip ij i6 i7 i8) false (cond (sO cm im ip ij i6 i7 i8) (cond (!(nO ic il ie io)) false (cond (Bj cm im ip ij i6 i7 i8 ic ie) false (ZA cm im ip ij i6 i7 i8 ic ie il io))) (cond (!(nO ic il ie io)) false (cond (Bo cm im ip ij i6 i7 i8 ic ie) false (WO cm im ip ij i6 i7 i8 ic ie il io)))))
def wE (cm im ip ij:Int) (i6:Nat) (i7 i8:Nat -> Int) (ic ie il io:Int) : Int := (cond (sN cm im ip ij i6 i7 i8) 0 (cond (sO cm im ip ij i6 i7 i8) (cond (!(nO ic il ie io)) 0 (cond (Bj cm im ip ij i6 i7 i8 ic ie) 0 (ZB cm im ip ij i6 i7 i8 ic ie il io))) (cond (!(nO ic il ie io)) 0 (cond (Bo cm im ip ij i6 i7 i8 ic ie) 0 (WQ cm im ip ij i6 i7 i8 ic ie il io)))))
def wF (cm im ip ij:Int) (i6:Nat) (i7 i8:Nat -> Int) (ic ie il io:Int) : Bool := (cond (sN cm im ip ij i6 i7 i8) false (cond (sO cm im ip ij i6 i7 i8) (cond (!(nO ic il ie io)) false (cond (Bj cm im ip ij i6 i7 i8 ic ie) false (ZC cm im ip ij i6 i7 i8 ic ie il io))) (cond (!(nO ic il ie io)) false (cond (Bo cm im ip ij i6 i7 i8 ic ie) false (WR cm im ip ij i6 i7 i8 ic ie il io)))))
theorem avN (cm im ip ij:Int) (i6:Nat) (i7 i8:Nat -> Int) (ic ie il io:Int) {K0 : Bool -> Int -> Bool -> Int -> Bool -> Int -> Bool -> Prop} (h : NW cm im ip ij i6 i7 i8 ic ie il io) (hK : K0 (oL cm im ip ij i6 i7 i8 ic ie il io) (jZ cm im ip ij i6 i7 i8 ic ie il io) (rJ cm im ip ij i6 i7 i8 ic ie il io) (wB cm im ip ij i6 i7 i8 ic ie il io) (wC cm im ip ij i6 i7 i8 ic ie il io) (wE cm im ip ij i6 i7 i8 ic ie il io) (wF cm im ip ij i6 i7 i8 ic ie il io)) : am7 cm im ip ij i6 i7 i8 ic ie il io K0  := by
 unfold am7 NW oL jZ rJ wB wC wE wF at *
 simp only [aH, true_and]; try simp only [aH, true_and] at h
 repeat' first | exact hK | (refine aC (fun c => ?_) (fun c => ?_) <;> try simp only [c, cond_true, cond_false] at h hK ⊢) | refine ⟨rfl, ?_⟩ | refine ⟨trivial, ?_⟩ | refine ⟨by decide, ?_⟩ | (refine ⟨h.1, ?_⟩; replace h := h.2) | refine ⟨h, ?_⟩
def WU (cm ge:Int) : Bool := (cond (ige cm (-2097152)) (cond (ile cm 2097152) (cond (ige ge (-2097152)) (ile ge 2097152) false) false) false)
def I8 (cm ge ij iq:Int) : Int := (cond (!(WU cm ge)) 3 (cond (!(WU ij iq)) 3 (cond (igt cm ij) 5 (cond (igt ge iq) 5 0))))
def Zh (cm ge a1:Int) : Int := (bQ .i64 cm a1)
def afE (cm ge a1:Int) : Int := (bQ .i64 ge a1)
def Zi (cm ge a1:Int) : Int := (au .i64 cm a1)
def afF (cm ge a1:Int) : Int := (au .i64 ge a1)
def WT (cm ge ic ie:Int) : Int := (bQ .i64 (aI .i64 cm ie) (aI .i64 ge ic))
def Bc (cm ge ic ie:Int) : Int := (bQ .i64 cm ic)
def Bd (cm ge ic ie:Int) : Int := (bQ .i64 ge ie)
def Wv (cm ge ic ie il io:Int) : Int := (cond (!(WU cm ge)) 0 (cond (!(WU ic ie)) 0 (cond (!(WU il io)) 0 (cond (igt (WT (Bc ic ie cm ge) (Bd ic ie cm ge) (Bc il io cm ge) (Bd il io cm ge)) 0) 1 (cond (ilt (WT (Bc ic ie cm ge) (Bd ic ie cm ge) (Bc il io cm ge) (Bd il io cm ge)) 0) (-1) 0)))))
theorem valid_eq (a b:Int) : WU a b = dM a b := by
  rw [Bool.eq_iff_iff, gJ]
  unfold WU
  have tt : ∀ {b x y : Bool}, (cond b x y = true) ↔ ((b = true /\ x = true) \/ (b = false /\ y = true)) := fun {b x y} => by cases b <;> simp
  simp only [tt, mD, Xy, pU, Qh, Bool.false_eq_true, and_false, or_false]
  all_goals omega
theorem ahS {x0 y0 x1 y1 x2 y2 : Int} (h0 : dM x0 y0 = true) (h1 : dM x1 y1 = true) (h2 : dM x2 y2 = true) : Wv x0 y0 x1 y1 x2 y2 = (if 0 < (x1 - x0) * (y2 - y0) - (y1 - y0) * (x2 - x0) then 1 else if (x1 - x0) * (y2 - y0) - (y1 - y0) * (x2 - x0) < 0 then -1 else 0) := by
  unfold Wv
  rw [valid_eq, valid_eq, valid_eq, h0, h1, h2]
  have e : WT (Bc x1 y1 x0 y0) (Bd x1 y1 x0 y0) (Bc x2 y2 x0 y0) (Bd x2 y2 x0 y0) = (x1 - x0) * (y2 - y0) - (y1 - y0) * (x2 - x0) := by
    rw [gJ] at h0 h1 h2
    unfold WT Bc Bd
    rw [gI (a := x1) (by omega) (by omega), gI (a := y2) (by omega) (by omega), gI (a := y1) (by omega) (by omega), gI (a := x2) (by omega) (by omega)]
    have m1 := Gp (p := x1 - x0) (q := y2 - y0) (B := 4194304) (by omega) (by omega) (by omega) (by omega)
    have m2 := Gp (p := y1 - y0) (q := x2 - x0) (B := 4194304) (by omega) (by omega) (by omega) (by omega)
    rw [kQ (a := x1 - x0) (by omega) (by omega), kQ (a := y1 - y0) (by omega) (by omega), gI (by omega) (by omega)]
  rw [e]
  simp only [Bool.not_true, cond_false]
  cases hg : igt ((x1 - x0) * (y2 - y0) - (y1 - y0) * (x2 - x0)) 0 with
  | true => rw [qY] at hg; rw [if_pos hg]; rfl
  | false =>
    rw [nV] at hg
    rw [if_neg (by omega), cond_false]
    cases hl : ilt ((x1 - x0) * (y2 - y0) - (y1 - y0) * (x2 - x0)) 0 with
    | true => rw [dY] at hl; rw [if_pos hl]; rfl
    | false => rw [fJ] at hl; rw [if_neg (by omega)]; rfl
def Vx (n:Nat) (a b:Nat -> Int) : Bool := Oz n a b
def Vs (k ba bb c:Int) (n:Nat) (da db:Nat -> Int) : Int := cond (!(ieq k 1) && ine k 2) 8 (cond (!(WU ba bb)) 3 (cond (!(sK n da db)) 3 (cond (ieq k 1) (cond (ige c 1 && (igt c 2097152 || ine (I8 (Zh ba bb c) (afE ba bb c) (Zi ba bb c) (afF ba bb c)) 0)) 3 (cond (ilt c 1) 5 (cond (igt (n:Int) 0) 5 0))) (cond (ine c 0) 5 (cond (ilt (n:Int) 3) 5 (cond (igt (n:Int) 8) 5 (cond (!(Vx n da db)) 5 0)))))))
theorem UU (a b:Int) : WU a b = true ↔ (-2097152 <= a /\ a <= 2097152 /\ -2097152 <= b /\ b <= 2097152) := by
  unfold WU
  simp only [ahM, mD, Xy, pU, Qh, Bool.false_eq_true, and_false, or_false]
  all_goals omega
theorem afX (a b c d:Int) : (I8 a b c d = 3 /\ ¬ zx a b c d) \/ (I8 a b c d = 5 /\ zx a b c d /\ (c < a \/ d < b)) \/ (I8 a b c d = 0 /\ zx a b c d /\ a <= c /\ b <= d) := by
  unfold I8 zx
  have e1 := UU a b
  have e2 := UU c d
  cases h1 : WU a b with
  | false => rw [h1] at e1; left; exact ⟨rfl, fun h => by have := e1.2 h.1; cases this⟩
  | true =>
    rw [h1] at e1
    have e1 := e1.1 rfl
    cases h2 : WU c d with
    | false => rw [h2] at e2; left; exact ⟨rfl, fun h => by have := e2.2 h.2; cases this⟩
    | true =>
      rw [h2] at e2
      have e2 := e2.1 rfl
      right
      cases h1 : igt a c with
      | true => rw [qY] at h1; exact .inl ⟨rfl, ⟨e1, e2⟩, .inl h1⟩
      | false =>
        rw [nV] at h1
        cases h2 : igt b d with
        | true => rw [qY] at h2; exact .inl ⟨rfl, ⟨e1, e2⟩, .inr h2⟩
        | false => rw [nV] at h2; exact .inr ⟨rfl, ⟨e1, e2⟩, h1, h2⟩
theorem afY (a b c d:Int) : yJ a b c d = I8 a b c d := by
  rcases X7 a b c d with ⟨h1, h2⟩ | ⟨h1, h2, h3⟩ | ⟨h1, h2, h3⟩ <;> rcases afX a b c d with ⟨g1, g2⟩ | ⟨g1, g2, g3⟩ | ⟨g1, g2, g3⟩ <;> rw [h1, g1] <;> exfalso <;>
    first | exact h2 g2 | exact g2 h2 | omega
theorem WV {n : Nat} {a b a' b' : Nat -> Int} (h : ∀ k, k < n -> a k = a' k /\ b k = b' k) {i j k : Nat} (hi : i < n) (hj : j < n) (hk : k < n) : Jo a b i k j = Jo a' b' i k j := by
  unfold Jo
  rw [(h i hi).1, (h i hi).2, (h j hj).1, (h j hj).2, (h k hk).1, (h k hk).2]
theorem Yc {n : Nat} {a b a' b' : Nat -> Int} (h : ∀ k, k < n -> a k = a' k /\ b k = b' k) : KH n a b ↔ KH n a' b' := by
  have go : ∀ {a b a' b' : Nat -> Int}, (∀ k, k < n -> a k = a' k /\ b k = b' k) -> KH n a b -> KH n a' b' := by
    intro a b a' b' h hc
    refine ⟨fun k hk => by rw [<- (h k hk).1, <- (h k hk).2]; exact hc.1 k hk, fun i hi j hj h1 h2 => ?_⟩
    rw [<- WV h hi hj (y9 hi)]
    exact hc.2 i hi j hj h1 h2
  exact ⟨go h, go (fun k hk => ⟨(h k hk).1.symm, (h k hk).2.symm⟩)⟩
theorem Yd {n : Nat} {a b a' b' : Nat -> Int} (h : ∀ k, k < n -> a k = a' k /\ b k = b' k) : Oz n a b = Oz n a' b' := by
  rw [Bool.eq_iff_iff, BO, BO, Yc h]
theorem BP (x:Bool) : jL x x = true := by rw [jU]; simp
theorem apX (a b:Int) : jI 1 (fun _ => a) (fun _ => b) = dM a b := by
  unfold jI sK
  rw [show List.range 1 = [0] from rfl]
  simp only [List.all_cons, List.all_nil, Bool.and_true]
theorem TW {n : Nat} {a b a' b' : Nat -> Int} (h : ∀ k, k < n -> a k = a' k /\ b k = b' k) : sK n a b = sK n a' b' := by
  rw [Bool.eq_iff_iff, qE, qE]
  constructor
  . intro g k hk
    rw [<- (h k hk).1, <- (h k hk).2]
    exact g k hk
  . intro g k hk
    rw [(h k hk).1, (h k hk).2]
    exact g k hk
theorem adM (c:Int) : igt c 0 = ige c 1 := by
  rw [Bool.eq_iff_iff, qY, mD]
  omega
theorem ZI {k ba bb c : Int} {n : Nat} {da db da' db' : Nat -> Int} (h : ∀ j, j < n -> da' j = da j /\ db' j = db j) : mG k ba bb c n da' db' = Vs k ba bb c n da db := by
  unfold mG Vs
  have e1 : jI n da' db' = sK n da db := TW h
  have e2 : oJ n da' db' = Vx n da db := Yd h
  have e3 : yJ (qU ba bb c) (AA ba bb c) (AL ba bb c) (AO ba bb c) = I8 (Zh ba bb c) (afE ba bb c) (Zi ba bb c) (afF ba bb c) := afY _ _ _ _
  rw [apX, valid_eq, e1, e2, e3, adM]
  cases hl : ilt (n:Int) 3 with
  | false => rfl
  | true =>
    rw [dY] at hl
    have e4 : Vx n da db = false := OA (fun hh => by omega)
    have e5 : igt (n:Int) 8 = false := by rw [nV]; omega
    rw [e4, e5]
    rfl
theorem adN {x0 y0 x1 y1 x2 y2 : Int} (h0 : dM x0 y0 = true) (h1 : dM x1 y1 = true) (h2 : dM x2 y2 = true) : ilt (NH x0 y0 x1 y1 x2 y2) 0 = ilt (Wv x0 y0 x1 y1 x2 y2) 0 := by
  rw [WC h0 h1 h2, ahS h0 h1 h2, Bool.eq_iff_iff, dY, dY]
  split
  . omega
  . split <;> omega
theorem copies (n:Nat) (da db:Nat -> Int) : ∀ j, j < n -> SK da n j = da j /\ SK db n j = db j := fun j hj => ⟨SL _ _ _ hj, SL _ _ _ hj⟩
theorem OE.copy {k ba bb c : Int} {n : Nat} {da db : Nat -> Int} (h : OE k ba bb c n da db) : OE k ba bb c n (SK da n) (SK db n) :=
  ⟨h.1, h.2.1, fun j hj => by rw [(copies n da db j hj).1, (copies n da db j hj).2]; exact h.2.2 j hj⟩
def NG (cm ge ic ie:Int) : Int := (au .i64 (aI .i64 cm ic) (aI .i64 ge ie))
def afi (k ba bb c:Int) (n:Nat) (da db:Nat -> Int) (px py:Int) : Prop := n <= 1000000
def am8 (n:Nat) (a b:Nat -> Int) (px py:Int) (j:Nat) : Bool := !(ilt (Wv (a j) (b j) (a (nxE n j)) (b (nxE n j)) px py) 0)
def Rh (k ba bb c:Int) (n:Nat) (da db:Nat -> Int) (px py:Int) : Bool := cond (ieq k 1) (ile (NG (Bc px py ba bb) (Bd px py ba bb) (Bc px py ba bb) (Bd px py ba bb)) (aI .i64 c c)) ((List.range n).all fun j => am8 n da db px py j)
def uS (il io ic ie:Int) : Int := (NG (Bc il io ic ie) (Bd il io ic ie) (Bc il io ic ie) (Bd il io ic ie))
def kX (ic ie im ip il io:Int) : Int := (NG (Bc ic ie im ip) (Bd ic ie im ip) (Bc il io ic ie) (Bd il io ic ie))
def Ti (ic ie im ip:Int) : Int := (NG (Bc ic ie im ip) (Bd ic ie im ip) (Bc ic ie im ip) (Bd ic ie im ip))
def Bq (ic ie im ip il io ij:Int) : Int := (NY (kX ic ie im ip il io) (kX ic ie im ip il io) (uS il io ic ie) (bQ .i64 (Ti ic ie im ip) (aI .i64 ij ij)))
def nP (il io ic ie:Int) : Int := (iT (Bc il io ic ie) (Bd il io ic ie))
def oM (il io ic ie:Int) : Bool := (iZ (Bc il io ic ie) (Bd il io ic ie))
def nR (il io ic ie:Int) : Int := (iU (Bc il io ic ie) (Bd il io ic ie))
def oN (il io ic ie:Int) : Bool := (jA (Bc il io ic ie) (Bd il io ic ie))
def nS (ic ie im ip:Int) : Int := (iT (Bc ic ie im ip) (Bd ic ie im ip))
def oO (ic ie im ip:Int) : Bool := (iZ (Bc ic ie im ip) (Bd ic ie im ip))
def kC (ic ie im ip:Int) : Int := (iU (Bc ic ie im ip) (Bd ic ie im ip))
def kN (ic ie im ip:Int) : Bool := (jA (Bc ic ie im ip) (Bd ic ie im ip))
def rD (il io ic ie:Int) : Int := (Gn (nP il io ic ie) (oM il io ic ie) (nR il io ic ie) (oN il io ic ie))
def sW (il io ic ie:Int) : Bool := (Rl (nP il io ic ie) (oM il io ic ie) (nR il io ic ie) (oN il io ic ie))
def rE (il io ic ie:Int) : Int := (Nu (nP il io ic ie) (oM il io ic ie) (nR il io ic ie) (oN il io ic ie))
def sZ (il io ic ie:Int) : Bool := (RQ (nP il io ic ie) (oM il io ic ie) (nR il io ic ie) (oN il io ic ie))
def zU (il io ic ie im ip:Int) : Int := (wG (rD il io ic ie) (sW il io ic ie) (rE il io ic ie) (sZ il io ic ie) (nS ic ie im ip) (oO ic ie im ip) (kC ic ie im ip) (kN ic ie im ip))
def DN (il io ic ie im ip:Int) : Bool := (abk (rD il io ic ie) (sW il io ic ie) (rE il io ic ie) (sZ il io ic ie) (nS ic ie im ip) (oO ic ie im ip) (kC ic ie im ip) (kN ic ie im ip))
def DR (ij:Int) : Int := (bG (jG ij 256) (jW ij 256) (jG ij 256) (jW ij 256))
def GY (ij:Int) : Bool := (bK (jG ij 256) (jW ij 256) (jG ij 256) (jW ij 256))
def DT (il io ic ie im ip:Int) : Int := (bG (zU il io ic ie im ip) (DN il io ic ie im ip) (zU il io ic ie im ip) (DN il io ic ie im ip))
def GZ (il io ic ie im ip:Int) : Bool := (bK (zU il io ic ie im ip) (DN il io ic ie im ip) (zU il io ic ie im ip) (DN il io ic ie im ip))
def DU (ij il io ic ie im ip:Int) : Int := (Gu (DR ij) (GY ij) (DT il io ic ie im ip) (GZ il io ic ie im ip))
def G5 (ij il io ic ie im ip:Int) : Bool := (O7 (DR ij) (GY ij) (DT il io ic ie im ip) (GZ il io ic ie im ip))
def DV (ij il io ic ie im ip:Int) : Int := (vZ 2 (ay 1 (fun _ => 0) (DU ij il io ic ie im ip)) (ay 1 (fun _ => false) (G5 ij il io ic ie im ip)))
def G6 (ij il io ic ie im ip:Int) : Bool := (wo 2 (ay 1 (fun _ => 0) (DU ij il io ic ie im ip)) (ay 1 (fun _ => false) (G5 ij il io ic ie im ip)))
def DW (ij il io ic ie im ip:Int) : Int := (A8 (DV ij il io ic ie im ip) (G6 ij il io ic ie im ip))
def G7 (ij il io ic ie im ip:Int) : Bool := (Y5 (DV ij il io ic ie im ip) (G6 ij il io ic ie im ip))
def KL (il io ic ie im ip:Int) : Int := (WS (rD il io ic ie) (sW il io ic ie) (rE il io ic ie) (sZ il io ic ie) (nS ic ie im ip) (oO ic ie im ip) (kC ic ie im ip) (kN ic ie im ip))
def PG (il io ic ie im ip:Int) : Bool := (af7 (rD il io ic ie) (sW il io ic ie) (rE il io ic ie) (sZ il io ic ie) (nS ic ie im ip) (oO ic ie im ip) (kC ic ie im ip) (kN ic ie im ip))
def DX (il io ic ie im ip:Int) : Int := (nJ (KL il io ic ie im ip) (PG il io ic ie im ip))
def G8 (il io ic ie im ip:Int) : Bool := (gQ (KL il io ic ie im ip) (PG il io ic ie im ip))
def DY (il io ic ie im ip ij:Int) : Int := (Gu (DX il io ic ie im ip) (G8 il io ic ie im ip) (DW ij il io ic ie im ip) (G7 ij il io ic ie im ip))
def G9 (il io ic ie im ip ij:Int) : Bool := (O7 (DX il io ic ie im ip) (G8 il io ic ie im ip) (DW ij il io ic ie im ip) (G7 ij il io ic ie im ip))
def DZ (il io ic ie:Int) : Int := (CB (nP il io ic ie) (oM il io ic ie) (nR il io ic ie) (oN il io ic ie))
def He (il io ic ie:Int) : Bool := (CG (nP il io ic ie) (oM il io ic ie) (nR il io ic ie) (oN il io ic ie))
def zV (il io ic ie im ip ij:Int) : Int := (oI (DY il io ic ie im ip ij) (G9 il io ic ie im ip ij) (DZ il io ic ie) (He il io ic ie))
def D5 (il io ic ie im ip ij:Int) : Bool := (uF (DY il io ic ie im ip ij) (G9 il io ic ie im ip ij) (DZ il io ic ie) (He il io ic ie))
def vC (il io ic ie im ip ij:Int) : Int := (iY (zV il io ic ie im ip ij) (D5 il io ic ie im ip ij) 0 false 4294967296 false)
def zW (il io ic ie im ip ij:Int) : Bool := (iC (zV il io ic ie im ip ij) (D5 il io ic ie im ip ij) 0 false 4294967296 false)
def wP (il io ic ie im ip ij:Int) : Int := (MP (nP il io ic ie) (oM il io ic ie) (nR il io ic ie) (oN il io ic ie) (vC il io ic ie im ip ij) (zW il io ic ie im ip ij))
def zX (il io ic ie im ip ij:Int) : Bool := (QO (nP il io ic ie) (oM il io ic ie) (nR il io ic ie) (oN il io ic ie) (vC il io ic ie im ip ij) (zW il io ic ie im ip ij))
def wQ (il io ic ie im ip ij:Int) : Int := (abl (nP il io ic ie) (oM il io ic ie) (nR il io ic ie) (oN il io ic ie) (vC il io ic ie im ip ij) (zW il io ic ie im ip ij))
def zY (il io ic ie im ip ij:Int) : Bool := (ahR (nP il io ic ie) (oM il io ic ie) (nR il io ic ie) (oN il io ic ie) (vC il io ic ie im ip ij) (zW il io ic ie im ip ij))
def wR (ic ie im ip il io ij:Int) : Int := (Aq 2 (ay 1 (fun _ => (nS ic ie im ip)) (wP il io ic ie im ip ij)) (ay 1 (fun _ => (oO ic ie im ip)) (zX il io ic ie im ip ij)) (ay 1 (fun _ => (kC ic ie im ip)) (wQ il io ic ie im ip ij)) (ay 1 (fun _ => (kN ic ie im ip)) (zY il io ic ie im ip ij)))
def zZ (ic ie im ip il io ij:Int) : Bool := (Jl 2 (ay 1 (fun _ => (nS ic ie im ip)) (wP il io ic ie im ip ij)) (ay 1 (fun _ => (oO ic ie im ip)) (zX il io ic ie im ip ij)) (ay 1 (fun _ => (kC ic ie im ip)) (wQ il io ic ie im ip ij)) (ay 1 (fun _ => (kN ic ie im ip)) (zY il io ic ie im ip ij)))
def wS (ic ie im ip il io ij:Int) : Int := (IG 2 (ay 1 (fun _ => (nS ic ie im ip)) (wP il io ic ie im ip ij)) (ay 1 (fun _ => (oO ic ie im ip)) (zX il io ic ie im ip ij)) (ay 1 (fun _ => (kC ic ie im ip)) (wQ il io ic ie im ip ij)) (ay 1 (fun _ => (kN ic ie im ip)) (zY il io ic ie im ip ij)))
def Aa (ic ie im ip il io ij:Int) : Bool := (Nl 2 (ay 1 (fun _ => (nS ic ie im ip)) (wP il io ic ie im ip ij)) (ay 1 (fun _ => (oO ic ie im ip)) (zX il io ic ie im ip ij)) (ay 1 (fun _ => (kC ic ie im ip)) (wQ il io ic ie im ip ij)) (ay 1 (fun _ => (kN ic ie im ip)) (zY il io ic ie im ip ij)))
def PI (ic ie im ip il io ij:Int) : Int := (Gn (wR ic ie im ip il io ij) (zZ ic ie im ip il io ij) (wS ic ie im ip il io ij) (Aa ic ie im ip il io ij))
def WW (ic ie im ip il io ij:Int) : Bool := (Rl (wR ic ie im ip il io ij) (zZ ic ie im ip il io ij) (wS ic ie im ip il io ij) (Aa ic ie im ip il io ij))
def PK (ic ie im ip il io ij:Int) : Int := (Nu (wR ic ie im ip il io ij) (zZ ic ie im ip il io ij) (wS ic ie im ip il io ij) (Aa ic ie im ip il io ij))
def WX (ic ie im ip il io ij:Int) : Bool := (RQ (wR ic ie im ip il io ij) (zZ ic ie im ip il io ij) (wS ic ie im ip il io ij) (Aa ic ie im ip il io ij))
def ahT (cm im ip ij:Int) (i6:Nat) (i7 i8:Nat -> Int) (ic ie il io:Int) : Prop := ((afi cm im ip ij i6 i7 i8 il io) /\ (cond (!(Rh cm im ip ij i6 i7 i8 il io)) (cond (ige (kX ic ie im ip il io) 0) True (cond (igt (bM .i64 (kX ic ie im ip il io)) (uS il io ic ie)) True (cond (ilt (Bq ic ie im ip il io ij) 0) True ((TT (Bc il io ic ie) (Bd il io ic ie)) /\ ((TT (Bc ic ie im ip) (Bd ic ie im ip)) /\ ((afR (nP il io ic ie) (oM il io ic ie) (nR il io ic ie) (oN il io ic ie)) /\ ((Hl ij 256) /\ ((aiW (rD il io ic ie) (sW il io ic ie) (rE il io ic ie) (sZ il io ic ie) (nS ic ie im ip) (oO ic ie im ip) (kC ic ie im ip) (kN ic ie im ip)) /\ ((YW (DR ij) (GY ij) (DT il io ic ie im ip) (GZ il io ic ie im ip)) /\ ((Fj 2 (ay 1 (fun _ => 0) (DU ij il io ic ie im ip)) (ay 1 (fun _ => false) (G5 ij il io ic ie im ip))) /\ ((WA (DV ij il io ic ie im ip) (G6 ij il io ic ie im ip)) /\ ((amW (rD il io ic ie) (sW il io ic ie) (rE il io ic ie) (sZ il io ic ie) (nS ic ie im ip) (oO ic ie im ip) (kC ic ie im ip) (kN ic ie im ip)) /\ ((YW (DX il io ic ie im ip) (G8 il io ic ie im ip) (DW ij il io ic ie im ip) (G7 ij il io ic ie im ip)) /\ ((acU (nP il io ic ie) (oM il io ic ie) (nR il io ic ie) (oN il io ic ie)) /\ ((MQ (DY il io ic ie im ip ij) (G9 il io ic ie im ip ij) (DZ il io ic ie) (He il io ic ie)) /\ ((ae6 (zV il io ic ie im ip ij) (D5 il io ic ie im ip ij) 0 false 4294967296 false) /\ ((ae2 2 (ay 1 (fun _ => (nS ic ie im ip)) (wP il io ic ie im ip ij)) (ay 1 (fun _ => (oO ic ie im ip)) (zX il io ic ie im ip ij)) (ay 1 (fun _ => (kC ic ie im ip)) (wQ il io ic ie im ip ij)) (ay 1 (fun _ => (kN ic ie im ip)) (zY il io ic ie im ip ij))) /\ (afR (wR ic ie im ip il io ij) (zZ ic ie im ip il io ij) (wS ic ie im ip il io ij) (Aa ic ie im ip il io ij))))))))))))))))))) ((TT (Bc il io ic ie) (Bd il io ic ie)) /\ ((TT (Bc ic ie im ip) (Bd ic ie im ip)) /\ ((afR (nP il io ic ie) (oM il io ic ie) (nR il io ic ie) (oN il io ic ie)) /\ ((Hl ij 256) /\ ((aiW (rD il io ic ie) (sW il io ic ie) (rE il io ic ie) (sZ il io ic ie) (nS ic ie im ip) (oO ic ie im ip) (kC ic ie im ip) (kN ic ie im ip)) /\ ((YW (DR ij) (GY ij) (DT il io ic ie im ip) (GZ il io ic ie im ip)) /\ ((Fj 2 (ay 1 (fun _ => 0) (DU ij il io ic ie im ip)) (ay 1 (fun _ => false) (G5 ij il io ic ie im ip))) /\ ((WA (DV ij il io ic ie im ip) (G6 ij il io ic ie im ip)) /\ ((amW (rD il io ic ie) (sW il io ic ie) (rE il io ic ie) (sZ il io ic ie) (nS ic ie im ip) (oO ic ie im ip) (kC ic ie im ip) (kN ic ie im ip)) /\ ((YW (DX il io ic ie im ip) (G8 il io ic ie im ip) (DW ij il io ic ie im ip) (G7 ij il io ic ie im ip)) /\ ((acU (nP il io ic ie) (oM il io ic ie) (nR il io ic ie) (oN il io ic ie)) /\ ((MQ (DY il io ic ie im ip ij) (G9 il io ic ie im ip ij) (DZ il io ic ie) (He il io ic ie)) /\ ((ae6 (zV il io ic ie im ip ij) (D5 il io ic ie im ip ij) 0 false 4294967296 false) /\ ((ae2 2 (ay 1 (fun _ => (nS ic ie im ip)) (wP il io ic ie im ip ij)) (ay 1 (fun _ => (oO ic ie im ip)) (zX il io ic ie im ip ij)) (ay 1 (fun _ => (kC ic ie im ip)) (wQ il io ic ie im ip ij)) (ay 1 (fun _ => (kN ic ie im ip)) (zY il io ic ie im ip ij))) /\ (afR (wR ic ie im ip il io ij) (zZ ic ie im ip il io ij) (wS ic ie im ip il io ij) (Aa ic ie im ip il io ij))))))))))))))))))
def ZJ (cm im ip ij:Int) (i6:Nat) (i7 i8:Nat -> Int) (ic ie il io:Int) : Bool := (cond (!(Rh cm im ip ij i6 i7 i8 il io)) (cond (ige (kX ic ie im ip il io) 0) false (cond (igt (bM .i64 (kX ic ie im ip il io)) (uS il io ic ie)) false (cond (ilt (Bq ic ie im ip il io ij) 0) false true))) true)
def Tj (cm im ip ij:Int) (i6:Nat) (i7 i8:Nat -> Int) (ic ie il io:Int) : Int := (cond (!(Rh cm im ip ij i6 i7 i8 il io)) (cond (ige (kX ic ie im ip il io) 0) 0 (cond (igt (bM .i64 (kX ic ie im ip il io)) (uS il io ic ie)) 0 (cond (ilt (Bq ic ie im ip il io ij) 0) 0 (vC il io ic ie im ip ij)))) (vC il io ic ie im ip ij))
def ZK (cm im ip ij:Int) (i6:Nat) (i7 i8:Nat -> Int) (ic ie il io:Int) : Bool := (cond (!(Rh cm im ip ij i6 i7 i8 il io)) (cond (ige (kX ic ie im ip il io) 0) false (cond (igt (bM .i64 (kX ic ie im ip il io)) (uS il io ic ie)) false (cond (ilt (Bq ic ie im ip il io ij) 0) false (zW il io ic ie im ip ij)))) (zW il io ic ie im ip ij))
def ZL (cm im ip ij:Int) (i6:Nat) (i7 i8:Nat -> Int) (ic ie il io:Int) : Int := (cond (!(Rh cm im ip ij i6 i7 i8 il io)) (cond (ige (kX ic ie im ip il io) 0) 0 (cond (igt (bM .i64 (kX ic ie im ip il io)) (uS il io ic ie)) 0 (cond (ilt (Bq ic ie im ip il io ij) 0) 0 (PI ic ie im ip il io ij)))) (PI ic ie im ip il io ij))
def ZM (cm im ip ij:Int) (i6:Nat) (i7 i8:Nat -> Int) (ic ie il io:Int) : Bool := (cond (!(Rh cm im ip ij i6 i7 i8 il io)) (cond (ige (kX ic ie im ip il io) 0) false (cond (igt (bM .i64 (kX ic ie im ip il io)) (uS il io ic ie)) false (cond (ilt (Bq ic ie im ip il io ij) 0) false (WW ic ie im ip il io ij)))) (WW ic ie im ip il io ij))
def ZN (cm im ip ij:Int) (i6:Nat) (i7 i8:Nat -> Int) (ic ie il io:Int) : Int := (cond (!(Rh cm im ip ij i6 i7 i8 il io)) (cond (ige (kX ic ie im ip il io) 0) 0 (cond (igt (bM .i64 (kX ic ie im ip il io)) (uS il io ic ie)) 0 (cond (ilt (Bq ic ie im ip il io ij) 0) 0 (PK ic ie im ip il io ij)))) (PK ic ie im ip il io ij))
def ZO (cm im ip ij:Int) (i6:Nat) (i7 i8:Nat -> Int) (ic ie il io:Int) : Bool := (cond (!(Rh cm im ip ij i6 i7 i8 il io)) (cond (ige (kX ic ie im ip il io) 0) false (cond (igt (bM .i64 (kX ic ie im ip il io)) (uS il io ic ie)) false (cond (ilt (Bq ic ie im ip il io ij) 0) false (WX ic ie im ip il io ij)))) (WX ic ie im ip il io ij))
theorem apY (a b c d:Int) : bY a b c d = Bc c d a b := rfl
theorem apZ (a b c d:Int) : bZ a b c d = Bd c d a b := rfl
theorem avP : Num' 4294967296 := ⟨by decide, by decide⟩
theorem avQ : qF 1 = 4294967296 /\ oC 1 = false := by
  obtain ⟨_, e1, e2⟩ := XQ (v := 1) ⟨by decide, by decide⟩
  rw [e1, e2, Pq ⟨by decide, by decide⟩, Pv ⟨by decide, by decide⟩]
  exact ⟨rfl, rfl⟩
theorem UW {x0 y0 x1 y1 : Int} (h0 : dM x0 y0 = true) (h1 : dM x1 y1 = true) : Num' (Bc x0 y0 x1 y1) /\ Num' (Bd x0 y0 x1 y1) := by
  rw [gJ] at h0 h1
  unfold Bc Bd
  rw [gI (by omega) (by omega), gI (by omega) (by omega)]
  exact ⟨⟨by omega, by omega⟩, ⟨by omega, by omega⟩⟩
theorem aji (x:Int) : 0 <= x * x := by
  rcases Int.le_total 0 x with h | h
  . exact Int.mul_nonneg h h
  . exact Int.mul_nonneg_of_nonpos_of_nonpos h h
theorem afZ {cx cy fx fy tx ty r : Int} (hc : dM cx cy = true) (hf : dM fx fy = true) (ht : dM tx ty = true) (hr0 : 1 <= r /\ r <= 2097152) :
    uS tx ty fx fy = (tx - fx) * (tx - fx) + (ty - fy) * (ty - fy) /\ kX fx fy cx cy tx ty = (fx - cx) * (tx - fx) + (fy - cy) * (ty - fy) /\ bQ .i64 (Ti fx fy cx cy) (aI .i64 r r) = (fx - cx) * (fx - cx) + (fy - cy) * (fy - cy) - r * r /\ aI .i64 r r = r * r /\
    NG (Bc tx ty cx cy) (Bd tx ty cx cy) (Bc tx ty cx cy) (Bd tx ty cx cy) = (tx - cx) * (tx - cx) + (ty - cy) * (ty - cy) := by
  rw [gJ] at hc hf ht
  unfold uS kX Ti NG Bc Bd
  have b := fun (p q:Int) (h1 : -4194304 <= p) (h2 : p <= 4194304) (h3 : -4194304 <= q) (h4 : q <= 4194304) => Gp h1 h2 h3 h4
  have s1 := b (tx - fx) (tx - fx) (by omega) (by omega) (by omega) (by omega)
  have s2 := b (ty - fy) (ty - fy) (by omega) (by omega) (by omega) (by omega)
  have s3 := b (fx - cx) (tx - fx) (by omega) (by omega) (by omega) (by omega)
  have s4 := b (fy - cy) (ty - fy) (by omega) (by omega) (by omega) (by omega)
  have s5 := b (fx - cx) (fx - cx) (by omega) (by omega) (by omega) (by omega)
  have s6 := b (fy - cy) (fy - cy) (by omega) (by omega) (by omega) (by omega)
  have s7 := b (tx - cx) (tx - cx) (by omega) (by omega) (by omega) (by omega)
  have s8 := b (ty - cy) (ty - cy) (by omega) (by omega) (by omega) (by omega)
  have s9 := b r r (by omega) (by omega) (by omega) (by omega)
  rw [gI (a := tx) (b := fx) (by omega) (by omega), gI (a := ty) (b := fy) (by omega) (by omega), gI (a := fx) (b := cx) (by omega) (by omega), gI (a := fy) (b := cy) (by omega) (by omega), gI (a := tx) (b := cx) (by omega) (by omega), gI (a := ty) (b := cy) (by omega) (by omega)]
  rw [kQ (a := tx - fx) (b := tx - fx) (by omega) (by omega), kQ (a := ty - fy) (b := ty - fy) (by omega) (by omega), kQ (a := fx - cx) (b := tx - fx) (by omega) (by omega), kQ (a := fy - cy) (b := ty - fy) (by omega) (by omega), kQ (a := fx - cx) (b := fx - cx) (by omega) (by omega), kQ (a := fy - cy) (b := fy - cy) (by omega) (by omega), kQ (a := tx - cx) (b := tx - cx) (by omega) (by omega), kQ (a := ty - cy) (b := ty - cy) (by omega) (by omega), kQ (a := r) (b := r) (by omega) (by omega)]
  rw [fF (by omega) (by omega), fF (by omega) (by omega), fF (by omega) (by omega), fF (by omega) (by omega), gI (by omega) (by omega)]
  exact ⟨rfl, rfl, rfl, rfl, rfl⟩
theorem acw (p q:Int) : (p + q) * (p + q) = p * p + 2 * (p * q) + q * q := by
  rw [Int.add_mul, Int.mul_add, Int.mul_add, Int.mul_comm q p]; omega
theorem am9 {k cx cy r fx fy tx ty : Int} {n : Nat} {da db : Nat -> Int} (hk : ieq k 1 = true) (hr0 : 1 <= r /\ r <= 2097152) (hn : n <= 1000000) (hc : dM cx cy = true) (hf : dM fx fy = true) (ht : dM tx ty = true) : Yb cx cy r fx fy tx ty /\ ahT k cx cy r n da db fx fy tx ty /\
    NP cx cy r fx fy tx ty = ZJ k cx cy r n da db fx fy tx ty /\ NQ cx cy r fx fy tx ty = Tj k cx cy r n da db fx fy tx ty /\ NR cx cy r fx fy tx ty = ZK k cx cy r n da db fx fy tx ty /\ NS cx cy r fx fy tx ty = ZL k cx cy r n da db fx fy tx ty /\ NT cx cy r fx fy tx ty = ZM k cx cy r n da db fx fy tx ty /\ NU cx cy r fx fy tx ty = ZN k cx cy r n da db fx fy tx ty /\ NV cx cy r fx fy tx ty = ZO k cx cy r n da db fx fy tx ty := by
  have hfc := UW hf hc
  have htf := UW ht hf
  have hr : Num' r := ⟨by omega, by omega⟩
  obtain ⟨pr1, pr2, er0, er1, mr⟩ := adK hr
  obtain ⟨ei0, ei1⟩ := avQ
  obtain ⟨pA1, pB1, q1_0, q1_1, q1_2, q1_3, n1_0, n1_2⟩ := @RZ (Bc fx fy cx cy) (Bd fx fy cx cy)  hfc.1 hfc.2
  have e_E_aa_4 : (kS cx cy fx fy) = (nS fx fy cx cy) := by unfold kS; exact q1_0
  have m_E_aa_4 : Num' (nS fx fy cx cy) := n1_0
  have e_E_aa_5 : (kT cx cy fx fy) = (oO fx fy cx cy) := by unfold kT; exact q1_1
  have e_E_aa_6 : (kU cx cy fx fy) = (kC fx fy cx cy) := by unfold kU; exact q1_2
  have m_E_aa_6 : Num' (kC fx fy cx cy) := n1_2
  have e_E_aa_7 : (kV cx cy fx fy) = (kN fx fy cx cy) := by unfold kV; exact q1_3
  obtain ⟨pA2, pB2, q2_0, q2_1, q2_2, q2_3, n2_0, n2_2⟩ := @RZ (Bc tx ty fx fy) (Bd tx ty fx fy)  htf.1 htf.2
  have e_E_aa_8 : (jX fx fy tx ty) = (nP tx ty fx fy) := by unfold jX; exact q2_0
  have m_E_aa_8 : Num' (nP tx ty fx fy) := n2_0
  have e_E_aa_9 : (jY fx fy tx ty) = (oM tx ty fx fy) := by unfold jY; exact q2_1
  have e_E_aa_10 : (iM fx fy tx ty) = (nR tx ty fx fy) := by unfold iM; exact q2_2
  have m_E_aa_10 : Num' (nR tx ty fx fy) := n2_2
  have e_E_aa_11 : (iO fx fy tx ty) = (oN tx ty fx fy) := by unfold iO; exact q2_3
  obtain ⟨pA3, pB3, q3_0, q3_1, q3_2, q3_3, q3_4, n3_0, n3_2⟩ := @Wq (nP tx ty fx fy) (nR tx ty fx fy) (oM tx ty fx fy) (oN tx ty fx fy) m_E_aa_8 m_E_aa_10
  have e_E_aa_12 : (oV fx fy tx ty) = (rD tx ty fx fy) := by unfold oV; simp only [e_E_aa_8, e_E_aa_9, e_E_aa_10, e_E_aa_11]; exact q3_0
  have m_E_aa_12 : Num' (rD tx ty fx fy) := n3_0
  have e_E_aa_13 : (oW fx fy tx ty) = (sW tx ty fx fy) := by unfold oW; simp only [e_E_aa_8, e_E_aa_9, e_E_aa_10, e_E_aa_11]; exact q3_1
  have e_E_aa_14 : (oZ fx fy tx ty) = (rE tx ty fx fy) := by unfold oZ; simp only [e_E_aa_8, e_E_aa_9, e_E_aa_10, e_E_aa_11]; exact q3_2
  have m_E_aa_14 : Num' (rE tx ty fx fy) := n3_2
  have e_E_aa_15 : (pF fx fy tx ty) = (sZ tx ty fx fy) := by unfold pF; simp only [e_E_aa_8, e_E_aa_9, e_E_aa_10, e_E_aa_11]; exact q3_3
  obtain ⟨pA4, pB4, q4_0, q4_1, n4_0⟩ := @adB (rD tx ty fx fy) (rE tx ty fx fy) (nS fx fy cx cy) (kC fx fy cx cy) (sW tx ty fx fy) (sZ tx ty fx fy) (oO fx fy cx cy) (kN fx fy cx cy) m_E_aa_12 m_E_aa_14 m_E_aa_4 m_E_aa_6
  have e_E_aa_17 : (pG fx fy tx ty cx cy) = (zU tx ty fx fy cx cy) := by unfold pG; simp only [e_E_aa_12, e_E_aa_13, e_E_aa_14, e_E_aa_15, e_E_aa_4, e_E_aa_5, e_E_aa_6, e_E_aa_7]; exact q4_0
  have m_E_aa_17 : Num' (zU tx ty fx fy cx cy) := n4_0
  have e_E_aa_18 : (pI fx fy tx ty cx cy) = (DN tx ty fx fy cx cy) := by unfold pI; simp only [e_E_aa_12, e_E_aa_13, e_E_aa_14, e_E_aa_15, e_E_aa_4, e_E_aa_5, e_E_aa_6, e_E_aa_7]; exact q4_1
  obtain ⟨pA5, pB5, q5_0, q5_1, n5_0⟩ := @VH (jG r 256) (jG r 256) (jW r 256) (jW r 256) mr mr
  have e_E_aa_19 : (zy r) = (DR r) := by unfold zy; simp only [er0, er1]; exact q5_0
  have m_E_aa_19 : Num' (DR r) := n5_0
  have e_E_aa_20 : (zA r) = (GY r) := by unfold zA; simp only [er0, er1]; exact q5_1
  obtain ⟨pA6, pB6, q6_0, q6_1, n6_0⟩ := @VH (zU tx ty fx fy cx cy) (zU tx ty fx fy cx cy) (DN tx ty fx fy cx cy) (DN tx ty fx fy cx cy) m_E_aa_17 m_E_aa_17
  have e_E_aa_21 : (zB fx fy tx ty cx cy) = (DT tx ty fx fy cx cy) := by unfold zB; simp only [e_E_aa_17, e_E_aa_18]; exact q6_0
  have m_E_aa_21 : Num' (DT tx ty fx fy cx cy) := n6_0
  have e_E_aa_22 : (zC fx fy tx ty cx cy) = (GZ tx ty fx fy cx cy) := by unfold zC; simp only [e_E_aa_17, e_E_aa_18]; exact q6_1
  obtain ⟨pA7, pB7, q7_0, q7_1, n7_0⟩ := @afu (DR r) (DT tx ty fx fy cx cy) (GY r) (GZ tx ty fx fy cx cy) m_E_aa_19 m_E_aa_21
  have e_E_aa_23 : (zD r fx fy tx ty cx cy) = (DU r tx ty fx fy cx cy) := by unfold zD; simp only [e_E_aa_19, e_E_aa_20, e_E_aa_21, e_E_aa_22]; exact q7_0
  have m_E_aa_23 : Num' (DU r tx ty fx fy cx cy) := n7_0
  have e_E_aa_24 : (zF r fx fy tx ty cx cy) = (G5 r tx ty fx fy cx cy) := by unfold zF; simp only [e_E_aa_19, e_E_aa_20, e_E_aa_21, e_E_aa_22]; exact q7_1
  obtain ⟨pA8, pB8, q8_0, q8_1, n8_0⟩ := @Ya (DU r tx ty fx fy cx cy) (G5 r tx ty fx fy cx cy) m_E_aa_23
  have e_E_aa_25 : (zG r fx fy tx ty cx cy) = (DV r tx ty fx fy cx cy) := by unfold zG; simp only [e_E_aa_23, e_E_aa_24]; exact q8_0
  have m_E_aa_25 : Num' (DV r tx ty fx fy cx cy) := n8_0
  have e_E_aa_26 : (zH r fx fy tx ty cx cy) = (G6 r tx ty fx fy cx cy) := by unfold zH; simp only [e_E_aa_23, e_E_aa_24]; exact q8_1
  obtain ⟨pA9, pB9, q9_0, q9_1, n9_0⟩ := @ahD (DV r tx ty fx fy cx cy) (G6 r tx ty fx fy cx cy) m_E_aa_25
  have e_E_aa_27 : (zI r fx fy tx ty cx cy) = (DW r tx ty fx fy cx cy) := by unfold zI; simp only [e_E_aa_25, e_E_aa_26]; exact q9_0
  have m_E_aa_27 : Num' (DW r tx ty fx fy cx cy) := n9_0
  have e_E_aa_28 : (zJ r fx fy tx ty cx cy) = (G7 r tx ty fx fy cx cy) := by unfold zJ; simp only [e_E_aa_25, e_E_aa_26]; exact q9_1
  obtain ⟨pA10, pB10, q10_0, q10_1, n10_0⟩ := @ahJ (rD tx ty fx fy) (rE tx ty fx fy) (nS fx fy cx cy) (kC fx fy cx cy) (sW tx ty fx fy) (sZ tx ty fx fy) (oO fx fy cx cy) (kN fx fy cx cy) m_E_aa_12 m_E_aa_14 m_E_aa_4 m_E_aa_6
  have e_E_aa_29 : (GL fx fy tx ty cx cy) = (KL tx ty fx fy cx cy) := by unfold GL; simp only [e_E_aa_12, e_E_aa_13, e_E_aa_14, e_E_aa_15, e_E_aa_4, e_E_aa_5, e_E_aa_6, e_E_aa_7]; exact q10_0
  have m_E_aa_29 : Num' (KL tx ty fx fy cx cy) := n10_0
  have e_E_aa_30 : (GN fx fy tx ty cx cy) = (PG tx ty fx fy cx cy) := by unfold GN; simp only [e_E_aa_12, e_E_aa_13, e_E_aa_14, e_E_aa_15, e_E_aa_4, e_E_aa_5, e_E_aa_6, e_E_aa_7]; exact q10_1
  obtain ⟨q11_0, q11_1, n11_0⟩ := @afs (KL tx ty fx fy cx cy) (PG tx ty fx fy cx cy) m_E_aa_29
  have e_E_aa_31 : (zK fx fy tx ty cx cy) = (DX tx ty fx fy cx cy) := by unfold zK; simp only [e_E_aa_29, e_E_aa_30]; exact q11_0
  have m_E_aa_31 : Num' (DX tx ty fx fy cx cy) := n11_0
  have e_E_aa_32 : (zL fx fy tx ty cx cy) = (G8 tx ty fx fy cx cy) := by unfold zL; simp only [e_E_aa_29, e_E_aa_30]; exact q11_1
  obtain ⟨pA12, pB12, q12_0, q12_1, n12_0⟩ := @afu (DX tx ty fx fy cx cy) (DW r tx ty fx fy cx cy) (G8 tx ty fx fy cx cy) (G7 r tx ty fx fy cx cy) m_E_aa_31 m_E_aa_27
  have e_E_aa_33 : (zM fx fy tx ty cx cy r) = (DY tx ty fx fy cx cy r) := by unfold zM; simp only [e_E_aa_31, e_E_aa_32, e_E_aa_27, e_E_aa_28]; exact q12_0
  have m_E_aa_33 : Num' (DY tx ty fx fy cx cy r) := n12_0
  have e_E_aa_34 : (zN fx fy tx ty cx cy r) = (G9 tx ty fx fy cx cy r) := by unfold zN; simp only [e_E_aa_31, e_E_aa_32, e_E_aa_27, e_E_aa_28]; exact q12_1
  obtain ⟨pA13, pB13, q13_0, q13_1, n13_0⟩ := @ab5 (nP tx ty fx fy) (nR tx ty fx fy) (oM tx ty fx fy) (oN tx ty fx fy) m_E_aa_8 m_E_aa_10
  have e_E_aa_35 : (zO fx fy tx ty) = (DZ tx ty fx fy) := by unfold zO; simp only [e_E_aa_8, e_E_aa_9, e_E_aa_10, e_E_aa_11]; exact q13_0
  have m_E_aa_35 : Num' (DZ tx ty fx fy) := n13_0
  have e_E_aa_36 : (zQ fx fy tx ty) = (He tx ty fx fy) := by unfold zQ; simp only [e_E_aa_8, e_E_aa_9, e_E_aa_10, e_E_aa_11]; exact q13_1
  obtain ⟨pA14, pB14, q14_0, q14_1, n14_0⟩ := @Y9 (DY tx ty fx fy cx cy r) (DZ tx ty fx fy) (G9 tx ty fx fy cx cy r) (He tx ty fx fy) m_E_aa_33 m_E_aa_35
  have e_E_aa_37 : (zS fx fy tx ty cx cy r) = (zV tx ty fx fy cx cy r) := by unfold zS; simp only [e_E_aa_33, e_E_aa_34, e_E_aa_35, e_E_aa_36]; exact q14_0
  have m_E_aa_37 : Num' (zV tx ty fx fy cx cy r) := n14_0
  have e_E_aa_38 : (zT fx fy tx ty cx cy r) = (D5 tx ty fx fy cx cy r) := by unfold zT; simp only [e_E_aa_33, e_E_aa_34, e_E_aa_35, e_E_aa_36]; exact q14_1
  obtain ⟨pA15, pB15, q15_0, q15_1, n15_0⟩ := @afz (zV tx ty fx fy cx cy r) 0 4294967296 (D5 tx ty fx fy cx cy r) false false m_E_aa_37 n0 avP
  have e_E_aa_39 : (pJ fx fy tx ty cx cy r) = (vC tx ty fx fy cx cy r) := by unfold pJ; simp only [e_E_aa_37, e_E_aa_38, ei0, ei1]; exact q15_0
  have m_E_aa_39 : Num' (vC tx ty fx fy cx cy r) := n15_0
  have e_E_aa_40 : (pK fx fy tx ty cx cy r) = (zW tx ty fx fy cx cy r) := by unfold pK; simp only [e_E_aa_37, e_E_aa_38, ei0, ei1]; exact q15_1
  obtain ⟨pA16, pB16, q16_0, q16_1, q16_2, q16_3, n16_0, n16_2⟩ := @adA (nP tx ty fx fy) (nR tx ty fx fy) (vC tx ty fx fy cx cy r) (oM tx ty fx fy) (oN tx ty fx fy) (zW tx ty fx fy cx cy r) m_E_aa_8 m_E_aa_10 m_E_aa_39
  have e_E_aa_41 : (uU fx fy tx ty cx cy r) = (wP tx ty fx fy cx cy r) := by unfold uU; simp only [e_E_aa_8, e_E_aa_9, e_E_aa_10, e_E_aa_11, e_E_aa_39, e_E_aa_40]; exact q16_0
  have m_E_aa_41 : Num' (wP tx ty fx fy cx cy r) := n16_0
  have e_E_aa_42 : (uV fx fy tx ty cx cy r) = (zX tx ty fx fy cx cy r) := by unfold uV; simp only [e_E_aa_8, e_E_aa_9, e_E_aa_10, e_E_aa_11, e_E_aa_39, e_E_aa_40]; exact q16_1
  have e_E_aa_43 : (uX fx fy tx ty cx cy r) = (wQ tx ty fx fy cx cy r) := by unfold uX; simp only [e_E_aa_8, e_E_aa_9, e_E_aa_10, e_E_aa_11, e_E_aa_39, e_E_aa_40]; exact q16_2
  have m_E_aa_43 : Num' (wQ tx ty fx fy cx cy r) := n16_2
  have e_E_aa_44 : (uY fx fy tx ty cx cy r) = (zY tx ty fx fy cx cy r) := by unfold uY; simp only [e_E_aa_8, e_E_aa_9, e_E_aa_10, e_E_aa_11, e_E_aa_39, e_E_aa_40]; exact q16_3
  obtain ⟨pA17, pB17, q17_0, q17_1, q17_2, q17_3, n17_0, n17_2⟩ := @ab4 (nS fx fy cx cy) (kC fx fy cx cy) (wP tx ty fx fy cx cy r) (wQ tx ty fx fy cx cy r) (oO fx fy cx cy) (kN fx fy cx cy) (zX tx ty fx fy cx cy r) (zY tx ty fx fy cx cy r) m_E_aa_4 m_E_aa_6 m_E_aa_41 m_E_aa_43
  have e_E_aa_45 : (uZ cx cy fx fy tx ty r) = (wR fx fy cx cy tx ty r) := by unfold uZ; simp only [e_E_aa_4, e_E_aa_41, e_E_aa_5, e_E_aa_42, e_E_aa_6, e_E_aa_43, e_E_aa_7, e_E_aa_44]; exact q17_0
  have m_E_aa_45 : Num' (wR fx fy cx cy tx ty r) := n17_0
  have e_E_aa_46 : (vg cx cy fx fy tx ty r) = (zZ fx fy cx cy tx ty r) := by unfold vg; simp only [e_E_aa_4, e_E_aa_41, e_E_aa_5, e_E_aa_42, e_E_aa_6, e_E_aa_43, e_E_aa_7, e_E_aa_44]; exact q17_1
  have e_E_aa_47 : (vk cx cy fx fy tx ty r) = (wS fx fy cx cy tx ty r) := by unfold vk; simp only [e_E_aa_4, e_E_aa_41, e_E_aa_5, e_E_aa_42, e_E_aa_6, e_E_aa_43, e_E_aa_7, e_E_aa_44]; exact q17_2
  have m_E_aa_47 : Num' (wS fx fy cx cy tx ty r) := n17_2
  have e_E_aa_48 : (vw cx cy fx fy tx ty r) = (Aa fx fy cx cy tx ty r) := by unfold vw; simp only [e_E_aa_4, e_E_aa_41, e_E_aa_5, e_E_aa_42, e_E_aa_6, e_E_aa_43, e_E_aa_7, e_E_aa_44]; exact q17_3
  obtain ⟨pA18, pB18, q18_0, q18_1, q18_2, q18_3, q18_4, n18_0, n18_2⟩ := @Wq (wR fx fy cx cy tx ty r) (wS fx fy cx cy tx ty r) (zZ fx fy cx cy tx ty r) (Aa fx fy cx cy tx ty r) m_E_aa_45 m_E_aa_47
  have e_E_aa_49 : (GR cx cy fx fy tx ty r) = (PI fx fy cx cy tx ty r) := by unfold GR; simp only [e_E_aa_45, e_E_aa_46, e_E_aa_47, e_E_aa_48]; exact q18_0
  have m_E_aa_49 : Num' (PI fx fy cx cy tx ty r) := n18_0
  have e_E_aa_50 : (GU cx cy fx fy tx ty r) = (WW fx fy cx cy tx ty r) := by unfold GU; simp only [e_E_aa_45, e_E_aa_46, e_E_aa_47, e_E_aa_48]; exact q18_1
  have e_E_aa_51 : (GV cx cy fx fy tx ty r) = (PK fx fy cx cy tx ty r) := by unfold GV; simp only [e_E_aa_45, e_E_aa_46, e_E_aa_47, e_E_aa_48]; exact q18_2
  have m_E_aa_51 : Num' (PK fx fy cx cy tx ty r) := n18_2
  have e_E_aa_52 : (GX cx cy fx fy tx ty r) = (WX fx fy cx cy tx ty r) := by unfold GX; simp only [e_E_aa_45, e_E_aa_46, e_E_aa_47, e_E_aa_48]; exact q18_3
  obtain ⟨v0, v1, v2, vr, v3⟩ := afZ hc hf ht hr0
  have d0 : uQ fx fy tx ty = uS tx ty fx fy := rfl
  have d1 : jP cx cy fx fy tx ty = kX fx fy cx cy tx ty := rfl
  have d2 : WE cx cy fx fy = Ti fx fy cx cy := rfl
  have has : fE cx cy r tx ty = Rh k cx cy r n da db tx ty := by unfold Rh; rw [hk]; rfl
  have hasv : Rh k cx cy r n da db tx ty = ile ((tx - cx) * (tx - cx) + (ty - cy) * (ty - cy)) (r * r) := by unfold Rh; rw [hk, cond_true, v3, vr]
  obtain ⟨a, ha⟩ : ∃ a, (tx - fx) * (tx - fx) + (ty - fy) * (ty - fy) = a := ⟨_, rfl⟩
  obtain ⟨b, hb⟩ : ∃ b, (fx - cx) * (tx - fx) + (fy - cy) * (ty - fy) = b := ⟨_, rfl⟩
  obtain ⟨c, hcc⟩ : ∃ c, (fx - cx) * (fx - cx) + (fy - cy) * (fy - cy) - r * r = c := ⟨_, rfl⟩
  have hexp : (tx - cx) * (tx - cx) + (ty - cy) * (ty - cy) - r * r = a + 2 * b + c := by
    have e1 := acw (fx - cx) (tx - fx)
    have e2 := acw (fy - cy) (ty - fy)
    rw [show fx - cx + (tx - fx) = tx - cx by omega] at e1
    rw [show fy - cy + (ty - fy) = ty - cy by omega] at e2
    omega
  have hbd : -70368744177664 <= b /\ b <= 70368744177664 /\ 0 <= a /\ a <= 70368744177664 /\ -70368744177664 <= c /\ c <= 70368744177664 := by
    have h1 := hc
    have h2 := hf
    have h3 := ht
    rw [gJ] at h1 h2 h3
    have bb := fun (p q:Int) (h1 : -4194304 <= p) (h2 : p <= 4194304) (h3 : -4194304 <= q) (h4 : q <= 4194304) => Gp h1 h2 h3 h4
    have s1 := bb (tx - fx) (tx - fx) (by omega) (by omega) (by omega) (by omega)
    have s2 := bb (ty - fy) (ty - fy) (by omega) (by omega) (by omega) (by omega)
    have s3 := bb (fx - cx) (tx - fx) (by omega) (by omega) (by omega) (by omega)
    have s4 := bb (fy - cy) (ty - fy) (by omega) (by omega) (by omega) (by omega)
    have s5 := bb (fx - cx) (fx - cx) (by omega) (by omega) (by omega) (by omega)
    have s6 := bb (fy - cy) (fy - cy) (by omega) (by omega) (by omega) (by omega)
    have s7 := bb r r (by omega) (by omega) (by omega) (by omega)
    have := aji (tx - fx)
    have := aji (ty - fy)
    omega
  obtain ⟨po, eo⟩ := Dk (a := b) (b := b) (c := a) (d := c) ⟨by omega, by omega⟩ ⟨by omega, by omega⟩ ⟨by omega, by omega⟩ ⟨by omega, by omega⟩
  have eo2 : NY b b a c = AX (b * b) (a * c) := afB ⟨by omega, by omega⟩ ⟨by omega, by omega⟩ ⟨by omega, by omega⟩ ⟨by omega, by omega⟩
  have g0 : uS tx ty fx fy = a := v0.trans ha
  have g1 : kX fx fy cx cy tx ty = b := v1.trans hb
  have g2 : bQ .i64 (Ti fx fy cx cy) (aI .i64 r r) = c := v2.trans hcc
  have f3 : zh cx cy fx fy tx ty r = AX (b * b) (a * c) := by unfold zh; rw [d0, d1, d2, g0, g1, g2]; exact eo
  have g3 : Bq fx fy cx cy tx ty r = AX (b * b) (a * c) := by unfold Bq; rw [g0, g1, g2]; exact eo2
  have eng : bM .i64 b = -b := rF (by omega) (by omega)
  have PA : Yb cx cy r fx fy tx ty := by
    unfold Yb
    simp only [d0, d1, d2, g0, g1, g2, apY, apZ, er0, er1, ei0, ei1, e_E_aa_4, e_E_aa_5, e_E_aa_6, e_E_aa_7, e_E_aa_8, e_E_aa_9, e_E_aa_10, e_E_aa_11, e_E_aa_12, e_E_aa_13, e_E_aa_14, e_E_aa_15, e_E_aa_17, e_E_aa_18, e_E_aa_19, e_E_aa_20, e_E_aa_21, e_E_aa_22, e_E_aa_23, e_E_aa_24, e_E_aa_25, e_E_aa_26, e_E_aa_27, e_E_aa_28, e_E_aa_29, e_E_aa_30, e_E_aa_31, e_E_aa_32, e_E_aa_33, e_E_aa_34, e_E_aa_35, e_E_aa_36, e_E_aa_37, e_E_aa_38, e_E_aa_39, e_E_aa_40, e_E_aa_41, e_E_aa_42, e_E_aa_43, e_E_aa_44, e_E_aa_45, e_E_aa_46, e_E_aa_47, e_E_aa_48, e_E_aa_49, e_E_aa_50, e_E_aa_51, e_E_aa_52]
    repeat' first
      | assumption
      | exact trivial
      | refine aC (fun _ => ?_) (fun _ => ?_)
      | refine ⟨?_, ?_⟩
  have PB : ahT k cx cy r n da db fx fy tx ty := by
    unfold ahT
    repeat' first
      | assumption
      | exact trivial
      | refine aC (fun _ => ?_) (fun _ => ?_)
      | refine ⟨?_, ?_⟩
  have key : ∀ {α : Type} (z v : α), cond (!(Rh k cx cy r n da db tx ty)) (cond (ige b 0) z (cond (ige (-b) a) z (cond (ilt (AX (b * b) (a * c)) 0) z v))) v = cond (!(Rh k cx cy r n da db tx ty)) (cond (ige b 0) z (cond (igt (-b) a) z (cond (ilt (AX (b * b) (a * c)) 0) z v))) v := fun z v => by
    rw [hasv]
    cases hh : ile ((tx - cx) * (tx - cx) + (ty - cy) * (ty - cy)) (r * r) with
    | true => rfl
    | false =>
      rw [Qh] at hh
      by_cases h1 : 0 <= b
      . rw [mD.2 h1]; rfl
      . rw [pU.2 (by omega)]
        simp only [Bool.not_false, cond_true, cond_false]
        by_cases h2 : a < -b
        . rw [mD.2 (by omega), qY.2 h2]
        . by_cases h3 : a = -b
          . have h4 : a < c := by omega
            have h5 : b * b < a * c := by
              have e1 : b * b = a * a := by rw [show b = -a by omega, Int.neg_mul_neg]
              rw [e1]
              exact Int.mul_lt_mul_of_pos_left h4 (by omega)
            rw [mD.2 (by omega), nV.2 (by omega), Nh h5, dY.2 (show (-1:Int) < 0 by decide)]
            rfl
          . rw [pU.2 (by omega), nV.2 (by omega)]
  refine ⟨PA, PB, ?_, ?_, ?_, ?_, ?_, ?_, ?_⟩
  . unfold NP ZJ
    simp only [d0, d1, d2, g0, g1, f3, g3, eng, has, e_E_aa_4, e_E_aa_5, e_E_aa_6, e_E_aa_7, e_E_aa_8, e_E_aa_9, e_E_aa_10, e_E_aa_11, e_E_aa_12, e_E_aa_13, e_E_aa_14, e_E_aa_15, e_E_aa_17, e_E_aa_18, e_E_aa_19, e_E_aa_20, e_E_aa_21, e_E_aa_22, e_E_aa_23, e_E_aa_24, e_E_aa_25, e_E_aa_26, e_E_aa_27, e_E_aa_28, e_E_aa_29, e_E_aa_30, e_E_aa_31, e_E_aa_32, e_E_aa_33, e_E_aa_34, e_E_aa_35, e_E_aa_36, e_E_aa_37, e_E_aa_38, e_E_aa_39, e_E_aa_40, e_E_aa_41, e_E_aa_42, e_E_aa_43, e_E_aa_44, e_E_aa_45, e_E_aa_46, e_E_aa_47, e_E_aa_48, e_E_aa_49, e_E_aa_50, e_E_aa_51, e_E_aa_52]
    exact key _ _
  . unfold NQ Tj
    simp only [d0, d1, d2, g0, g1, f3, g3, eng, has, e_E_aa_4, e_E_aa_5, e_E_aa_6, e_E_aa_7, e_E_aa_8, e_E_aa_9, e_E_aa_10, e_E_aa_11, e_E_aa_12, e_E_aa_13, e_E_aa_14, e_E_aa_15, e_E_aa_17, e_E_aa_18, e_E_aa_19, e_E_aa_20, e_E_aa_21, e_E_aa_22, e_E_aa_23, e_E_aa_24, e_E_aa_25, e_E_aa_26, e_E_aa_27, e_E_aa_28, e_E_aa_29, e_E_aa_30, e_E_aa_31, e_E_aa_32, e_E_aa_33, e_E_aa_34, e_E_aa_35, e_E_aa_36, e_E_aa_37, e_E_aa_38, e_E_aa_39, e_E_aa_40, e_E_aa_41, e_E_aa_42, e_E_aa_43, e_E_aa_44, e_E_aa_45, e_E_aa_46, e_E_aa_47, e_E_aa_48, e_E_aa_49, e_E_aa_50, e_E_aa_51, e_E_aa_52]
    exact key _ _
  . unfold NR ZK
    simp only [d0, d1, d2, g0, g1, f3, g3, eng, has, e_E_aa_4, e_E_aa_5, e_E_aa_6, e_E_aa_7, e_E_aa_8, e_E_aa_9, e_E_aa_10, e_E_aa_11, e_E_aa_12, e_E_aa_13, e_E_aa_14, e_E_aa_15, e_E_aa_17, e_E_aa_18, e_E_aa_19, e_E_aa_20, e_E_aa_21, e_E_aa_22, e_E_aa_23, e_E_aa_24, e_E_aa_25, e_E_aa_26, e_E_aa_27, e_E_aa_28, e_E_aa_29, e_E_aa_30, e_E_aa_31, e_E_aa_32, e_E_aa_33, e_E_aa_34, e_E_aa_35, e_E_aa_36, e_E_aa_37, e_E_aa_38, e_E_aa_39, e_E_aa_40, e_E_aa_41, e_E_aa_42, e_E_aa_43, e_E_aa_44, e_E_aa_45, e_E_aa_46, e_E_aa_47, e_E_aa_48, e_E_aa_49, e_E_aa_50, e_E_aa_51, e_E_aa_52]
    exact key _ _
  . unfold NS ZL
    simp only [d0, d1, d2, g0, g1, f3, g3, eng, has, e_E_aa_4, e_E_aa_5, e_E_aa_6, e_E_aa_7, e_E_aa_8, e_E_aa_9, e_E_aa_10, e_E_aa_11, e_E_aa_12, e_E_aa_13, e_E_aa_14, e_E_aa_15, e_E_aa_17, e_E_aa_18, e_E_aa_19, e_E_aa_20, e_E_aa_21, e_E_aa_22, e_E_aa_23, e_E_aa_24, e_E_aa_25, e_E_aa_26, e_E_aa_27, e_E_aa_28, e_E_aa_29, e_E_aa_30, e_E_aa_31, e_E_aa_32, e_E_aa_33, e_E_aa_34, e_E_aa_35, e_E_aa_36, e_E_aa_37, e_E_aa_38, e_E_aa_39, e_E_aa_40, e_E_aa_41, e_E_aa_42, e_E_aa_43, e_E_aa_44, e_E_aa_45, e_E_aa_46, e_E_aa_47, e_E_aa_48, e_E_aa_49, e_E_aa_50, e_E_aa_51, e_E_aa_52]
    exact key _ _
  . unfold NT ZM
    simp only [d0, d1, d2, g0, g1, f3, g3, eng, has, e_E_aa_4, e_E_aa_5, e_E_aa_6, e_E_aa_7, e_E_aa_8, e_E_aa_9, e_E_aa_10, e_E_aa_11, e_E_aa_12, e_E_aa_13, e_E_aa_14, e_E_aa_15, e_E_aa_17, e_E_aa_18, e_E_aa_19, e_E_aa_20, e_E_aa_21, e_E_aa_22, e_E_aa_23, e_E_aa_24, e_E_aa_25, e_E_aa_26, e_E_aa_27, e_E_aa_28, e_E_aa_29, e_E_aa_30, e_E_aa_31, e_E_aa_32, e_E_aa_33, e_E_aa_34, e_E_aa_35, e_E_aa_36, e_E_aa_37, e_E_aa_38, e_E_aa_39, e_E_aa_40, e_E_aa_41, e_E_aa_42, e_E_aa_43, e_E_aa_44, e_E_aa_45, e_E_aa_46, e_E_aa_47, e_E_aa_48, e_E_aa_49, e_E_aa_50, e_E_aa_51, e_E_aa_52]
    exact key _ _
  . unfold NU ZN
    simp only [d0, d1, d2, g0, g1, f3, g3, eng, has, e_E_aa_4, e_E_aa_5, e_E_aa_6, e_E_aa_7, e_E_aa_8, e_E_aa_9, e_E_aa_10, e_E_aa_11, e_E_aa_12, e_E_aa_13, e_E_aa_14, e_E_aa_15, e_E_aa_17, e_E_aa_18, e_E_aa_19, e_E_aa_20, e_E_aa_21, e_E_aa_22, e_E_aa_23, e_E_aa_24, e_E_aa_25, e_E_aa_26, e_E_aa_27, e_E_aa_28, e_E_aa_29, e_E_aa_30, e_E_aa_31, e_E_aa_32, e_E_aa_33, e_E_aa_34, e_E_aa_35, e_E_aa_36, e_E_aa_37, e_E_aa_38, e_E_aa_39, e_E_aa_40, e_E_aa_41, e_E_aa_42, e_E_aa_43, e_E_aa_44, e_E_aa_45, e_E_aa_46, e_E_aa_47, e_E_aa_48, e_E_aa_49, e_E_aa_50, e_E_aa_51, e_E_aa_52]
    exact key _ _
  . unfold NV ZO
    simp only [d0, d1, d2, g0, g1, f3, g3, eng, has, e_E_aa_4, e_E_aa_5, e_E_aa_6, e_E_aa_7, e_E_aa_8, e_E_aa_9, e_E_aa_10, e_E_aa_11, e_E_aa_12, e_E_aa_13, e_E_aa_14, e_E_aa_15, e_E_aa_17, e_E_aa_18, e_E_aa_19, e_E_aa_20, e_E_aa_21, e_E_aa_22, e_E_aa_23, e_E_aa_24, e_E_aa_25, e_E_aa_26, e_E_aa_27, e_E_aa_28, e_E_aa_29, e_E_aa_30, e_E_aa_31, e_E_aa_32, e_E_aa_33, e_E_aa_34, e_E_aa_35, e_E_aa_36, e_E_aa_37, e_E_aa_38, e_E_aa_39, e_E_aa_40, e_E_aa_41, e_E_aa_42, e_E_aa_43, e_E_aa_44, e_E_aa_45, e_E_aa_46, e_E_aa_47, e_E_aa_48, e_E_aa_49, e_E_aa_50, e_E_aa_51, e_E_aa_52]
    exact key _ _

--ID gj
theorem Ye {k ba bb c : Int} {n : Nat} {da db : Nat -> Int} (h : Vs k ba bb c n da db = 0) : dM ba bb = true /\ (∀ j, j < n -> dM (da j) (db j) = true) /\ (ieq k 1 = false -> 3 <= n /\ n <= 8 /\ KH n da db) /\ (ieq k 1 = true -> 1 <= c /\ c <= 2097152) := by
  unfold Vs at h
  rw [valid_eq] at h
  cases h1 : (!(ieq k 1) && ine k 2) with
  | true => rw [h1] at h; simp at h
  | false =>
    rw [h1] at h
    cases h2 : dM ba bb with
    | false => rw [h2] at h; simp at h
    | true =>
      rw [h2] at h
      cases h3 : sK n da db with
      | false => rw [h3] at h; simp at h
      | true =>
        rw [h3] at h
        simp only [cond_false, Bool.not_true] at h
        refine ⟨rfl, qE.1 h3, fun hk => ?_, fun hk => ?_⟩
        . rw [hk] at h
          simp only [cond_false] at h
          cases h4 : ine c 0 with
          | true => rw [h4] at h; simp at h
          | false =>
            rw [h4] at h
            cases h5 : ilt (n:Int) 3 with
            | true => rw [h5] at h; simp at h
            | false =>
              rw [h5] at h
              cases h6 : igt (n:Int) 8 with
              | true => rw [h6] at h; simp at h
              | false =>
                rw [h6] at h
                cases h7 : Vx n da db with
                | false => rw [h7] at h; simp at h
                | true =>
                  have := BO.1 h7
                  rw [nV] at h6
                  exact ⟨this.1, by omega, this.2⟩
        . rw [hk] at h
          simp only [cond_true] at h
          cases h4 : (ige c 1 && (igt c 2097152 || ine (I8 (Zh ba bb c) (afE ba bb c) (Zi ba bb c) (afF ba bb c)) 0)) with
          | true => rw [h4] at h; simp at h
          | false =>
            rw [h4] at h
            cases h5 : ilt c 1 with
            | true => rw [h5] at h; simp at h
            | false =>
              rw [fJ] at h5
              rw [mD.2 h5, Bool.true_and, Bool.or_eq_false_iff, nV] at h4
              exact ⟨h5, h4.1⟩
def aq8 (k ba bb c:Int) (n:Nat) (da db:Nat -> Int) (fx fy tx ty:Int) : Prop := n <= 1000000 /\ (Vs k ba bb c n da db = 0 -> dM fx fy = true -> dM tx ty = true -> ieq k 1 = true -> ahT k ba bb c n da db fx fy tx ty)
def KN (k ba bb c:Int) (n:Nat) (da db:Nat -> Int) (fx fy tx ty:Int) {α : Type} (z w r : α) (p : Nat -> Int -> Int -> α) : α :=
  cond (ine (Vs k ba bb c n da db) 0) z (cond (!(dM fx fy)) z (cond (!(dM tx ty)) z (cond (Rh k ba bb c n da db fx fy) w (cond (ieq k 1) r (match pmH n da db fx fy tx ty with | none => z | some (i, x, y) => p i x y)))))
def ZE (k ba bb c:Int) (n:Nat) (da db:Nat -> Int) (fx fy tx ty:Int) : Bool := KN k ba bb c n da db fx fy tx ty false true (ZJ k ba bb c n da db fx fy tx ty) (fun i x y => true)
def ZF (k ba bb c:Int) (n:Nat) (da db:Nat -> Int) (fx fy tx ty:Int) : Int := KN k ba bb c n da db fx fy tx ty 0 0 (Tj k ba bb c n da db fx fy tx ty) (fun i x y => jG (-x) (-y))
def ZG (k ba bb c:Int) (n:Nat) (da db:Nat -> Int) (fx fy tx ty:Int) : Bool := KN k ba bb c n da db fx fy tx ty false false (ZK k ba bb c n da db fx fy tx ty) (fun i x y => jW (-x) (-y))
def ZH (k ba bb c:Int) (n:Nat) (da db:Nat -> Int) (fx fy tx ty:Int) : Int := KN k ba bb c n da db fx fy tx ty 0 0 (ZL k ba bb c n da db fx fy tx ty) (fun i x y => Np (da i) (db i) (da (nxE n i)) (db (nxE n i)))
def aip (k ba bb c:Int) (n:Nat) (da db:Nat -> Int) (fx fy tx ty:Int) : Bool := KN k ba bb c n da db fx fy tx ty false false (ZM k ba bb c n da db fx fy tx ty) (fun i x y => abm (da i) (db i) (da (nxE n i)) (db (nxE n i)))
def aiq (k ba bb c:Int) (n:Nat) (da db:Nat -> Int) (fx fy tx ty:Int) : Int := KN k ba bb c n da db fx fy tx ty 0 0 (ZN k ba bb c n da db fx fy tx ty) (fun i x y => Wp (da i) (db i) (da (nxE n i)) (db (nxE n i)))
def ait (k ba bb c:Int) (n:Nat) (da db:Nat -> Int) (fx fy tx ty:Int) : Bool := KN k ba bb c n da db fx fy tx ty false false (ZO k ba bb c n da db fx fy tx ty) (fun i x y => abn (da i) (db i) (da (nxE n i)) (db (nxE n i)))
theorem adO {n : Nat} {a b a' b' : Nat -> Int} {fx fy tx ty : Int} (h : ∀ j, j < n -> a' j = a j /\ b' j = b j) : pmH n a' b' fx fy tx ty = pmH n a b fx fy tx ty := by
  unfold pmH aci
  rw [OC (g' := gT n a b fx fy) (h' := gT n a b tx ty) (fun k hk => by
    obtain ⟨h1, h2⟩ := h k hk
    obtain ⟨h3, h4⟩ := h _ (y9 hk)
    unfold gT
    rw [h1, h2, h3, h4]
    exact ⟨rfl, rfl⟩)]
theorem Yf {n : Nat} {a b : Nat -> Int} {fx fy tx ty : Int} (hv : ∀ k, k < n -> dM (a k) (b k) = true) (hf : dM fx fy = true) (ht : dM tx ty = true) {i : Nat} {x y : Int} (h : pmH n a b fx fy tx ty = some (i, x, y)) : i < n /\ Num' (-x) /\ Num' (-y) /\ 0 < x /\ x <= y /\ x = -(gT n a b fx fy i) /\ y = gT n a b tx ty i - gT n a b fx fy i := by
  unfold pmH aci at h
  cases hs : ug (gT n a b fx fy) (gT n a b tx ty) n with
  | none => rw [hs] at h; cases h
  | some s =>
    obtain ⟨i0, x0, y0, c0, d0⟩ := s
    rw [hs] at h
    simp only at h
    have hst := KI (B := 35184372088832) (by omega) (fun k hk => OD hk hv hf) (fun k hk => OD hk hv ht) (k := n) (by omega) hs
    split at h
    . cases h
    . rename_i hc
      simp only [Option.some.injEq, Prod.mk.injEq] at h
      obtain ⟨rfl, rfl, rfl⟩ := h
      rcases hst.1 with h1 | h1
      . omega
      . exact ⟨by omega, ⟨by omega, by omega⟩, ⟨by omega, by omega⟩, by omega, by omega, by omega, by omega⟩
theorem ana {k ba bb c : Int} {n : Nat} {da db da' db' : Nat -> Int} {px py : Int} (h : ∀ j, j < n -> da' j = da j /\ db' j = db j) (hk : ieq k 1 = false) (hv : ∀ j, j < n -> dM (da j) (db j) = true) (hp : dM px py = true) : Bh n da' db' px py = Rh k ba bb c n da db px py := by
  unfold Rh
  rw [hk, cond_false]
  unfold Bh
  rw [Bool.eq_iff_iff, List.all_eq_true, List.all_eq_true]
  have key : ∀ j, j < n -> OG n da' db' px py j = am8 n da db px py j := fun j hj => by
    obtain ⟨h1, h2⟩ := h j hj
    obtain ⟨h3, h4⟩ := h _ (y9 hj)
    unfold OG am8
    rw [h1, h2, h3, h4, adN (hv j hj) (hv _ (y9 hj)) hp]
  exact ⟨fun g j hj => by rw [<- key j (List.mem_range.1 hj)]; exact g j hj, fun g j hj => by rw [key j (List.mem_range.1 hj)]; exact g j hj⟩
theorem af8 {k cx cy r px py : Int} {n : Nat} {da db : Nat -> Int} (hk : ieq k 1 = true) : fE cx cy r px py = Rh k cx cy r n da db px py := by
  unfold Rh; rw [hk]; rfl
theorem ahU {k ba bb c : Int} {n : Nat} {da db da' db' : Nat -> Int} {fx fy tx ty : Int} (hF : OE k ba bb c n da db) (h : ∀ j, j < n -> da' j = da j /\ db' j = db j) (h1 : I64 fx) (h2 : I64 fy) (h3 : I64 tx) (h4 : I64 ty) :
    NW k ba bb c n da' db' fx fy tx ty /\ aq8 k ba bb c n da db fx fy tx ty /\ oL k ba bb c n da' db' fx fy tx ty = ZE k ba bb c n da db fx fy tx ty /\ jZ k ba bb c n da' db' fx fy tx ty = ZF k ba bb c n da db fx fy tx ty /\ rJ k ba bb c n da' db' fx fy tx ty = ZG k ba bb c n da db fx fy tx ty /\ wB k ba bb c n da' db' fx fy tx ty = ZH k ba bb c n da db fx fy tx ty /\
    wC k ba bb c n da' db' fx fy tx ty = aip k ba bb c n da db fx fy tx ty /\ wE k ba bb c n da' db' fx fy tx ty = aiq k ba bb c n da db fx fy tx ty /\ wF k ba bb c n da' db' fx fy tx ty = ait k ba bb c n da db fx fy tx ty := by
  obtain ⟨⟨i1, i2, i3, i4⟩, hn, hI⟩ := hF
  have hF' : adI k ba bb c n da' db' := ⟨⟨i1, i2, i3, i4⟩, hn, fun j hj => by rw [(h j hj).1, (h j hj).2]; exact hI j hj⟩
  have ck := ZI (k := k) (ba := ba) (bb := bb) (c := c) h
  have hfair : AZ 2 (ay 1 (fun _ => fx) tx) (ay 1 (fun _ => fy) ty) := afS h1 h2 h3 h4
  unfold NW aq8 oL jZ rJ wB wC wE wF ZE ZF ZG ZH aip aiq ait KN sN sO
  simp only [nO, Bj, Zw, Zx, Zy, Zz, ZA, ZB, ZC, Bo, WI, WJ, WL, WM, WO, WQ, WR]
  have f10 : kK k ba bb c n da' db' = ba := rfl
  have f11 : kL k ba bb c n da' db' = bb := rfl
  have f12 : kM k ba bb c n da' db' = c := rfl
  have f20 : jR k ba bb c n da' db' = n := rfl
  have f21 : jS k ba bb c n da' db' = da' := rfl
  have f22 : jT k ba bb c n da' db' = db' := rfl
  rw [ck, ajg, f10, f11, f12, f20, f21, f22]
  cases hc : ine (Vs k ba bb c n da db) 0 with
  | true =>
    rw [tY] at hc
    exact ⟨⟨hF', trivial⟩, ⟨hn, fun h => absurd h hc⟩, rfl, rfl, rfl, rfl, rfl, rfl, rfl⟩
  | false =>
    rw [tZ] at hc
    obtain ⟨q1, hv, q3, q4⟩ := Ye hc
    have hv' : ∀ j, j < n -> dM (da' j) (db' j) = true := fun j hj => by rw [(h j hj).1, (h j hj).2]; exact hv j hj
    simp only [cond_false]
    cases hf : dM fx fy with
    | false =>
      simp only [Bool.false_and, Bool.not_false, cond_true]
      cases hk : ieq k 1 <;> exact ⟨⟨hF', hfair, trivial⟩, ⟨hn, fun _ h => by cases h⟩, rfl, rfl, rfl, rfl, rfl, rfl, rfl⟩
    | true =>
      cases ht : dM tx ty with
      | false =>
        simp only [Bool.true_and, Bool.not_false, Bool.not_true, cond_true, cond_false]
        cases hk : ieq k 1 <;> exact ⟨⟨hF', hfair, trivial⟩, ⟨hn, fun _ _ h => by cases h⟩, rfl, rfl, rfl, rfl, rfl, rfl, rfl⟩
      | true =>
        simp only [Bool.true_and, Bool.not_true, cond_false]
        cases hk : ieq k 1 with
        | true =>
          simp only [cond_true]
          have hd : fE ba bb c fx fy = Rh k ba bb c n da db fx fy := af8 hk
          obtain ⟨r1, r2, e0, e1, e2, e3, e4, e5, e6⟩ := am9 (n := n) (da := da) (db := db) hk (q4 hk) hn q1 hf ht
          rw [hd, e0, e1, e2, e3, e4, e5, e6]
          refine ⟨⟨hF', hfair, ?_⟩, ⟨hn, fun _ _ _ _ => r2⟩, rfl, rfl, rfl, rfl, rfl, rfl, rfl⟩
          exact aC (fun _ => trivial) (fun _ => r1)
        | false =>
          simp only [cond_false]
          have hd : Bh n da' db' fx fy = Rh k ba bb c n da db fx fy := ana h hk hv hf
          rw [hd]
          unfold SV SX SY S9 Tc Td Tf
          rw [adO h]
          refine ⟨⟨hF', hfair, hn, aC (fun _ => trivial) (fun _ => ⟨⟨hn, hv'⟩, hf, ht⟩)⟩, ⟨hn, fun _ _ _ h => by cases h⟩, ?_⟩
          cases hh : Rh k ba bb c n da db fx fy with
          | true => exact ⟨rfl, rfl, rfl, rfl, rfl, rfl, rfl⟩
          | false =>
            simp only [cond_false]
            cases hp : pmH n da db fx fy tx ty with
            | none => exact ⟨rfl, rfl, rfl, rfl, rfl, rfl, rfl⟩
            | some s =>
              obtain ⟨i, x, y⟩ := s
              obtain ⟨hi, hx, hy, _⟩ := Yf hv hf ht hp
              obtain ⟨_, _, e1, e2, _⟩ := yQ hx hy
              obtain ⟨_, _, n0, n1, n2, n3, _⟩ := UR (hv i hi) (hv _ (y9 hi))
              simp only
              rw [(h i hi).1, (h i hi).2, (h _ (y9 hi)).1, (h _ (y9 hi)).2, e1, e2, n0, n1, n2, n3]
              refine ⟨?_, ?_, ?_, ?_, ?_, ?_, ?_⟩ <;> first | rfl | trivial
theorem ahV (v:Int) (f g h:Bool) : Num' (iY v f 0 g 4294967296 h) := by
  unfold iY vZ iL
  have e : ∀ (a b:Int), BK (fun k => whole (ay 1 (fun _ => a) b k)) 2 = min (whole a) (whole b) := fun a b => rfl
  have e' : ∀ (a b:Int), BL (fun k => whole (ay 1 (fun _ => a) b k)) 2 = max (whole a) (whole b) := fun a b => rfl
  rw [e, e']
  unfold whole Num'
  refine ⟨?_, ?_⟩ <;> split <;> split <;> (try split) <;> omega
theorem ahW (v:Int) (f g h:Bool) : Num' (iY v f (-4294967296) g 4294967296 h) := by
  unfold iY vZ iL
  have e : ∀ (a b:Int), BK (fun k => whole (ay 1 (fun _ => a) b k)) 2 = min (whole a) (whole b) := fun a b => rfl
  have e' : ∀ (a b:Int), BL (fun k => whole (ay 1 (fun _ => a) b k)) 2 = max (whole a) (whole b) := fun a b => rfl
  rw [e, e']
  unfold whole Num'
  refine ⟨?_, ?_⟩ <;> split <;> split <;> (try split) <;> omega
theorem acy (a:Int) (b:Bool) : Num' (Dp a b) := ahW _ _ _ _
theorem OH : Num' 0 := ⟨by decide, by decide⟩
theorem ahX (k cx cy r:Int) (n:Nat) (da db:Nat -> Int) (fx fy tx ty:Int) : Num' (Tj k cx cy r n da db fx fy tx ty) := by
  have h := fun a b c d e f g => (ahV (zV a b c d e f g) (D5 a b c d e f g) false false : Num' (vC a b c d e f g))
  unfold Tj
  refine dN (p := Num') (fun _ => ?_) (fun _ => h _ _ _ _ _ _ _)
  refine dN (p := Num') (fun _ => OH) (fun _ => ?_)
  refine dN (p := Num') (fun _ => OH) (fun _ => ?_)
  exact dN (p := Num') (fun _ => OH) (fun _ => h _ _ _ _ _ _ _)
theorem af9 {k ba bb c : Int} {n : Nat} {da db : Nat -> Int} {fx fy tx ty : Int} (hF : OE k ba bb c n da db) (h1 : I64 fx) (h2 : I64 fy) (h3 : I64 tx) (h4 : I64 ty) : NW k ba bb c n da db fx fy tx ty /\ Num' (jZ k ba bb c n da db fx fy tx ty) := by
  obtain ⟨p1, p2, e0, e1, _⟩ := ahU (fx := fx) (fy := fy) (tx := tx) (ty := ty) hF (fun j _ => ⟨rfl, rfl⟩) h1 h2 h3 h4
  refine ⟨p1, ?_⟩
  rw [e1]
  unfold ZF KN
  refine dN (p := Num') (fun _ => OH) (fun hc => ?_)
  rw [tZ] at hc
  obtain ⟨q1, hv, q3, q4⟩ := Ye hc
  refine dN (p := Num') (fun _ => OH) (fun hf => ?_)
  refine dN (p := Num') (fun _ => OH) (fun ht => ?_)
  refine dN (p := Num') (fun _ => OH) (fun _ => ?_)
  refine dN (p := Num') (fun _ => ahX _ _ _ _ _ _ _ _ _ _ _) (fun _ => ?_)
  simp only [Bool.not_eq_false'] at hf ht
  cases hp : pmH n da db fx fy tx ty with
  | none => exact OH
  | some s =>
    obtain ⟨i, x, y⟩ := s
    obtain ⟨hi, hx, hy, _⟩ := Yf hv hf ht hp
    obtain ⟨_, _, _, _, hn⟩ := yQ hx hy
    exact hn

def aoh (cm:Int) (ge:Bool) (K0 : Bool -> Prop)  : Prop := Ts 3 (((KF cm ge) /\ Ts 4 (cond (F9 cm ge) (Ts 2 (K0 true)) (Ts 5 (K0 (igt (F8 cm ge) 17592186044416))))))
def apU (cm:Int) (ge:Bool) : Prop := True
def Wu (cm:Int) (ge:Bool) : Bool := (cond (F9 cm ge) true (igt (F8 cm ge) 17592186044416))
theorem aw9 (cm:Int) (ge:Bool) {K0 : Bool -> Prop} (h : apU cm ge) (hK : K0 (Wu cm ge)) : aoh cm ge K0  := by
 unfold aoh apU Wu at *
 simp only [aH, true_and]
 repeat' first | exact hK | (refine aC (fun c => ?_) (fun c => ?_) <;> try simp only [c, cond_true, cond_false] at h hK ⊢) | refine ⟨rfl, ?_⟩ | refine ⟨trivial, ?_⟩ | refine ⟨by decide, ?_⟩ | (refine ⟨h.1, ?_⟩; replace h := h.2) | refine ⟨h, ?_⟩
def amM (ii:Int) (ik:Bool) (im:Int) (ip:Bool) (K0 : Int -> Int -> Prop)  : Prop := Ts 2 (((ac5 256) /\ Ts 5 (((XO ii ik (eG 256) (eH 256)) /\ ((XZ (bG ii ik (eG 256) (eH 256)) (bK ii ik (eG 256) (eH 256))) /\ Ts 3 (((XO im ip (eG 256) (eH 256)) /\ ((XZ (bG im ip (eG 256) (eH 256)) (bK im ip (eG 256) (eH 256))) /\ Ts 2 ((true = true /\ Ts 1 (K0 (Gf (bG ii ik (eG 256) (eH 256)) (bK ii ik (eG 256) (eH 256))) (Gf (bG im ip (eG 256) (eH 256)) (bK im ip (eG 256) (eH 256))))))))))))))
def afQ (ii:Int) (ik:Bool) (im:Int) (ip:Bool) : Prop := True
def Ji (ii:Int) (ik:Bool) (im:Int) (ip:Bool) : Int := (Gf (bG ii ik (eG 256) (eH 256)) (bK ii ik (eG 256) (eH 256)))
def Jj (ii:Int) (ik:Bool) (im:Int) (ip:Bool) : Int := (Gf (bG im ip (eG 256) (eH 256)) (bK im ip (eG 256) (eH 256)))
theorem avr (ii:Int) (ik:Bool) (im:Int) (ip:Bool) {K0 : Int -> Int -> Prop} (h : afQ ii ik im ip) (hK : K0 (Ji ii ik im ip) (Jj ii ik im ip)) : amM ii ik im ip K0  := by
 unfold amM afQ Ji Jj at *
 simp only [aH, true_and]
 repeat' first | exact hK | refine ⟨rfl, ?_⟩ | refine ⟨trivial, ?_⟩ | refine ⟨by decide, ?_⟩ | (refine ⟨h.1, ?_⟩; replace h := h.2) | refine ⟨h, ?_⟩
def Jt (cm ge ij iq:Int) (iy:Nat) (iz i5:Nat -> Int) (ju:Int) (jv:Bool) (jx:Int) (jy:Bool) (j6:Int) (j7:Bool) (j8:Int) (j9:Bool) (jq:Int) (oc:Bool) (na:Nat) (nz n4 : (Nat -> Int)) (c x0 : Int -> Bool -> Nat -> (Nat -> Int) -> (Nat -> Int) -> Prop)  : Prop := Ts 4 (cond (ilt jq (((lX cm ge ij iq iy iz i5):Nat):Int)) (Ts 5 (((0 <= jq /\ jq < (((lX cm ge ij iq iy iz i5):Nat):Int)) /\ Ts 1 (((TT ((bH cm ge ij iq iy iz i5) (Int.toNat jq)) ((bI cm ge ij iq iy iz i5) (Int.toNat jq))) /\ ((aie ju jv jx jy j6 j7 j8 j9 (iT ((bH cm ge ij iq iy iz i5) (Int.toNat jq)) ((bI cm ge ij iq iy iz i5) (Int.toNat jq))) (iZ ((bH cm ge ij iq iy iz i5) (Int.toNat jq)) ((bI cm ge ij iq iy iz i5) (Int.toNat jq))) (iU ((bH cm ge ij iq iy iz i5) (Int.toNat jq)) ((bI cm ge ij iq iy iz i5) (Int.toNat jq))) (jA ((bH cm ge ij iq iy iz i5) (Int.toNat jq)) ((bI cm ge ij iq iy iz i5) (Int.toNat jq)))) /\ ((afQ (NJ ju jv jx jy j6 j7 j8 j9 (iT ((bH cm ge ij iq iy iz i5) (Int.toNat jq)) ((bI cm ge ij iq iy iz i5) (Int.toNat jq))) (iZ ((bH cm ge ij iq iy iz i5) (Int.toNat jq)) ((bI cm ge ij iq iy iz i5) (Int.toNat jq))) (iU ((bH cm ge ij iq iy iz i5) (Int.toNat jq)) ((bI cm ge ij iq iy iz i5) (Int.toNat jq))) (jA ((bH cm ge ij iq iy iz i5) (Int.toNat jq)) ((bI cm ge ij iq iy iz i5) (Int.toNat jq)))) (Jf ju jv jx jy j6 j7 j8 j9 (iT ((bH cm ge ij iq iy iz i5) (Int.toNat jq)) ((bI cm ge ij iq iy iz i5) (Int.toNat jq))) (iZ ((bH cm ge ij iq iy iz i5) (Int.toNat jq)) ((bI cm ge ij iq iy iz i5) (Int.toNat jq))) (iU ((bH cm ge ij iq iy iz i5) (Int.toNat jq)) ((bI cm ge ij iq iy iz i5) (Int.toNat jq))) (jA ((bH cm ge ij iq iy iz i5) (Int.toNat jq)) ((bI cm ge ij iq iy iz i5) (Int.toNat jq)))) (NK ju jv jx jy j6 j7 j8 j9 (iT ((bH cm ge ij iq iy iz i5) (Int.toNat jq)) ((bI cm ge ij iq iy iz i5) (Int.toNat jq))) (iZ ((bH cm ge ij iq iy iz i5) (Int.toNat jq)) ((bI cm ge ij iq iy iz i5) (Int.toNat jq))) (iU ((bH cm ge ij iq iy iz i5) (Int.toNat jq)) ((bI cm ge ij iq iy iz i5) (Int.toNat jq))) (jA ((bH cm ge ij iq iy iz i5) (Int.toNat jq)) ((bI cm ge ij iq iy iz i5) (Int.toNat jq)))) (Jg ju jv jx jy j6 j7 j8 j9 (iT ((bH cm ge ij iq iy iz i5) (Int.toNat jq)) ((bI cm ge ij iq iy iz i5) (Int.toNat jq))) (iZ ((bH cm ge ij iq iy iz i5) (Int.toNat jq)) ((bI cm ge ij iq iy iz i5) (Int.toNat jq))) (iU ((bH cm ge ij iq iy iz i5) (Int.toNat jq)) ((bI cm ge ij iq iy iz i5) (Int.toNat jq))) (jA ((bH cm ge ij iq iy iz i5) (Int.toNat jq)) ((bI cm ge ij iq iy iz i5) (Int.toNat jq))))) /\ Ts 1 ((((na + 1) * 16 <= 1000000000000 /\ (na + 1) <= 1000000000000) /\ Ts 2 ((true = true /\ Ts 3 (c (au .i64 jq 1) false (na + 1) (ay na nz (Ji (NJ ju jv jx jy j6 j7 j8 j9 (iT ((bH cm ge ij iq iy iz i5) (Int.toNat jq)) ((bI cm ge ij iq iy iz i5) (Int.toNat jq))) (iZ ((bH cm ge ij iq iy iz i5) (Int.toNat jq)) ((bI cm ge ij iq iy iz i5) (Int.toNat jq))) (iU ((bH cm ge ij iq iy iz i5) (Int.toNat jq)) ((bI cm ge ij iq iy iz i5) (Int.toNat jq))) (jA ((bH cm ge ij iq iy iz i5) (Int.toNat jq)) ((bI cm ge ij iq iy iz i5) (Int.toNat jq)))) (Jf ju jv jx jy j6 j7 j8 j9 (iT ((bH cm ge ij iq iy iz i5) (Int.toNat jq)) ((bI cm ge ij iq iy iz i5) (Int.toNat jq))) (iZ ((bH cm ge ij iq iy iz i5) (Int.toNat jq)) ((bI cm ge ij iq iy iz i5) (Int.toNat jq))) (iU ((bH cm ge ij iq iy iz i5) (Int.toNat jq)) ((bI cm ge ij iq iy iz i5) (Int.toNat jq))) (jA ((bH cm ge ij iq iy iz i5) (Int.toNat jq)) ((bI cm ge ij iq iy iz i5) (Int.toNat jq)))) (NK ju jv jx jy j6 j7 j8 j9 (iT ((bH cm ge ij iq iy iz i5) (Int.toNat jq)) ((bI cm ge ij iq iy iz i5) (Int.toNat jq))) (iZ ((bH cm ge ij iq iy iz i5) (Int.toNat jq)) ((bI cm ge ij iq iy iz i5) (Int.toNat jq))) (iU ((bH cm ge ij iq iy iz i5) (Int.toNat jq)) ((bI cm ge ij iq iy iz i5) (Int.toNat jq))) (jA ((bH cm ge ij iq iy iz i5) (Int.toNat jq)) ((bI cm ge ij iq iy iz i5) (Int.toNat jq)))) (Jg ju jv jx jy j6 j7 j8 j9 (iT ((bH cm ge ij iq iy iz i5) (Int.toNat jq)) ((bI cm ge ij iq iy iz i5) (Int.toNat jq))) (iZ ((bH cm ge ij iq iy iz i5) (Int.toNat jq)) ((bI cm ge ij iq iy iz i5) (Int.toNat jq))) (iU ((bH cm ge ij iq iy iz i5) (Int.toNat jq)) ((bI cm ge ij iq iy iz i5) (Int.toNat jq))) (jA ((bH cm ge ij iq iy iz i5) (Int.toNat jq)) ((bI cm ge ij iq iy iz i5) (Int.toNat jq)))))) (ay na n4 (Jj (NJ ju jv jx jy j6 j7 j8 j9 (iT ((bH cm ge ij iq iy iz i5) (Int.toNat jq)) ((bI cm ge ij iq iy iz i5) (Int.toNat jq))) (iZ ((bH cm ge ij iq iy iz i5) (Int.toNat jq)) ((bI cm ge ij iq iy iz i5) (Int.toNat jq))) (iU ((bH cm ge ij iq iy iz i5) (Int.toNat jq)) ((bI cm ge ij iq iy iz i5) (Int.toNat jq))) (jA ((bH cm ge ij iq iy iz i5) (Int.toNat jq)) ((bI cm ge ij iq iy iz i5) (Int.toNat jq)))) (Jf ju jv jx jy j6 j7 j8 j9 (iT ((bH cm ge ij iq iy iz i5) (Int.toNat jq)) ((bI cm ge ij iq iy iz i5) (Int.toNat jq))) (iZ ((bH cm ge ij iq iy iz i5) (Int.toNat jq)) ((bI cm ge ij iq iy iz i5) (Int.toNat jq))) (iU ((bH cm ge ij iq iy iz i5) (Int.toNat jq)) ((bI cm ge ij iq iy iz i5) (Int.toNat jq))) (jA ((bH cm ge ij iq iy iz i5) (Int.toNat jq)) ((bI cm ge ij iq iy iz i5) (Int.toNat jq)))) (NK ju jv jx jy j6 j7 j8 j9 (iT ((bH cm ge ij iq iy iz i5) (Int.toNat jq)) ((bI cm ge ij iq iy iz i5) (Int.toNat jq))) (iZ ((bH cm ge ij iq iy iz i5) (Int.toNat jq)) ((bI cm ge ij iq iy iz i5) (Int.toNat jq))) (iU ((bH cm ge ij iq iy iz i5) (Int.toNat jq)) ((bI cm ge ij iq iy iz i5) (Int.toNat jq))) (jA ((bH cm ge ij iq iy iz i5) (Int.toNat jq)) ((bI cm ge ij iq iy iz i5) (Int.toNat jq)))) (Jg ju jv jx jy j6 j7 j8 j9 (iT ((bH cm ge ij iq iy iz i5) (Int.toNat jq)) ((bI cm ge ij iq iy iz i5) (Int.toNat jq))) (iZ ((bH cm ge ij iq iy iz i5) (Int.toNat jq)) ((bI cm ge ij iq iy iz i5) (Int.toNat jq))) (iU ((bH cm ge ij iq iy iz i5) (Int.toNat jq)) ((bI cm ge ij iq iy iz i5) (Int.toNat jq))) (jA ((bH cm ge ij iq iy iz i5) (Int.toNat jq)) ((bI cm ge ij iq iy iz i5) (Int.toNat jq)))))))))))))))))) (x0 jq oc na nz n4))
def zk (cm ge ij iq:Int) (iy:Nat) (iz i5:Nat -> Int) (ju:Int) (jv:Bool) (jx:Int) (jy:Bool) (j6:Int) (j7:Bool) (j8:Int) (j9:Bool) : Nat -> Int -> Bool -> Nat -> (Nat -> Int) -> (Nat -> Int) -> (Int -> Bool -> Nat -> (Nat -> Int) -> (Nat -> Int) -> Prop) -> Prop
  | 0, _, _, _, _, _, _ => False
  | f + 1, w0, w1, w2, w3, w4, x0 => Jt cm ge ij iq iy iz i5 ju jv jx jy j6 j7 j8 j9 w0 w1 w2 w3 w4 (fun u0 u1 u2 u3 u4 => zk cm ge ij iq iy iz i5 ju jv jx jy j6 j7 j8 j9 f u0 u1 u2 u3 u4 x0) x0 
theorem acz (cm ge ij iq:Int) (iy:Nat) (iz i5:Nat -> Int) (ju:Int) (jv:Bool) (jx:Int) (jy:Bool) (j6:Int) (j7:Bool) (j8:Int) (j9:Bool) (jq:Int) (oc:Bool) (na:Nat) (nz n4 : (Nat -> Int)) {c c' : Int -> Bool -> Nat -> (Nat -> Int) -> (Nat -> Int) -> Prop} {x0 y0 : Int -> Bool -> Nat -> (Nat -> Int) -> (Nat -> Int) -> Prop} (hc : ∀ w0 w1 w2 w3 w4, c w0 w1 w2 w3 w4 -> c' w0 w1 w2 w3 w4) (h0 : ∀ o0 o1 o2 o3 o4, x0 o0 o1 o2 o3 o4 -> y0 o0 o1 o2 o3 o4) : Jt cm ge ij iq iy iz i5 ju jv jx jy j6 j7 j8 j9 jq oc na nz n4 c x0  -> Jt cm ge ij iq iy iz i5 ju jv jx jy j6 j7 j8 j9 jq oc na nz n4 c' y0  := by
  unfold Jt
  repeat' first
    | exact hc _ _ _ _ _
    | exact h0 _ _ _ _ _
    | refine dU ?_
    | refine cO ?_ ?_
    | refine cZ ?_
theorem acA (cm ge ij iq:Int) (iy:Nat) (iz i5:Nat -> Int) (ju:Int) (jv:Bool) (jx:Int) (jy:Bool) (j6:Int) (j7:Bool) (j8:Int) (j9:Bool) {x0 y0 : Int -> Bool -> Nat -> (Nat -> Int) -> (Nat -> Int) -> Prop} (h0 : ∀ o0 o1 o2 o3 o4, x0 o0 o1 o2 o3 o4 -> y0 o0 o1 o2 o3 o4) : ∀ (f:Nat) (jq:Int) (oc:Bool) (na:Nat) (nz : (Nat -> Int)) (n4 : (Nat -> Int)), zk cm ge ij iq iy iz i5 ju jv jx jy j6 j7 j8 j9 f jq oc na nz n4 x0 -> zk cm ge ij iq iy iz i5 ju jv jx jy j6 j7 j8 j9 f jq oc na nz n4 y0
  | 0, w0, w1, w2, w3, w4 => fun h => h
  | f + 1, w0, w1, w2, w3, w4 => acz cm ge ij iq iy iz i5 ju jv jx jy j6 j7 j8 j9 w0 w1 w2 w3 w4 (fun u0 u1 u2 u3 u4 => acA cm ge ij iq iy iz i5 ju jv jx jy j6 j7 j8 j9 h0 f u0 u1 u2 u3 u4) h0
def adP (cm ge ij iq:Int) (iy:Nat) (iz i5:Nat -> Int) (ju:Int) (jv:Bool) (jx:Int) (jy:Bool) (j6:Int) (j7:Bool) (j8:Int) (j9:Bool) (K0 : Int -> Int -> Int -> Int -> Nat -> (Nat -> Int) -> (Nat -> Int) -> Int -> Prop) (l0 : Int -> Bool -> Nat -> (Nat -> Int) -> (Nat -> Int) -> (Int -> Bool -> Nat -> (Nat -> Int) -> (Nat -> Int) -> Prop) -> Prop) : Prop := Ts 5 (((afI cm ge ij iq iy iz i5) /\ Ts 3 (cond (ieq (uN cm ge ij iq iy iz i5) 0) (Ts 2 (((ahH j6 j7 j8 j9) /\ Ts 3 (cond (ine (wz j6 j7 j8 j9) 0) (Ts 5 (K0 0 0 0 0 0 (fun _ => 0) (fun _ => 0) (wz j6 j7 j8 j9))) (Ts 3 (((apU ju jv) /\ Ts 1 (cond (Wu ju jv) (Ts 5 (K0 0 0 0 0 0 (fun _ => 0) (fun _ => 0) 3)) (Ts 3 (((apU jx jy) /\ Ts 1 (cond (Wu jx jy) (Ts 4 (K0 0 0 0 0 0 (fun _ => 0) (fun _ => 0) 3)) (Ts 3 (cond (ieq cm 1) (Ts 2 (((afQ ju jv jx jy) /\ Ts 5 ((true = true /\ Ts 1 (K0 1 (Ji ju jv jx jy) (Jj ju jv jx jy) ge 0 (fun _ => 0) (fun _ => 0) 0)))))) (Ts 2 (((afQ ju jv jx jy) /\ Ts 4 (((Zj cm ge ij iq iy iz i5) /\ Ts 2 ((l0 0 true 0 (fun _ => 0) (fun _ => 0) (fun rc rd qp qq qr => Ts 4 (K0 2 (Ji ju jv jx jy) (Jj ju jv jx jy) 0 qp qq qr 0))))))))))))))))))))))) (Ts 2 (cond (ine (uN cm ge ij iq iy iz i5) 0) (Ts 5 (K0 0 0 0 0 0 (fun _ => 0) (fun _ => 0) (uN cm ge ij iq iy iz i5))) (Ts 3 (((apU ju jv) /\ Ts 1 (cond (Wu ju jv) (Ts 5 (K0 0 0 0 0 0 (fun _ => 0) (fun _ => 0) 3)) (Ts 3 (((apU jx jy) /\ Ts 1 (cond (Wu jx jy) (Ts 4 (K0 0 0 0 0 0 (fun _ => 0) (fun _ => 0) 3)) (Ts 3 (cond (ieq cm 1) (Ts 2 (((afQ ju jv jx jy) /\ Ts 5 ((true = true /\ Ts 1 (K0 1 (Ji ju jv jx jy) (Jj ju jv jx jy) ge 0 (fun _ => 0) (fun _ => 0) 0)))))) (Ts 2 (((afQ ju jv jx jy) /\ Ts 4 (((Zj cm ge ij iq iy iz i5) /\ Ts 2 ((l0 0 true 0 (fun _ => 0) (fun _ => 0) (fun rc rd qp qq qr => Ts 4 (K0 2 (Ji ju jv jx jy) (Jj ju jv jx jy) 0 qp qq qr 0))))))))))))))))))))))))
def KO (f:Nat -> Int) : Nat -> Nat -> Int
  | 0 => fun _ => 0
  | n + 1 => ay n (KO f n) (f n)
theorem Tm {f : Nat -> Int} : ∀ {n k : Nat}, k < n -> KO f n k = f k
  | 0, k, h => by omega
  | n + 1, k, h => by
    show ay n (KO f n) (f n) k = f k
    unfold ay
    cases hb : Nat.blt k n with
    | true => rw [Nat.blt_eq] at hb; exact Tm hb
    | false =>
      have : ¬ k < n := fun e => by rw [<- Nat.blt_eq, hb] at e; cases e
      rw [show k = n by omega]
      rfl
def ane (k r w h:Int) (n:Nat) (x y:Nat -> Int) (px:Int) (pxf:Bool) (py:Int) (pyf:Bool) (c:Int) (cf:Bool) (s:Int) (sf:Bool) (j:Nat) : Int := Ji (NJ px pxf py pyf c cf s sf (iT (bH k r w h n x y j) (bI k r w h n x y j)) (iZ (bH k r w h n x y j) (bI k r w h n x y j)) (iU (bH k r w h n x y j) (bI k r w h n x y j)) (jA (bH k r w h n x y j) (bI k r w h n x y j))) (Jf px pxf py pyf c cf s sf (iT (bH k r w h n x y j) (bI k r w h n x y j)) (iZ (bH k r w h n x y j) (bI k r w h n x y j)) (iU (bH k r w h n x y j) (bI k r w h n x y j)) (jA (bH k r w h n x y j) (bI k r w h n x y j))) (NK px pxf py pyf c cf s sf (iT (bH k r w h n x y j) (bI k r w h n x y j)) (iZ (bH k r w h n x y j) (bI k r w h n x y j)) (iU (bH k r w h n x y j) (bI k r w h n x y j)) (jA (bH k r w h n x y j) (bI k r w h n x y j))) (Jg px pxf py pyf c cf s sf (iT (bH k r w h n x y j) (bI k r w h n x y j)) (iZ (bH k r w h n x y j) (bI k r w h n x y j)) (iU (bH k r w h n x y j) (bI k r w h n x y j)) (jA (bH k r w h n x y j) (bI k r w h n x y j)))
def anf (k r w h:Int) (n:Nat) (x y:Nat -> Int) (px:Int) (pxf:Bool) (py:Int) (pyf:Bool) (c:Int) (cf:Bool) (s:Int) (sf:Bool) (j:Nat) : Int := Jj (NJ px pxf py pyf c cf s sf (iT (bH k r w h n x y j) (bI k r w h n x y j)) (iZ (bH k r w h n x y j) (bI k r w h n x y j)) (iU (bH k r w h n x y j) (bI k r w h n x y j)) (jA (bH k r w h n x y j) (bI k r w h n x y j))) (Jf px pxf py pyf c cf s sf (iT (bH k r w h n x y j) (bI k r w h n x y j)) (iZ (bH k r w h n x y j) (bI k r w h n x y j)) (iU (bH k r w h n x y j) (bI k r w h n x y j)) (jA (bH k r w h n x y j) (bI k r w h n x y j))) (NK px pxf py pyf c cf s sf (iT (bH k r w h n x y j) (bI k r w h n x y j)) (iZ (bH k r w h n x y j) (bI k r w h n x y j)) (iU (bH k r w h n x y j) (bI k r w h n x y j)) (jA (bH k r w h n x y j) (bI k r w h n x y j))) (Jg px pxf py pyf c cf s sf (iT (bH k r w h n x y j) (bI k r w h n x y j)) (iZ (bH k r w h n x y j) (bI k r w h n x y j)) (iU (bH k r w h n x y j) (bI k r w h n x y j)) (jA (bH k r w h n x y j) (bI k r w h n x y j)))
def ZR (k r w h:Int) (n:Nat) (x y:Nat -> Int) (px:Int) (pxf:Bool) (py:Int) (pyf:Bool) (c:Int) (cf:Bool) (s:Int) (sf:Bool) : Prop := afI k r w h n x y /\ ahH c cf s sf /\ Zj k r w h n x y /\ lX k r w h n x y <= 1000000 /\ ∀ j, j < lX k r w h n x y -> TT (bH k r w h n x y j) (bI k r w h n x y j) /\ aie px pxf py pyf c cf s sf (iT (bH k r w h n x y j) (bI k r w h n x y j)) (iZ (bH k r w h n x y j) (bI k r w h n x y j)) (iU (bH k r w h n x y j) (bI k r w h n x y j)) (jA (bH k r w h n x y j) (bI k r w h n x y j))
def ang (k r w h:Int) (n:Nat) (x y:Nat -> Int) (px:Int) (pxf:Bool) (py:Int) (pyf:Bool) (c:Int) (cf:Bool) (s:Int) (sf:Bool) : Int := cond (ieq (uN k r w h n x y) 0) (cond (ine (wz c cf s sf) 0) (wz c cf s sf) (cond (Wu px pxf) 3 (cond (Wu py pyf) 3 0))) (uN k r w h n x y)
def WY (k r w h:Int) (n:Nat) (x y:Nat -> Int) (px:Int) (pxf:Bool) (py:Int) (pyf:Bool) (c:Int) (cf:Bool) (s:Int) (sf:Bool) : Bool := ieq (ang k r w h n x y px pxf py pyf c cf s sf) 0
def Ju (k r w h:Int) (n:Nat) (x y:Nat -> Int) (px:Int) (pxf:Bool) (py:Int) (pyf:Bool) (c:Int) (cf:Bool) (s:Int) (sf:Bool) : Int := cond (WY k r w h n x y px pxf py pyf c cf s sf) (cond (ieq k 1) 1 2) 0
def Jv (k r w h:Int) (n:Nat) (x y:Nat -> Int) (px:Int) (pxf:Bool) (py:Int) (pyf:Bool) (c:Int) (cf:Bool) (s:Int) (sf:Bool) : Int := cond (WY k r w h n x y px pxf py pyf c cf s sf) (Ji px pxf py pyf) 0
def Jw (k r w h:Int) (n:Nat) (x y:Nat -> Int) (px:Int) (pxf:Bool) (py:Int) (pyf:Bool) (c:Int) (cf:Bool) (s:Int) (sf:Bool) : Int := cond (WY k r w h n x y px pxf py pyf c cf s sf) (Jj px pxf py pyf) 0
def Jy (k r w h:Int) (n:Nat) (x y:Nat -> Int) (px:Int) (pxf:Bool) (py:Int) (pyf:Bool) (c:Int) (cf:Bool) (s:Int) (sf:Bool) : Int := cond (WY k r w h n x y px pxf py pyf c cf s sf) (cond (ieq k 1) r 0) 0
def Jz (k r w h:Int) (n:Nat) (x y:Nat -> Int) (px:Int) (pxf:Bool) (py:Int) (pyf:Bool) (c:Int) (cf:Bool) (s:Int) (sf:Bool) : Nat := cond (WY k r w h n x y px pxf py pyf c cf s sf) (cond (ieq k 1) 0 (lX k r w h n x y)) 0
def JA (k r w h:Int) (n:Nat) (x y:Nat -> Int) (px:Int) (pxf:Bool) (py:Int) (pyf:Bool) (c:Int) (cf:Bool) (s:Int) (sf:Bool) : Nat -> Int := cond (WY k r w h n x y px pxf py pyf c cf s sf) (cond (ieq k 1) (fun _ => 0) (KO (ane k r w h n x y px pxf py pyf c cf s sf) (lX k r w h n x y))) (fun _ => 0)
def JB (k r w h:Int) (n:Nat) (x y:Nat -> Int) (px:Int) (pxf:Bool) (py:Int) (pyf:Bool) (c:Int) (cf:Bool) (s:Int) (sf:Bool) : Nat -> Int := cond (WY k r w h n x y px pxf py pyf c cf s sf) (cond (ieq k 1) (fun _ => 0) (KO (anf k r w h n x y px pxf py pyf c cf s sf) (lX k r w h n x y))) (fun _ => 0)
def ZT (k r w h:Int) (n:Nat) (x y:Nat -> Int) (px:Int) (pxf:Bool) (py:Int) (pyf:Bool) (c:Int) (cf:Bool) (s:Int) (sf:Bool) : Int := ang k r w h n x y px pxf py pyf c cf s sf
theorem acB {k r w h : Int} {n : Nat} {x y : Nat -> Int} {px : Int} {pxf : Bool} {py : Int} {pyf : Bool} {c : Int} {cf : Bool} {s : Int} {sf : Bool} (hp : ZR k r w h n x y px pxf py pyf c cf s sf) {x0 : Int -> Bool -> Nat -> (Nat -> Int) -> (Nat -> Int) -> Prop} (h3 : ∀ v q, x0 v q (lX k r w h n x y) (KO (ane k r w h n x y px pxf py pyf c cf s sf) (lX k r w h n x y)) (KO (anf k r w h n x y px pxf py pyf c cf s sf) (lX k r w h n x y))) : ∀ (f i:Nat) (q:Bool), i <= lX k r w h n x y -> lX k r w h n x y < f + i -> zk k r w h n x y px pxf py pyf c cf s sf f i q i (KO (ane k r w h n x y px pxf py pyf c cf s sf) i) (KO (anf k r w h n x y px pxf py pyf c cf s sf) i) x0
  | 0, i, q, h1, h2 => by omega
  | f + 1, i, q, h1, h2 => by
    show Jt k r w h n x y px pxf py pyf c cf s sf i q i _ _ _ _
    unfold Jt
    simp only [aH, true_and, Int.toNat_natCast, Nat.zero_add]
    obtain ⟨p1, p2, p3, p4, p5⟩ := hp
    refine aC (fun hc => ?_) (fun hc => ?_)
    . rw [dY] at hc
      have hi : i < lX k r w h n x y := by omega
      obtain ⟨a1, a2⟩ := p5 i hi
      refine ⟨⟨by omega, hc⟩, a1, a2, trivial, ⟨by omega, by omega⟩, ?_⟩
      rw [fF (by omega) (by omega)]
      exact acB ⟨p1, p2, p3, p4, p5⟩ h3 f (i + 1) false (by omega) (by omega)
    . rw [fJ] at hc
      have : i = lX k r w h n x y := by omega
      subst this
      exact h3 _ _
theorem avT (cm ge ij iq:Int) (iy:Nat) (iz i5:Nat -> Int) (ju:Int) (jv:Bool) (jx:Int) (jy:Bool) (j6:Int) (j7:Bool) (j8:Int) (j9:Bool) {K0 : Int -> Int -> Int -> Int -> Nat -> (Nat -> Int) -> (Nat -> Int) -> Int -> Prop} (h : ZR cm ge ij iq iy iz i5 ju jv jx jy j6 j7 j8 j9) (hK : K0 (Ju cm ge ij iq iy iz i5 ju jv jx jy j6 j7 j8 j9) (Jv cm ge ij iq iy iz i5 ju jv jx jy j6 j7 j8 j9) (Jw cm ge ij iq iy iz i5 ju jv jx jy j6 j7 j8 j9) (Jy cm ge ij iq iy iz i5 ju jv jx jy j6 j7 j8 j9) (Jz cm ge ij iq iy iz i5 ju jv jx jy j6 j7 j8 j9) (JA cm ge ij iq iy iz i5 ju jv jx jy j6 j7 j8 j9) (JB cm ge ij iq iy iz i5 ju jv jx jy j6 j7 j8 j9) (ZT cm ge ij iq iy iz i5 ju jv jx jy j6 j7 j8 j9)) : adP cm ge ij iq iy iz i5 ju jv jx jy j6 j7 j8 j9 K0 (zk cm ge ij iq iy iz i5 ju jv jx jy j6 j7 j8 j9 fuel) := by
  unfold adP
  simp only [aH, true_and]
  have hp := h
  obtain ⟨p1, p2, p3, p4, p5⟩ := h
  unfold Ju Jv Jw Jy Jz JA JB ZT WY ang at hK
  have z0 : ieq 0 0 = true := kE.2 rfl
  have z3 : ieq 3 0 = false := vI.2 (by decide)
  refine ⟨p1, aC (fun h1 => ?_) (fun h1 => ?_)⟩
  . simp only [h1, cond_true] at hK
    refine ⟨p2, aC (fun h2 => ?_) (fun h2 => ?_)⟩
    . have h2' := vI.2 (tY.1 h2)
      simp only [h2, h2', cond_true, cond_false] at hK
      exact hK
    . simp only [h2, cond_false] at hK
      refine ⟨trivial, aC (fun h3 => ?_) (fun h3 => ?_)⟩
      . simp only [h3, cond_true, z3, cond_false] at hK
        exact hK
      . simp only [h3, cond_false] at hK
        refine ⟨trivial, aC (fun h4 => ?_) (fun h4 => ?_)⟩
        . simp only [h4, cond_true, z3, cond_false] at hK
          exact hK
        . simp only [h4, cond_false, z0, cond_true] at hK
          refine aC (fun h5 => ?_) (fun h5 => ?_)
          . simp only [h5, cond_true] at hK
            exact ⟨trivial, hK⟩
          . simp only [h5, cond_false] at hK
            exact ⟨trivial, p3, acB hp (fun v q => hK) fuel 0 true (Nat.zero_le _) (by rw [gW]; omega)⟩
  . simp only [h1, cond_false] at hK
    rw [tY.2 (vI.1 h1), cond_true]
    exact hK
def anh (a0 a1:Int) (K0 : Int -> Prop)  : Prop := Ts 3 (((a1 ≠ 0) /\ Ts 3 (cond (ilt (aB .i64 a0 a1) 0) (Ts 6 (K0 (au .i64 (aB .i64 a0 a1) a1))) (Ts 2 (K0 (aB .i64 a0 a1))))))
def Tn (a0 a1:Int) : Prop := (a1 ≠ 0)
def aN (a0 a1:Int) : Int := (cond (ilt (aB .i64 a0 a1) 0) (au .i64 (aB .i64 a0 a1) a1) (aB .i64 a0 a1))
theorem avU (a0 a1:Int) {K0 : Int -> Prop} (h : Tn a0 a1) (hK : K0 (aN a0 a1)) : anh a0 a1 K0  := by
 unfold anh Tn aN at *
 simp only [aH, true_and]; try simp only [aH, true_and] at h
 repeat' first | exact hK | (refine aC (fun c => ?_) (fun c => ?_) <;> try simp only [c, cond_true, cond_false] at h hK ⊢) | refine ⟨rfl, ?_⟩ | refine ⟨trivial, ?_⟩ | refine ⟨by decide, ?_⟩ | (refine ⟨h.1, ?_⟩; replace h := h.2) | refine ⟨h, ?_⟩

end
end Go.Ag
