import Derived.Test.YtbcegholicnflaaGreatFirstPB
set_option linter.unusedVariables false
set_option linter.unusedSimpArgs false
set_option maxRecDepth 100000
namespace Go.Ag
open Go.RowKit
noncomputable section
def ak8 (cm ge ij iq iv iu:Int) (K0 : Int -> Int -> Int -> Int -> Nat -> (Nat -> Int) -> (Nat -> Int) -> Prop)  : Prop := Ts 4 (((Tn ge 4081) /\ Ts 3 (((Tn ij 4081) /\ Ts 3 ((true = true /\ Ts 2 ((((4:Int) ≠ 0) /\ Ts 1 (cond (ine (aB .i64 ge 4) 0) (Ts 1 ((((600:Int) ≠ 0) /\ Ts 2 ((((600:Int) ≠ 0) /\ Ts 11 (((Tn cm 5) /\ Ts 2 (cond (ieq (aN cm 5) 0) (Ts 4 (K0 1 (au .i64 16 (aB .i64 (au .i64 16 (aN ge 4081)) 600)) 0 0 0 (fun _ => 0) (fun _ => 0))) (Ts 2 (cond (ieq (aN cm 5) 1) (Ts 5 (K0 2 0 (au .i64 16 (aB .i64 (au .i64 16 (aN ge 4081)) 600)) (au .i64 16 (aB .i64 (au .i64 16 (aN ij 4081)) 600)) 0 (fun _ => 0) (fun _ => 0))) (Ts 2 (cond (ieq (aN cm 5) 2) (Ts 15 (K0 3 0 0 0 3 (dO 1 (fun _ => (bM .i64 (imax 64 (au .i64 16 (aB .i64 (au .i64 16 (aN ge 4081)) 600))))) (ay 1 (fun _ => (imax 64 (au .i64 16 (aB .i64 (au .i64 16 (aN ge 4081)) 600)))) 0)) (dO 1 (fun _ => (bM .i64 (imax 64 (au .i64 16 (aB .i64 (au .i64 16 (aN ij 4081)) 600))))) (ay 1 (fun _ => (bM .i64 (imax 64 (au .i64 16 (aB .i64 (au .i64 16 (aN ij 4081)) 600))))) (imax 64 (au .i64 16 (aB .i64 (au .i64 16 (aN ij 4081)) 600))))))) (Ts 2 (cond (ieq (aN cm 5) 3) (Ts 2 ((((2:Int) ≠ 0) /\ Ts 4 ((((2:Int) ≠ 0) /\ Ts 14 (K0 3 0 0 0 5 (dO 1 (fun _ => (gG .i64 (bM .i64 (imax 64 (au .i64 16 (aB .i64 (au .i64 16 (aN ge 4081)) 600)))) 2)) (dO 1 (fun _ => (gG .i64 (imax 64 (au .i64 16 (aB .i64 (au .i64 16 (aN ge 4081)) 600))) 2)) (dO 1 (fun _ => (imax 64 (au .i64 16 (aB .i64 (au .i64 16 (aN ge 4081)) 600)))) (ay 1 (fun _ => 0) (bM .i64 (imax 64 (au .i64 16 (aB .i64 (au .i64 16 (aN ge 4081)) 600)))))))) (dO 1 (fun _ => (bM .i64 (imax 64 (au .i64 16 (aB .i64 (au .i64 16 (aN ij 4081)) 600))))) (dO 1 (fun _ => (bM .i64 (imax 64 (au .i64 16 (aB .i64 (au .i64 16 (aN ij 4081)) 600))))) (dO 1 (fun _ => 0) (ay 1 (fun _ => (imax 64 (au .i64 16 (aB .i64 (au .i64 16 (aN ij 4081)) 600)))) 0)))))))))) (Ts 3 ((((2:Int) ≠ 0) /\ Ts 3 ((((2:Int) ≠ 0) /\ Ts 2 ((((2:Int) ≠ 0) /\ Ts 4 ((((2:Int) ≠ 0) /\ Ts 5 ((((2:Int) ≠ 0) /\ Ts 5 ((((2:Int) ≠ 0) /\ Ts 3 ((((2:Int) ≠ 0) /\ Ts 4 ((((2:Int) ≠ 0) /\ Ts 7 (K0 3 0 0 0 8 (dO 1 (fun _ => (imax 64 (au .i64 16 (aB .i64 (au .i64 16 (aN ge 4081)) 600)))) (dO 1 (fun _ => (imax 64 (au .i64 16 (aB .i64 (au .i64 16 (aN ge 4081)) 600)))) (dO 1 (fun _ => (gG .i64 (imax 64 (au .i64 16 (aB .i64 (au .i64 16 (aN ge 4081)) 600))) 2)) (dO 1 (fun _ => (gG .i64 (bM .i64 (imax 64 (au .i64 16 (aB .i64 (au .i64 16 (aN ge 4081)) 600)))) 2)) (dO 1 (fun _ => (bM .i64 (imax 64 (au .i64 16 (aB .i64 (au .i64 16 (aN ge 4081)) 600))))) (dO 1 (fun _ => (bM .i64 (imax 64 (au .i64 16 (aB .i64 (au .i64 16 (aN ge 4081)) 600))))) (ay 1 (fun _ => (gG .i64 (bM .i64 (imax 64 (au .i64 16 (aB .i64 (au .i64 16 (aN ge 4081)) 600)))) 2)) (gG .i64 (imax 64 (au .i64 16 (aB .i64 (au .i64 16 (aN ge 4081)) 600))) 2)))))))) (dO 1 (fun _ => (gG .i64 (bM .i64 (imax 64 (au .i64 16 (aB .i64 (au .i64 16 (aN ge 4081)) 600)))) 2)) (dO 1 (fun _ => (gG .i64 (imax 64 (au .i64 16 (aB .i64 (au .i64 16 (aN ge 4081)) 600))) 2)) (dO 1 (fun _ => (imax 64 (au .i64 16 (aB .i64 (au .i64 16 (aN ge 4081)) 600)))) (dO 1 (fun _ => (imax 64 (au .i64 16 (aB .i64 (au .i64 16 (aN ge 4081)) 600)))) (dO 1 (fun _ => (gG .i64 (imax 64 (au .i64 16 (aB .i64 (au .i64 16 (aN ge 4081)) 600))) 2)) (dO 1 (fun _ => (gG .i64 (bM .i64 (imax 64 (au .i64 16 (aB .i64 (au .i64 16 (aN ge 4081)) 600)))) 2)) (ay 1 (fun _ => (bM .i64 (imax 64 (au .i64 16 (aB .i64 (au .i64 16 (aN ge 4081)) 600))))) (bM .i64 (imax 64 (au .i64 16 (aB .i64 (au .i64 16 (aN ge 4081)) 600))))))))))))))))))))))))))))))))))))))))))) (Ts 8 (((Tn cm 5) /\ Ts 2 (cond (ieq (aN cm 5) 0) (Ts 4 (K0 1 (au .i64 16 (aN ge 4081)) 0 0 0 (fun _ => 0) (fun _ => 0))) (Ts 2 (cond (ieq (aN cm 5) 1) (Ts 5 (K0 2 0 (au .i64 16 (aN ge 4081)) (au .i64 16 (aN ij 4081)) 0 (fun _ => 0) (fun _ => 0))) (Ts 2 (cond (ieq (aN cm 5) 2) (Ts 15 (K0 3 0 0 0 3 (dO 1 (fun _ => (bM .i64 (imax 64 (au .i64 16 (aN ge 4081))))) (ay 1 (fun _ => (imax 64 (au .i64 16 (aN ge 4081)))) 0)) (dO 1 (fun _ => (bM .i64 (imax 64 (au .i64 16 (aN ij 4081))))) (ay 1 (fun _ => (bM .i64 (imax 64 (au .i64 16 (aN ij 4081))))) (imax 64 (au .i64 16 (aN ij 4081))))))) (Ts 2 (cond (ieq (aN cm 5) 3) (Ts 2 ((((2:Int) ≠ 0) /\ Ts 4 ((((2:Int) ≠ 0) /\ Ts 14 (K0 3 0 0 0 5 (dO 1 (fun _ => (gG .i64 (bM .i64 (imax 64 (au .i64 16 (aN ge 4081)))) 2)) (dO 1 (fun _ => (gG .i64 (imax 64 (au .i64 16 (aN ge 4081))) 2)) (dO 1 (fun _ => (imax 64 (au .i64 16 (aN ge 4081)))) (ay 1 (fun _ => 0) (bM .i64 (imax 64 (au .i64 16 (aN ge 4081)))))))) (dO 1 (fun _ => (bM .i64 (imax 64 (au .i64 16 (aN ij 4081))))) (dO 1 (fun _ => (bM .i64 (imax 64 (au .i64 16 (aN ij 4081))))) (dO 1 (fun _ => 0) (ay 1 (fun _ => (imax 64 (au .i64 16 (aN ij 4081)))) 0)))))))))) (Ts 3 ((((2:Int) ≠ 0) /\ Ts 3 ((((2:Int) ≠ 0) /\ Ts 2 ((((2:Int) ≠ 0) /\ Ts 4 ((((2:Int) ≠ 0) /\ Ts 5 ((((2:Int) ≠ 0) /\ Ts 5 ((((2:Int) ≠ 0) /\ Ts 3 ((((2:Int) ≠ 0) /\ Ts 4 ((((2:Int) ≠ 0) /\ Ts 7 (K0 3 0 0 0 8 (dO 1 (fun _ => (imax 64 (au .i64 16 (aN ge 4081)))) (dO 1 (fun _ => (imax 64 (au .i64 16 (aN ge 4081)))) (dO 1 (fun _ => (gG .i64 (imax 64 (au .i64 16 (aN ge 4081))) 2)) (dO 1 (fun _ => (gG .i64 (bM .i64 (imax 64 (au .i64 16 (aN ge 4081)))) 2)) (dO 1 (fun _ => (bM .i64 (imax 64 (au .i64 16 (aN ge 4081))))) (dO 1 (fun _ => (bM .i64 (imax 64 (au .i64 16 (aN ge 4081))))) (ay 1 (fun _ => (gG .i64 (bM .i64 (imax 64 (au .i64 16 (aN ge 4081)))) 2)) (gG .i64 (imax 64 (au .i64 16 (aN ge 4081))) 2)))))))) (dO 1 (fun _ => (gG .i64 (bM .i64 (imax 64 (au .i64 16 (aN ge 4081)))) 2)) (dO 1 (fun _ => (gG .i64 (imax 64 (au .i64 16 (aN ge 4081))) 2)) (dO 1 (fun _ => (imax 64 (au .i64 16 (aN ge 4081)))) (dO 1 (fun _ => (imax 64 (au .i64 16 (aN ge 4081)))) (dO 1 (fun _ => (gG .i64 (imax 64 (au .i64 16 (aN ge 4081))) 2)) (dO 1 (fun _ => (gG .i64 (bM .i64 (imax 64 (au .i64 16 (aN ge 4081)))) 2)) (ay 1 (fun _ => (bM .i64 (imax 64 (au .i64 16 (aN ge 4081))))) (bM .i64 (imax 64 (au .i64 16 (aN ge 4081))))))))))))))))))))))))))))))))))))))))))))))))
def YK (cm ge ij iq iv iu:Int) : Prop := ((Tn ge 4081) /\ ((Tn ij 4081) /\ (cond (ine (aB .i64 ge 4) 0) (Tn cm 5) (Tn cm 5))))
def mW (cm ge ij iq iv iu:Int) : Int := (cond (ieq (aN cm 5) 0) 1 (cond (ieq (aN cm 5) 1) 2 3))
def lI (cm ge ij iq iv iu:Int) : Int := (cond (ine (aB .i64 ge 4) 0) (cond (ieq (aN cm 5) 0) (au .i64 16 (aB .i64 (au .i64 16 (aN ge 4081)) 600)) 0) (cond (ieq (aN cm 5) 0) (au .i64 16 (aN ge 4081)) 0))
def lJ (cm ge ij iq iv iu:Int) : Int := (cond (ine (aB .i64 ge 4) 0) (cond (ieq (aN cm 5) 0) 0 (cond (ieq (aN cm 5) 1) (au .i64 16 (aB .i64 (au .i64 16 (aN ge 4081)) 600)) 0)) (cond (ieq (aN cm 5) 0) 0 (cond (ieq (aN cm 5) 1) (au .i64 16 (aN ge 4081)) 0)))
def lK (cm ge ij iq iv iu:Int) : Int := (cond (ine (aB .i64 ge 4) 0) (cond (ieq (aN cm 5) 0) 0 (cond (ieq (aN cm 5) 1) (au .i64 16 (aB .i64 (au .i64 16 (aN ij 4081)) 600)) 0)) (cond (ieq (aN cm 5) 0) 0 (cond (ieq (aN cm 5) 1) (au .i64 16 (aN ij 4081)) 0)))
def lM (cm ge ij iq iv iu:Int) : Nat := (cond (ieq (aN cm 5) 0) 0 (cond (ieq (aN cm 5) 1) 0 (cond (ieq (aN cm 5) 2) 3 (cond (ieq (aN cm 5) 3) 5 8))))
def lN (cm ge ij iq iv iu:Int) : (Nat -> Int) := (cond (ine (aB .i64 ge 4) 0) (cond (ieq (aN cm 5) 0) (fun _ => 0) (cond (ieq (aN cm 5) 1) (fun _ => 0) (cond (ieq (aN cm 5) 2) (dO 1 (fun _ => (bM .i64 (imax 64 (au .i64 16 (aB .i64 (au .i64 16 (aN ge 4081)) 600))))) (ay 1 (fun _ => (imax 64 (au .i64 16 (aB .i64 (au .i64 16 (aN ge 4081)) 600)))) 0)) (cond (ieq (aN cm 5) 3) (dO 1 (fun _ => (gG .i64 (bM .i64 (imax 64 (au .i64 16 (aB .i64 (au .i64 16 (aN ge 4081)) 600)))) 2)) (dO 1 (fun _ => (gG .i64 (imax 64 (au .i64 16 (aB .i64 (au .i64 16 (aN ge 4081)) 600))) 2)) (dO 1 (fun _ => (imax 64 (au .i64 16 (aB .i64 (au .i64 16 (aN ge 4081)) 600)))) (ay 1 (fun _ => 0) (bM .i64 (imax 64 (au .i64 16 (aB .i64 (au .i64 16 (aN ge 4081)) 600)))))))) (dO 1 (fun _ => (imax 64 (au .i64 16 (aB .i64 (au .i64 16 (aN ge 4081)) 600)))) (dO 1 (fun _ => (imax 64 (au .i64 16 (aB .i64 (au .i64 16 (aN ge 4081)) 600)))) (dO 1 (fun _ => (gG .i64 (imax 64 (au .i64 16 (aB .i64 (au .i64 16 (aN ge 4081)) 600))) 2)) (dO 1 (fun _ => (gG .i64 (bM .i64 (imax 64 (au .i64 16 (aB .i64 (au .i64 16 (aN ge 4081)) 600)))) 2)) (dO 1 (fun _ => (bM .i64 (imax 64 (au .i64 16 (aB .i64 (au .i64 16 (aN ge 4081)) 600))))) (dO 1 (fun _ => (bM .i64 (imax 64 (au .i64 16 (aB .i64 (au .i64 16 (aN ge 4081)) 600))))) (ay 1 (fun _ => (gG .i64 (bM .i64 (imax 64 (au .i64 16 (aB .i64 (au .i64 16 (aN ge 4081)) 600)))) 2)) (gG .i64 (imax 64 (au .i64 16 (aB .i64 (au .i64 16 (aN ge 4081)) 600))) 2)))))))))))) (cond (ieq (aN cm 5) 0) (fun _ => 0) (cond (ieq (aN cm 5) 1) (fun _ => 0) (cond (ieq (aN cm 5) 2) (dO 1 (fun _ => (bM .i64 (imax 64 (au .i64 16 (aN ge 4081))))) (ay 1 (fun _ => (imax 64 (au .i64 16 (aN ge 4081)))) 0)) (cond (ieq (aN cm 5) 3) (dO 1 (fun _ => (gG .i64 (bM .i64 (imax 64 (au .i64 16 (aN ge 4081)))) 2)) (dO 1 (fun _ => (gG .i64 (imax 64 (au .i64 16 (aN ge 4081))) 2)) (dO 1 (fun _ => (imax 64 (au .i64 16 (aN ge 4081)))) (ay 1 (fun _ => 0) (bM .i64 (imax 64 (au .i64 16 (aN ge 4081)))))))) (dO 1 (fun _ => (imax 64 (au .i64 16 (aN ge 4081)))) (dO 1 (fun _ => (imax 64 (au .i64 16 (aN ge 4081)))) (dO 1 (fun _ => (gG .i64 (imax 64 (au .i64 16 (aN ge 4081))) 2)) (dO 1 (fun _ => (gG .i64 (bM .i64 (imax 64 (au .i64 16 (aN ge 4081)))) 2)) (dO 1 (fun _ => (bM .i64 (imax 64 (au .i64 16 (aN ge 4081))))) (dO 1 (fun _ => (bM .i64 (imax 64 (au .i64 16 (aN ge 4081))))) (ay 1 (fun _ => (gG .i64 (bM .i64 (imax 64 (au .i64 16 (aN ge 4081)))) 2)) (gG .i64 (imax 64 (au .i64 16 (aN ge 4081))) 2)))))))))))))
def lQ (cm ge ij iq iv iu:Int) : (Nat -> Int) := (cond (ine (aB .i64 ge 4) 0) (cond (ieq (aN cm 5) 0) (fun _ => 0) (cond (ieq (aN cm 5) 1) (fun _ => 0) (cond (ieq (aN cm 5) 2) (dO 1 (fun _ => (bM .i64 (imax 64 (au .i64 16 (aB .i64 (au .i64 16 (aN ij 4081)) 600))))) (ay 1 (fun _ => (bM .i64 (imax 64 (au .i64 16 (aB .i64 (au .i64 16 (aN ij 4081)) 600))))) (imax 64 (au .i64 16 (aB .i64 (au .i64 16 (aN ij 4081)) 600))))) (cond (ieq (aN cm 5) 3) (dO 1 (fun _ => (bM .i64 (imax 64 (au .i64 16 (aB .i64 (au .i64 16 (aN ij 4081)) 600))))) (dO 1 (fun _ => (bM .i64 (imax 64 (au .i64 16 (aB .i64 (au .i64 16 (aN ij 4081)) 600))))) (dO 1 (fun _ => 0) (ay 1 (fun _ => (imax 64 (au .i64 16 (aB .i64 (au .i64 16 (aN ij 4081)) 600)))) 0)))) (dO 1 (fun _ => (gG .i64 (bM .i64 (imax 64 (au .i64 16 (aB .i64 (au .i64 16 (aN ge 4081)) 600)))) 2)) (dO 1 (fun _ => (gG .i64 (imax 64 (au .i64 16 (aB .i64 (au .i64 16 (aN ge 4081)) 600))) 2)) (dO 1 (fun _ => (imax 64 (au .i64 16 (aB .i64 (au .i64 16 (aN ge 4081)) 600)))) (dO 1 (fun _ => (imax 64 (au .i64 16 (aB .i64 (au .i64 16 (aN ge 4081)) 600)))) (dO 1 (fun _ => (gG .i64 (imax 64 (au .i64 16 (aB .i64 (au .i64 16 (aN ge 4081)) 600))) 2)) (dO 1 (fun _ => (gG .i64 (bM .i64 (imax 64 (au .i64 16 (aB .i64 (au .i64 16 (aN ge 4081)) 600)))) 2)) (ay 1 (fun _ => (bM .i64 (imax 64 (au .i64 16 (aB .i64 (au .i64 16 (aN ge 4081)) 600))))) (bM .i64 (imax 64 (au .i64 16 (aB .i64 (au .i64 16 (aN ge 4081)) 600))))))))))))))) (cond (ieq (aN cm 5) 0) (fun _ => 0) (cond (ieq (aN cm 5) 1) (fun _ => 0) (cond (ieq (aN cm 5) 2) (dO 1 (fun _ => (bM .i64 (imax 64 (au .i64 16 (aN ij 4081))))) (ay 1 (fun _ => (bM .i64 (imax 64 (au .i64 16 (aN ij 4081))))) (imax 64 (au .i64 16 (aN ij 4081))))) (cond (ieq (aN cm 5) 3) (dO 1 (fun _ => (bM .i64 (imax 64 (au .i64 16 (aN ij 4081))))) (dO 1 (fun _ => (bM .i64 (imax 64 (au .i64 16 (aN ij 4081))))) (dO 1 (fun _ => 0) (ay 1 (fun _ => (imax 64 (au .i64 16 (aN ij 4081)))) 0)))) (dO 1 (fun _ => (gG .i64 (bM .i64 (imax 64 (au .i64 16 (aN ge 4081)))) 2)) (dO 1 (fun _ => (gG .i64 (imax 64 (au .i64 16 (aN ge 4081))) 2)) (dO 1 (fun _ => (imax 64 (au .i64 16 (aN ge 4081)))) (dO 1 (fun _ => (imax 64 (au .i64 16 (aN ge 4081)))) (dO 1 (fun _ => (gG .i64 (imax 64 (au .i64 16 (aN ge 4081))) 2)) (dO 1 (fun _ => (gG .i64 (bM .i64 (imax 64 (au .i64 16 (aN ge 4081)))) 2)) (ay 1 (fun _ => (bM .i64 (imax 64 (au .i64 16 (aN ge 4081))))) (bM .i64 (imax 64 (au .i64 16 (aN ge 4081))))))))))))))))
theorem atz (cm ge ij iq iv iu:Int) {K0 : Int -> Int -> Int -> Int -> Nat -> (Nat -> Int) -> (Nat -> Int) -> Prop} (h : YK cm ge ij iq iv iu) (hK : K0 (mW cm ge ij iq iv iu) (lI cm ge ij iq iv iu) (lJ cm ge ij iq iv iu) (lK cm ge ij iq iv iu) (lM cm ge ij iq iv iu) (lN cm ge ij iq iv iu) (lQ cm ge ij iq iv iu)) : ak8 cm ge ij iq iv iu K0  := by
 unfold ak8 YK mW lI lJ lK lM lN lQ at *
 simp only [aH, true_and]; try simp only [aH, true_and] at h
 repeat' first | exact hK | (refine aC (fun c => ?_) (fun c => ?_) <;> try simp only [c, cond_true, cond_false] at h hK ⊢) | refine ⟨rfl, ?_⟩ | refine ⟨trivial, ?_⟩ | refine ⟨by decide, ?_⟩ | (refine ⟨h.1, ?_⟩; replace h := h.2) | refine ⟨h, ?_⟩
def amb (a0 a1:Int) (K0 : Int -> Bool -> Prop)  : Prop := Ts 3 (((0 <= (32:Int)) /\ (((dL .i64 a1 32) ≠ 0) /\ Ts 5 (K0 (aB .i64 a0 (dL .i64 a1 32)) false))))
def VO (a0 a1:Int) : Prop := ((dL .i64 a1 32) ≠ 0)
def Df (a0 a1:Int) : Int := (aB .i64 a0 (dL .i64 a1 32))
def Dh (a0 a1:Int) : Bool := false
theorem auP (a0 a1:Int) {K0 : Int -> Bool -> Prop} (h : VO a0 a1) (hK : K0 (Df a0 a1) (Dh a0 a1)) : amb a0 a1 K0  := by
 unfold amb VO Df Dh at *
 simp only [aH, true_and]; try simp only [aH, true_and] at h
 repeat' first | exact hK | refine ⟨rfl, ?_⟩ | refine ⟨trivial, ?_⟩ | refine ⟨by decide, ?_⟩ | (refine ⟨h.1, ?_⟩; replace h := h.2) | refine ⟨h, ?_⟩
def ala (cm ge ij iq iv iu a1:Int) (K0 : Int -> Bool -> Int -> Bool -> Int -> Bool -> Int -> Bool -> Prop)  : Prop := Ts 5 (((VO iq a1) /\ Ts 3 (((VO iv a1) /\ Ts 3 (((VO iu 8) /\ ((adu (Df iu 8) (Dh iu 8)) /\ Ts 2 ((true = true /\ Ts 1 (K0 (Df iq a1) (Dh iq a1) (Df iv a1) (Dh iv a1) (lW (Df iu 8) (Dh iu 8)) (RS (Df iu 8) (Dh iu 8)) (RX (Df iu 8) (Dh iu 8)) (RY (Df iu 8) (Dh iu 8))))))))))))
def acT (cm ge ij iq iv iu a1:Int) : Prop := ((VO iq a1) /\ ((VO iv a1) /\ ((VO iu 8) /\ (adu (Df iu 8) (Dh iu 8)))))
def mX (cm ge ij iq iv iu a1:Int) : Int := (Df iq a1)
def mY (cm ge ij iq iv iu a1:Int) : Bool := (Dh iq a1)
def mZ (cm ge ij iq iv iu a1:Int) : Int := (Df iv a1)
def nC (cm ge ij iq iv iu a1:Int) : Bool := (Dh iv a1)
def nD (cm ge ij iq iv iu a1:Int) : Int := (lW (Df iu 8) (Dh iu 8))
def nG (cm ge ij iq iv iu a1:Int) : Bool := (RS (Df iu 8) (Dh iu 8))
def nH (cm ge ij iq iv iu a1:Int) : Int := (RX (Df iu 8) (Dh iu 8))
def nI (cm ge ij iq iv iu a1:Int) : Bool := (RY (Df iu 8) (Dh iu 8))
theorem atB (cm ge ij iq iv iu a1:Int) {K0 : Int -> Bool -> Int -> Bool -> Int -> Bool -> Int -> Bool -> Prop} (h : acT cm ge ij iq iv iu a1) (hK : K0 (mX cm ge ij iq iv iu a1) (mY cm ge ij iq iv iu a1) (mZ cm ge ij iq iv iu a1) (nC cm ge ij iq iv iu a1) (nD cm ge ij iq iv iu a1) (nG cm ge ij iq iv iu a1) (nH cm ge ij iq iv iu a1) (nI cm ge ij iq iv iu a1)) : ala cm ge ij iq iv iu a1 K0  := by
 unfold ala acT mX mY mZ nC nD nG nH nI at *
 simp only [aH, true_and]; try simp only [aH, true_and] at h
 repeat' first | exact hK | refine ⟨rfl, ?_⟩ | refine ⟨trivial, ?_⟩ | refine ⟨by decide, ?_⟩ | (refine ⟨h.1, ?_⟩; replace h := h.2) | refine ⟨h, ?_⟩
def am5 (cm ge ij iq iv iu a1:Int) (K0 : Int -> Int -> Int -> Int -> Nat -> (Nat -> Int) -> (Nat -> Int) -> Prop)  : Prop := Ts 3 (((YK cm ge ij iq iv iu) /\ Ts 2 (((acT cm ge ij iq iv iu a1) /\ ((ZR (mW cm ge ij iq iv iu) (lI cm ge ij iq iv iu) (lJ cm ge ij iq iv iu) (lK cm ge ij iq iv iu) (lM cm ge ij iq iv iu) (lN cm ge ij iq iv iu) (lQ cm ge ij iq iv iu) (mX cm ge ij iq iv iu a1) (mY cm ge ij iq iv iu a1) (mZ cm ge ij iq iv iu a1) (nC cm ge ij iq iv iu a1) (nD cm ge ij iq iv iu a1) (nG cm ge ij iq iv iu a1) (nH cm ge ij iq iv iu a1) (nI cm ge ij iq iv iu a1)) /\ Ts 6 ((true = true /\ Ts 3 (K0 (Ju (mW cm ge ij iq iv iu) (lI cm ge ij iq iv iu) (lJ cm ge ij iq iv iu) (lK cm ge ij iq iv iu) (lM cm ge ij iq iv iu) (lN cm ge ij iq iv iu) (lQ cm ge ij iq iv iu) (mX cm ge ij iq iv iu a1) (mY cm ge ij iq iv iu a1) (mZ cm ge ij iq iv iu a1) (nC cm ge ij iq iv iu a1) (nD cm ge ij iq iv iu a1) (nG cm ge ij iq iv iu a1) (nH cm ge ij iq iv iu a1) (nI cm ge ij iq iv iu a1)) (Jv (mW cm ge ij iq iv iu) (lI cm ge ij iq iv iu) (lJ cm ge ij iq iv iu) (lK cm ge ij iq iv iu) (lM cm ge ij iq iv iu) (lN cm ge ij iq iv iu) (lQ cm ge ij iq iv iu) (mX cm ge ij iq iv iu a1) (mY cm ge ij iq iv iu a1) (mZ cm ge ij iq iv iu a1) (nC cm ge ij iq iv iu a1) (nD cm ge ij iq iv iu a1) (nG cm ge ij iq iv iu a1) (nH cm ge ij iq iv iu a1) (nI cm ge ij iq iv iu a1)) (Jw (mW cm ge ij iq iv iu) (lI cm ge ij iq iv iu) (lJ cm ge ij iq iv iu) (lK cm ge ij iq iv iu) (lM cm ge ij iq iv iu) (lN cm ge ij iq iv iu) (lQ cm ge ij iq iv iu) (mX cm ge ij iq iv iu a1) (mY cm ge ij iq iv iu a1) (mZ cm ge ij iq iv iu a1) (nC cm ge ij iq iv iu a1) (nD cm ge ij iq iv iu a1) (nG cm ge ij iq iv iu a1) (nH cm ge ij iq iv iu a1) (nI cm ge ij iq iv iu a1)) (Jy (mW cm ge ij iq iv iu) (lI cm ge ij iq iv iu) (lJ cm ge ij iq iv iu) (lK cm ge ij iq iv iu) (lM cm ge ij iq iv iu) (lN cm ge ij iq iv iu) (lQ cm ge ij iq iv iu) (mX cm ge ij iq iv iu a1) (mY cm ge ij iq iv iu a1) (mZ cm ge ij iq iv iu a1) (nC cm ge ij iq iv iu a1) (nD cm ge ij iq iv iu a1) (nG cm ge ij iq iv iu a1) (nH cm ge ij iq iv iu a1) (nI cm ge ij iq iv iu a1)) (Jz (mW cm ge ij iq iv iu) (lI cm ge ij iq iv iu) (lJ cm ge ij iq iv iu) (lK cm ge ij iq iv iu) (lM cm ge ij iq iv iu) (lN cm ge ij iq iv iu) (lQ cm ge ij iq iv iu) (mX cm ge ij iq iv iu a1) (mY cm ge ij iq iv iu a1) (mZ cm ge ij iq iv iu a1) (nC cm ge ij iq iv iu a1) (nD cm ge ij iq iv iu a1) (nG cm ge ij iq iv iu a1) (nH cm ge ij iq iv iu a1) (nI cm ge ij iq iv iu a1)) (JA (mW cm ge ij iq iv iu) (lI cm ge ij iq iv iu) (lJ cm ge ij iq iv iu) (lK cm ge ij iq iv iu) (lM cm ge ij iq iv iu) (lN cm ge ij iq iv iu) (lQ cm ge ij iq iv iu) (mX cm ge ij iq iv iu a1) (mY cm ge ij iq iv iu a1) (mZ cm ge ij iq iv iu a1) (nC cm ge ij iq iv iu a1) (nD cm ge ij iq iv iu a1) (nG cm ge ij iq iv iu a1) (nH cm ge ij iq iv iu a1) (nI cm ge ij iq iv iu a1)) (JB (mW cm ge ij iq iv iu) (lI cm ge ij iq iv iu) (lJ cm ge ij iq iv iu) (lK cm ge ij iq iv iu) (lM cm ge ij iq iv iu) (lN cm ge ij iq iv iu) (lQ cm ge ij iq iv iu) (mX cm ge ij iq iv iu a1) (mY cm ge ij iq iv iu a1) (mZ cm ge ij iq iv iu a1) (nC cm ge ij iq iv iu a1) (nD cm ge ij iq iv iu a1) (nG cm ge ij iq iv iu a1) (nH cm ge ij iq iv iu a1) (nI cm ge ij iq iv iu a1))))))))))
def Zo (cm ge ij iq iv iu a1:Int) : Prop := ((YK cm ge ij iq iv iu) /\ ((acT cm ge ij iq iv iu a1) /\ (ZR (mW cm ge ij iq iv iu) (lI cm ge ij iq iv iu) (lJ cm ge ij iq iv iu) (lK cm ge ij iq iv iu) (lM cm ge ij iq iv iu) (lN cm ge ij iq iv iu) (lQ cm ge ij iq iv iu) (mX cm ge ij iq iv iu a1) (mY cm ge ij iq iv iu a1) (mZ cm ge ij iq iv iu a1) (nC cm ge ij iq iv iu a1) (nD cm ge ij iq iv iu a1) (nG cm ge ij iq iv iu a1) (nH cm ge ij iq iv iu a1) (nI cm ge ij iq iv iu a1))))
def DC (cm ge ij iq iv iu a1:Int) : Int := (Ju (mW cm ge ij iq iv iu) (lI cm ge ij iq iv iu) (lJ cm ge ij iq iv iu) (lK cm ge ij iq iv iu) (lM cm ge ij iq iv iu) (lN cm ge ij iq iv iu) (lQ cm ge ij iq iv iu) (mX cm ge ij iq iv iu a1) (mY cm ge ij iq iv iu a1) (mZ cm ge ij iq iv iu a1) (nC cm ge ij iq iv iu a1) (nD cm ge ij iq iv iu a1) (nG cm ge ij iq iv iu a1) (nH cm ge ij iq iv iu a1) (nI cm ge ij iq iv iu a1))
def DF (cm ge ij iq iv iu a1:Int) : Int := (Jv (mW cm ge ij iq iv iu) (lI cm ge ij iq iv iu) (lJ cm ge ij iq iv iu) (lK cm ge ij iq iv iu) (lM cm ge ij iq iv iu) (lN cm ge ij iq iv iu) (lQ cm ge ij iq iv iu) (mX cm ge ij iq iv iu a1) (mY cm ge ij iq iv iu a1) (mZ cm ge ij iq iv iu a1) (nC cm ge ij iq iv iu a1) (nD cm ge ij iq iv iu a1) (nG cm ge ij iq iv iu a1) (nH cm ge ij iq iv iu a1) (nI cm ge ij iq iv iu a1))
def DI (cm ge ij iq iv iu a1:Int) : Int := (Jw (mW cm ge ij iq iv iu) (lI cm ge ij iq iv iu) (lJ cm ge ij iq iv iu) (lK cm ge ij iq iv iu) (lM cm ge ij iq iv iu) (lN cm ge ij iq iv iu) (lQ cm ge ij iq iv iu) (mX cm ge ij iq iv iu a1) (mY cm ge ij iq iv iu a1) (mZ cm ge ij iq iv iu a1) (nC cm ge ij iq iv iu a1) (nD cm ge ij iq iv iu a1) (nG cm ge ij iq iv iu a1) (nH cm ge ij iq iv iu a1) (nI cm ge ij iq iv iu a1))
def DJ (cm ge ij iq iv iu a1:Int) : Int := (Jy (mW cm ge ij iq iv iu) (lI cm ge ij iq iv iu) (lJ cm ge ij iq iv iu) (lK cm ge ij iq iv iu) (lM cm ge ij iq iv iu) (lN cm ge ij iq iv iu) (lQ cm ge ij iq iv iu) (mX cm ge ij iq iv iu a1) (mY cm ge ij iq iv iu a1) (mZ cm ge ij iq iv iu a1) (nC cm ge ij iq iv iu a1) (nD cm ge ij iq iv iu a1) (nG cm ge ij iq iv iu a1) (nH cm ge ij iq iv iu a1) (nI cm ge ij iq iv iu a1))
def AU (cm ge ij iq iv iu a1:Int) : Nat := (Jz (mW cm ge ij iq iv iu) (lI cm ge ij iq iv iu) (lJ cm ge ij iq iv iu) (lK cm ge ij iq iv iu) (lM cm ge ij iq iv iu) (lN cm ge ij iq iv iu) (lQ cm ge ij iq iv iu) (mX cm ge ij iq iv iu a1) (mY cm ge ij iq iv iu a1) (mZ cm ge ij iq iv iu a1) (nC cm ge ij iq iv iu a1) (nD cm ge ij iq iv iu a1) (nG cm ge ij iq iv iu a1) (nH cm ge ij iq iv iu a1) (nI cm ge ij iq iv iu a1))
def Bf (cm ge ij iq iv iu a1:Int) : (Nat -> Int) := (JA (mW cm ge ij iq iv iu) (lI cm ge ij iq iv iu) (lJ cm ge ij iq iv iu) (lK cm ge ij iq iv iu) (lM cm ge ij iq iv iu) (lN cm ge ij iq iv iu) (lQ cm ge ij iq iv iu) (mX cm ge ij iq iv iu a1) (mY cm ge ij iq iv iu a1) (mZ cm ge ij iq iv iu a1) (nC cm ge ij iq iv iu a1) (nD cm ge ij iq iv iu a1) (nG cm ge ij iq iv iu a1) (nH cm ge ij iq iv iu a1) (nI cm ge ij iq iv iu a1))
def Bg (cm ge ij iq iv iu a1:Int) : (Nat -> Int) := (JB (mW cm ge ij iq iv iu) (lI cm ge ij iq iv iu) (lJ cm ge ij iq iv iu) (lK cm ge ij iq iv iu) (lM cm ge ij iq iv iu) (lN cm ge ij iq iv iu) (lQ cm ge ij iq iv iu) (mX cm ge ij iq iv iu a1) (mY cm ge ij iq iv iu a1) (mZ cm ge ij iq iv iu a1) (nC cm ge ij iq iv iu a1) (nD cm ge ij iq iv iu a1) (nG cm ge ij iq iv iu a1) (nH cm ge ij iq iv iu a1) (nI cm ge ij iq iv iu a1))
theorem avK (cm ge ij iq iv iu a1:Int) {K0 : Int -> Int -> Int -> Int -> Nat -> (Nat -> Int) -> (Nat -> Int) -> Prop} (h : Zo cm ge ij iq iv iu a1) (hK : K0 (DC cm ge ij iq iv iu a1) (DF cm ge ij iq iv iu a1) (DI cm ge ij iq iv iu a1) (DJ cm ge ij iq iv iu a1) (AU cm ge ij iq iv iu a1) (Bf cm ge ij iq iv iu a1) (Bg cm ge ij iq iv iu a1)) : am5 cm ge ij iq iv iu a1 K0  := by
 unfold am5 Zo DC DF DI DJ AU Bf Bg at *
 simp only [aH, true_and]; try simp only [aH, true_and] at h
 repeat' first | exact hK | refine ⟨rfl, ?_⟩ | refine ⟨trivial, ?_⟩ | refine ⟨by decide, ?_⟩ | (refine ⟨h.1, ?_⟩; replace h := h.2) | refine ⟨h, ?_⟩
def sm (z:Int) : Prop := -10000 <= z /\ z <= 10000
theorem XG : sm 0 := ⟨by decide, by decide⟩
theorem aeR {z : Int} (h : sm z) : Num' z := ⟨by have := h.1; omega, by have := h.2; omega⟩
theorem MB {z : Int} (h : sm z) : sm (bM .i64 z) := by
  obtain ⟨h1, h2⟩ := h
  rw [rF (by omega) (by omega)]
  exact ⟨by omega, by omega⟩
theorem aeS {z : Int} (h : sm z) : sm (gG .i64 z 2) := by
  obtain ⟨h1, h2⟩ := h
  have e : z.tdiv 2 <= 10000 /\ -10000 <= z.tdiv 2 := by
    have q : (z.tdiv 2).natAbs = z.natAbs / 2 := Int.natAbs_tdiv z 2
    omega
  rw [Pg]
  show sm (IntKind.i64.wrap (z.tdiv 2))
  rw [IntWalk.i64_in _ ⟨by omega, by omega⟩]
  exact ⟨by omega, by omega⟩
theorem aeT {z : Int} (h : sm z) : sm (imax 64 z) := by
  obtain ⟨h1, h2⟩ := h
  rw [Cb]
  exact ⟨by omega, by omega⟩
theorem alc (a:Int) {m : Int} (h : 0 < m) (h' : m < 1000000) : 0 <= aN a m /\ aN a m < m := by
  have h1 : aB .i64 a m < m := by rw [rC]; exact Int.tmod_lt_of_pos _ h
  have h2 : -m < aB .i64 a m := by rw [rC]; exact Int.lt_tmod_of_pos _ h
  unfold aN
  generalize aB .i64 a m = r at *
  refine dN (p := fun z : Int => 0 <= z /\ z < m) (fun hc => ?_) (fun hc => ?_)
  . rw [dY] at hc; rw [fF (by omega) (by omega)]; omega
  . rw [fJ] at hc; omega
theorem aaN (a:Int) : sm (au .i64 16 (aN a 4081)) := by
  have := alc a (m := 4081) (by decide) (by decide)
  rw [fF (by omega) (by omega)]
  exact ⟨by omega, by omega⟩
theorem aaO (x:Int) : sm (au .i64 16 (aB .i64 x 600)) := by
  have h1 : aB .i64 x 600 < 600 := by rw [rC]; exact Int.tmod_lt_of_pos _ (by decide)
  have h2 : -600 < aB .i64 x 600 := by rw [rC]; exact Int.lt_tmod_of_pos _ (by decide)
  rw [fF (by omega) (by omega)]
  exact ⟨by omega, by omega⟩
theorem GH {p : Int -> Prop} {x : Int} {g : Nat -> Int} (hx : p x) (hg : ∀ j, p (g j)) : ∀ j, p (dO 1 (fun _ => x) g j) := fun j => by
  unfold dO
  exact dN (fun _ => hx) (fun _ => hg _)
theorem all_push {p : Int -> Prop} {x y : Int} (hx : p x) (hy : p y) : ∀ j, p (ay 1 (fun _ => x) y j) := fun j => by
  unfold ay
  exact dN (fun _ => hx) (fun _ => hy)
section
variable (a b c d e f:Int)
theorem ald : I64 (lI a b c d e f) := by
  unfold lI
  repeat' first | exact KJ _ _ | exact ⟨by decide, by decide⟩ | refine dN (p := I64) (fun _ => ?_) (fun _ => ?_)
theorem shape2 : sm (lJ a b c d e f) := by
  unfold lJ
  repeat' first | exact aaO _ | exact aaN _ | exact XG | refine dN (p := sm) (fun _ => ?_) (fun _ => ?_)
theorem shape3 : sm (lK a b c d e f) := by
  unfold lK
  repeat' first | exact aaO _ | exact aaN _ | exact XG | refine dN (p := sm) (fun _ => ?_) (fun _ => ?_)
theorem aeU : lM a b c d e f <= 8 := by
  unfold lM
  repeat' first | exact (by decide) | refine dN (p := fun n : Nat => n <= 8) (fun _ => ?_) (fun _ => ?_)
theorem shape5 : ∀ j, sm (lN a b c d e f j) := by
  unfold lN
  repeat' first | exact aaO _ | exact aaN _ | exact XG | exact fun _ => XG | refine GH ?_ ?_ | refine all_push ?_ ?_ | refine MB ?_ | refine aeS ?_ | refine aeT ?_ | refine dN (p := fun g : Nat -> Int => ∀ j, sm (g j)) (fun _ => ?_) (fun _ => ?_)
theorem ale : ∀ j, sm (lQ a b c d e f j) := by
  unfold lQ
  repeat' first | exact aaO _ | exact aaN _ | exact XG | exact fun _ => XG | refine GH ?_ ?_ | refine all_push ?_ ?_ | refine MB ?_ | refine aeS ?_ | refine aeT ?_ | refine dN (p := fun g : Nat -> Int => ∀ j, sm (g j)) (fun _ => ?_) (fun _ => ?_)
theorem alf : YK a b c d e f := by
  unfold YK
  refine ⟨by show (4081:Int) ≠ 0; decide, by show (4081:Int) ≠ 0; decide, aC (fun _ => ?_) (fun _ => ?_)⟩ <;> (show (5:Int) ≠ 0; decide)
end
theorem XH {k r w h : Int} {n : Nat} {x y : Nat -> Int} (hw : sm w) (hh : sm h) (hx : ∀ j, sm (x j)) (hy : ∀ j, sm (y j)) : (∀ j, sm (bH k r w h n x y j)) /\ (∀ j, sm (bI k r w h n x y j)) := by
  unfold bH bI
  have ha : ∀ g : Nat -> Int, (∀ j, sm (g j)) -> ∀ j, sm (dO 0 (fun _ => 0) g j) := fun g hg j => by
    unfold dO
    exact dN (fun _ => XG) (fun _ => hg _)
  refine ⟨?_, ?_⟩ <;> refine dN (p := fun g : Nat -> Int => ∀ j, sm (g j)) (fun _ => fun _ => XG) (fun _ => ?_) <;> refine dN (p := fun g : Nat -> Int => ∀ j, sm (g j)) (fun _ => ?_) (fun _ => ha _ ?_)
  . exact GH (MB hw) (GH hw (all_push hw (MB hw)))
  . exact hx
  . exact GH (MB hh) (GH (MB hh) (all_push hh hh))
  . exact hy
theorem UC {k r w h : Int} {n : Nat} {x y : Nat -> Int} (hn : n <= 8) : lX k r w h n x y <= 8 := by
  unfold lX
  repeat' first | omega | refine dN (p := fun n : Nat => n <= 8) (fun _ => ?_) (fun _ => ?_)
theorem alg {k r w h : Int} {n : Nat} {x y : Nat -> Int} {px : Int} {pxf : Bool} {py : Int} {pyf : Bool} {c : Int} {cf : Bool} {s : Int} {sf : Bool} (hw : sm w) (hh : sm h) (hn : n <= 8) (hx : ∀ j, sm (x j)) (hy : ∀ j, sm (y j)) (hpx : Num' px) (hpy : Num' py) (hc : Num' c) (hs : Num' s) : ZR k r w h n x y px pxf py pyf c cf s sf := by
  obtain ⟨c1, c2⟩ := XH (k := k) (r := r) (n := n) hw hh hx hy
  have cn := UC (k := k) (r := r) (w := w) (h := h) (x := x) (y := y) hn
  unfold ZR
  refine ⟨trivial, ⟨(MO hc hc hs hs).1, (KG hc).1, aC (fun _ => trivial) (fun _ => (KG hs).1)⟩, ?_, by omega, fun j hj => ?_⟩
  . unfold Zj
    refine aC (fun _ => trivial) (fun _ => aC (fun _ => trivial) (fun _ => ⟨by omega, by omega⟩))
  . obtain ⟨_, pl, _, _, _, _, n1, n2⟩ := RZ (aeR (c1 j)) (aeR (c2 j))
    refine ⟨pl, ?_⟩
    have hns : Num' (nJ s sf) := by rw [(QE hs).1]; obtain ⟨_, _⟩ := hs; exact ⟨by omega, by omega⟩
    refine ⟨⟨(MO hc n1 hns n2).1, (MO hs n1 hc n2).1⟩, ?_⟩
    refine (ab4 hpx hpy ?_ ?_).2.1
    . unfold I5; rw [(MO hc n1 hns n2).2.1]; exact pV _
    . unfold I7; rw [(MO hs n1 hc n2).2.1]; exact pV _
theorem MC (a:Int) (af:Bool) (b:Int) (bf:Bool) : I64 (Ji a af b bf) /\ I64 (Jj a af b bf) := by
  unfold Ji Jj Gf
  exact ⟨KJ _ _, KJ _ _⟩
theorem XI : I64 0 := ⟨by decide, by decide⟩
theorem alh {k r w h : Int} {n : Nat} {x y : Nat -> Int} {px : Int} {pxf : Bool} {py : Int} {pyf : Bool} {c : Int} {cf : Bool} {s : Int} {sf : Bool} (hr : I64 r) (hn : n <= 8) : OE (Ju k r w h n x y px pxf py pyf c cf s sf) (Jv k r w h n x y px pxf py pyf c cf s sf) (Jw k r w h n x y px pxf py pyf c cf s sf) (Jy k r w h n x y px pxf py pyf c cf s sf) (Jz k r w h n x y px pxf py pyf c cf s sf) (JA k r w h n x y px pxf py pyf c cf s sf) (JB k r w h n x y px pxf py pyf c cf s sf) := by
  have cn := UC (k := k) (r := r) (w := w) (h := h) (x := x) (y := y) hn
  unfold Ju Jv Jw Jy Jz JA JB
  cases WY k r w h n x y px pxf py pyf c cf s sf with
  | false => exact ⟨⟨XI, XI, XI, XI⟩, by show 0 <= 1000000; omega, fun j hj => absurd hj (by show ¬ j < 0; omega)⟩
  | true =>
    simp only [cond_true]
    cases ieq k 1 with
    | true => exact ⟨⟨⟨by decide, by decide⟩, (MC _ _ _ _).1, (MC _ _ _ _).2, hr⟩, by show 0 <= 1000000; omega, fun j hj => absurd hj (by show ¬ j < 0; omega)⟩
    | false =>
      simp only [cond_false]
      refine ⟨⟨⟨by decide, by decide⟩, (MC _ _ _ _).1, (MC _ _ _ _).2, XI⟩, by omega, fun j hj => ?_⟩
      rw [Tm hj, Tm hj]
      exact ⟨(MC _ _ _ _).1, (MC _ _ _ _).2⟩
theorem UD (a b c d e f:Int) : Zo a b c d e f 12 /\ OE (DC a b c d e f 12) (DF a b c d e f 12) (DI a b c d e f 12) (DJ a b c d e f 12) (AU a b c d e f 12) (Bf a b c d e f 12) (Bg a b c d e f 12) := by
  have hnum : ∀ x m : Int, dL .i64 m 32 = m * 4294967296 -> 0 < m -> m < 100 -> Num' (Df x m) /\ VO x m := fun x m he h1 h2 => by
    unfold Df VO
    rw [he, rC]
    have := Int.tmod_lt_of_pos x (b := m * 4294967296) (by omega)
    have := Int.lt_tmod_of_pos x (b := m * 4294967296) (by omega)
    show Num' (x.tmod (m * 4294967296)) /\ m * 4294967296 ≠ 0
    exact ⟨⟨by omega, by omega⟩, by omega⟩
  have e12 : dL .i64 12 32 = 12 * 4294967296 := by rw [Ph]; decide
  have e8 : dL .i64 8 32 = 8 * 4294967296 := by rw [Ph]; decide
  have hq : Num' 6746518852 := ⟨by decide, by decide⟩
  have hwr : ∀ x g, Num' (gq x g) := fun x g => by
    have := Oy x g
    exact ⟨by omega, by omega⟩
  unfold Zo acT
  refine ⟨⟨alf a b c d e f, ⟨(hnum d 12 e12 (by decide) (by decide)).2, (hnum e 12 e12 (by decide) (by decide)).2, (hnum f 8 e8 (by decide) (by decide)).2, (afg (f := aK (Df f 8) (Dh f 8)) (g := false) (hwr _ _) hq).1⟩, ?_⟩, ?_⟩
  . refine alg (shape2 a b c d e f) (shape3 a b c d e f) (aeU a b c d e f) (shape5 a b c d e f) (ale a b c d e f) (hnum d 12 e12 (by decide) (by decide)).1 (hnum e 12 e12 (by decide) (by decide)).1 ?_ ?_
    . exact acy _ _
    . exact acy _ _
  . exact alh (ald a b c d e f) (aeU a b c d e f)
def ali (a0 a1 a2:Int) (K0 : Int -> Int -> Prop)  : Prop := Ts 4 ((((au .i64 a2 1) ≠ 0) /\ Ts 3 ((((au .i64 a2 1) ≠ 0) /\ Ts 2 ((true = true /\ Ts 1 (K0 (aB .i64 a0 (au .i64 a2 1)) (aB .i64 a1 (au .i64 a2 1)))))))))
def aeV (a0 a1 a2:Int) : Prop := (((au .i64 a2 1) ≠ 0) /\ ((au .i64 a2 1) ≠ 0))
def aj (a0 a1 a2:Int) : Int := (aB .i64 a0 (au .i64 a2 1))
def ak (a0 a1 a2:Int) : Int := (aB .i64 a1 (au .i64 a2 1))
theorem atD (a0 a1 a2:Int) {K0 : Int -> Int -> Prop} (h : aeV a0 a1 a2) (hK : K0 (aj a0 a1 a2) (ak a0 a1 a2)) : ali a0 a1 a2 K0  := by
 unfold ali aeV aj ak at *
 simp only [aH, true_and]; try simp only [aH, true_and] at h
 repeat' first | exact hK | refine ⟨rfl, ?_⟩ | refine ⟨trivial, ?_⟩ | refine ⟨by decide, ?_⟩ | (refine ⟨h.1, ?_⟩; replace h := h.2) | refine ⟨h, ?_⟩
def Ii (cm ge ic ie:Int) (jp:Nat) (il kf kg kh:Nat -> Int) (ki : Nat -> Nat) (kj kl : Nat -> Nat -> Int) (ko jm:Int) (jz:Bool) (jt:Int) (nq:Bool) (nu:Int) (nv:Bool) (nw:Int) (ny:Bool) (c x0 : Int -> Int -> Bool -> Int -> Bool -> Int -> Bool -> Int -> Bool -> Prop)  : Prop := Ts 1 (cond (ilt jm (jp:Int)) (Ts 1 (((0 <= jm /\ jm < (jp:Int)) /\ Ts 7 (((NW (il (Int.toNat jm)) (kf (Int.toNat jm)) (kg (Int.toNat jm)) (kh (Int.toNat jm)) (ki (Int.toNat jm)) (kj (Int.toNat jm)) (kl (Int.toNat jm)) cm ge ic ie) /\ Ts 5 (cond (oL (il (Int.toNat jm)) (kf (Int.toNat jm)) (kg (Int.toNat jm)) (kh (Int.toNat jm)) (ki (Int.toNat jm)) (kj (Int.toNat jm)) (kl (Int.toNat jm)) cm ge ic ie) (Ts 3 (cond (ilt ko 0) (Ts 6 ((true = true /\ Ts 2 (c jm (au .i64 jm 1) (oL (il (Int.toNat jm)) (kf (Int.toNat jm)) (kg (Int.toNat jm)) (kh (Int.toNat jm)) (ki (Int.toNat jm)) (kj (Int.toNat jm)) (kl (Int.toNat jm)) cm ge ic ie) (jZ (il (Int.toNat jm)) (kf (Int.toNat jm)) (kg (Int.toNat jm)) (kh (Int.toNat jm)) (ki (Int.toNat jm)) (kj (Int.toNat jm)) (kl (Int.toNat jm)) cm ge ic ie) (rJ (il (Int.toNat jm)) (kf (Int.toNat jm)) (kg (Int.toNat jm)) (kh (Int.toNat jm)) (ki (Int.toNat jm)) (kj (Int.toNat jm)) (kl (Int.toNat jm)) cm ge ic ie) (wB (il (Int.toNat jm)) (kf (Int.toNat jm)) (kg (Int.toNat jm)) (kh (Int.toNat jm)) (ki (Int.toNat jm)) (kj (Int.toNat jm)) (kl (Int.toNat jm)) cm ge ic ie) (wC (il (Int.toNat jm)) (kf (Int.toNat jm)) (kg (Int.toNat jm)) (kh (Int.toNat jm)) (ki (Int.toNat jm)) (kj (Int.toNat jm)) (kl (Int.toNat jm)) cm ge ic ie) (wE (il (Int.toNat jm)) (kf (Int.toNat jm)) (kg (Int.toNat jm)) (kh (Int.toNat jm)) (ki (Int.toNat jm)) (kj (Int.toNat jm)) (kl (Int.toNat jm)) cm ge ic ie) (wF (il (Int.toNat jm)) (kf (Int.toNat jm)) (kg (Int.toNat jm)) (kh (Int.toNat jm)) (ki (Int.toNat jm)) (kj (Int.toNat jm)) (kl (Int.toNat jm)) cm ge ic ie))))) (Ts 4 (((aiQ (jZ (il (Int.toNat jm)) (kf (Int.toNat jm)) (kg (Int.toNat jm)) (kh (Int.toNat jm)) (ki (Int.toNat jm)) (kj (Int.toNat jm)) (kl (Int.toNat jm)) cm ge ic ie) (rJ (il (Int.toNat jm)) (kf (Int.toNat jm)) (kg (Int.toNat jm)) (kh (Int.toNat jm)) (ki (Int.toNat jm)) (kj (Int.toNat jm)) (kl (Int.toNat jm)) cm ge ic ie) jt nq) /\ Ts 3 (cond (ilt (Js (jZ (il (Int.toNat jm)) (kf (Int.toNat jm)) (kg (Int.toNat jm)) (kh (Int.toNat jm)) (ki (Int.toNat jm)) (kj (Int.toNat jm)) (kl (Int.toNat jm)) cm ge ic ie) (rJ (il (Int.toNat jm)) (kf (Int.toNat jm)) (kg (Int.toNat jm)) (kh (Int.toNat jm)) (ki (Int.toNat jm)) (kj (Int.toNat jm)) (kl (Int.toNat jm)) cm ge ic ie) jt nq) 0) (Ts 4 ((true = true /\ Ts 2 (c jm (au .i64 jm 1) (oL (il (Int.toNat jm)) (kf (Int.toNat jm)) (kg (Int.toNat jm)) (kh (Int.toNat jm)) (ki (Int.toNat jm)) (kj (Int.toNat jm)) (kl (Int.toNat jm)) cm ge ic ie) (jZ (il (Int.toNat jm)) (kf (Int.toNat jm)) (kg (Int.toNat jm)) (kh (Int.toNat jm)) (ki (Int.toNat jm)) (kj (Int.toNat jm)) (kl (Int.toNat jm)) cm ge ic ie) (rJ (il (Int.toNat jm)) (kf (Int.toNat jm)) (kg (Int.toNat jm)) (kh (Int.toNat jm)) (ki (Int.toNat jm)) (kj (Int.toNat jm)) (kl (Int.toNat jm)) cm ge ic ie) (wB (il (Int.toNat jm)) (kf (Int.toNat jm)) (kg (Int.toNat jm)) (kh (Int.toNat jm)) (ki (Int.toNat jm)) (kj (Int.toNat jm)) (kl (Int.toNat jm)) cm ge ic ie) (wC (il (Int.toNat jm)) (kf (Int.toNat jm)) (kg (Int.toNat jm)) (kh (Int.toNat jm)) (ki (Int.toNat jm)) (kj (Int.toNat jm)) (kl (Int.toNat jm)) cm ge ic ie) (wE (il (Int.toNat jm)) (kf (Int.toNat jm)) (kg (Int.toNat jm)) (kh (Int.toNat jm)) (ki (Int.toNat jm)) (kj (Int.toNat jm)) (kl (Int.toNat jm)) cm ge ic ie) (wF (il (Int.toNat jm)) (kf (Int.toNat jm)) (kg (Int.toNat jm)) (kh (Int.toNat jm)) (ki (Int.toNat jm)) (kj (Int.toNat jm)) (kl (Int.toNat jm)) cm ge ic ie))))) (Ts 2 (c ko (au .i64 jm 1) jz jt nq nu nv nw ny)))))))) (Ts 3 (c ko (au .i64 jm 1) jz jt nq nu nv nw ny)))))))) (x0 ko jm jz jt nq nu nv nw ny))
def uy (cm ge ic ie:Int) (jp:Nat) (il kf kg kh:Nat -> Int) (ki : Nat -> Nat) (kj kl : Nat -> Nat -> Int) : Nat -> Int -> Int -> Bool -> Int -> Bool -> Int -> Bool -> Int -> Bool -> (Int -> Int -> Bool -> Int -> Bool -> Int -> Bool -> Int -> Bool -> Prop) -> Prop
  | 0, _, _, _, _, _, _, _, _, _, _ => False
  | f + 1, w0, w1, w2, w3, w4, w5, w6, w7, w8, x0 => Ii cm ge ic ie jp il kf kg kh ki kj kl w0 w1 w2 w3 w4 w5 w6 w7 w8 (fun u0 u1 u2 u3 u4 u5 u6 u7 u8 => uy cm ge ic ie jp il kf kg kh ki kj kl f u0 u1 u2 u3 u4 u5 u6 u7 u8 x0) x0 
theorem aaP (cm ge ic ie:Int) (jp:Nat) (il kf kg kh:Nat -> Int) (ki : Nat -> Nat) (kj kl : Nat -> Nat -> Int) (ko jm:Int) (jz:Bool) (jt:Int) (nq:Bool) (nu:Int) (nv:Bool) (nw:Int) (ny:Bool) {c c' : Int -> Int -> Bool -> Int -> Bool -> Int -> Bool -> Int -> Bool -> Prop} {x0 y0 : Int -> Int -> Bool -> Int -> Bool -> Int -> Bool -> Int -> Bool -> Prop} (hc : ∀ w0 w1 w2 w3 w4 w5 w6 w7 w8, c w0 w1 w2 w3 w4 w5 w6 w7 w8 -> c' w0 w1 w2 w3 w4 w5 w6 w7 w8) (h0 : ∀ o0 o1 o2 o3 o4 o5 o6 o7 o8, x0 o0 o1 o2 o3 o4 o5 o6 o7 o8 -> y0 o0 o1 o2 o3 o4 o5 o6 o7 o8) : Ii cm ge ic ie jp il kf kg kh ki kj kl ko jm jz jt nq nu nv nw ny c x0  -> Ii cm ge ic ie jp il kf kg kh ki kj kl ko jm jz jt nq nu nv nw ny c' y0  := by
  unfold Ii
  repeat' first
    | exact hc _ _ _ _ _ _ _ _ _
    | exact h0 _ _ _ _ _ _ _ _ _
    | refine dU ?_
    | refine cO ?_ ?_
    | refine cZ ?_
theorem aaQ (cm ge ic ie:Int) (jp:Nat) (il kf kg kh:Nat -> Int) (ki : Nat -> Nat) (kj kl : Nat -> Nat -> Int) {x0 y0 : Int -> Int -> Bool -> Int -> Bool -> Int -> Bool -> Int -> Bool -> Prop} (h0 : ∀ o0 o1 o2 o3 o4 o5 o6 o7 o8, x0 o0 o1 o2 o3 o4 o5 o6 o7 o8 -> y0 o0 o1 o2 o3 o4 o5 o6 o7 o8) : ∀ (f:Nat) (ko:Int) (jm:Int) (jz:Bool) (jt:Int) (nq:Bool) (nu:Int) (nv:Bool) (nw:Int) (ny:Bool), uy cm ge ic ie jp il kf kg kh ki kj kl f ko jm jz jt nq nu nv nw ny x0 -> uy cm ge ic ie jp il kf kg kh ki kj kl f ko jm jz jt nq nu nv nw ny y0
  | 0, w0, w1, w2, w3, w4, w5, w6, w7, w8 => fun h => h
  | f + 1, w0, w1, w2, w3, w4, w5, w6, w7, w8 => aaP cm ge ic ie jp il kf kg kh ki kj kl w0 w1 w2 w3 w4 w5 w6 w7 w8 (fun u0 u1 u2 u3 u4 u5 u6 u7 u8 => aaQ cm ge ic ie jp il kf kg kh ki kj kl h0 f u0 u1 u2 u3 u4 u5 u6 u7 u8) h0
def acV (cm ge ic ie:Int) (jp:Nat) (il kf kg kh:Nat -> Int) (ki : Nat -> Nat) (kj kl : Nat -> Nat -> Int) (K0 : Int -> Bool -> Int -> Bool -> Int -> Bool -> Int -> Bool -> Prop) (l0 : Int -> Int -> Bool -> Int -> Bool -> Int -> Bool -> Int -> Bool -> (Int -> Int -> Bool -> Int -> Bool -> Int -> Bool -> Int -> Bool -> Prop) -> Prop) : Prop := Ts 11 ((l0 (-1) 0 false 0 false 0 false 0 false (fun qd q5 qa qb re rf rg ri rj => Ts 4 ((true = true /\ Ts 1 (K0 qd qa qb re rf rg ri rj))))))
def qK (is : Nat -> Bool) (t:Nat -> Int) : Nat -> Int
  | 0 => -1
  | k + 1 => if is k = true /\ (qK is t k < 0 \/ whole (t k) < whole (t (qK is t k).toNat)) then (k:Int) else qK is t k
theorem MF {is : Nat -> Bool} {t : Nat -> Int} : ∀ {n : Nat}, qK is t n = -1 \/ 0 <= qK is t n /\ qK is t n < (n:Int) /\ is (qK is t n).toNat = true
  | 0 => .inl rfl
  | n + 1 => by
    unfold qK
    split
    . rename_i h
      exact .inr ⟨by omega, by omega, by rw [Int.toNat_natCast]; exact h.1⟩
    . rcases MF (is := is) (t := t) (n := n) with h | ⟨h1, h2, h3⟩
      . exact .inl h
      . exact .inr ⟨h1, by omega, h3⟩
section
variable (fx fy tx ty:Int) (n:Nat) (a ba bb c:Nat -> Int) (dn : Nat -> Nat) (da db : Nat -> Nat -> Int)
def cs0 (k:Nat) : Bool := oL (a k) (ba k) (bb k) (c k) (dn k) (da k) (db k) fx fy tx ty
def cs1 (k:Nat) : Int := jZ (a k) (ba k) (bb k) (c k) (dn k) (da k) (db k) fx fy tx ty
def fst (m:Nat) : Int := qK (cs0 fx fy tx ty a ba bb c dn da db) (cs1 fx fy tx ty a ba bb c dn da db) m
def Vj {α : Type} (z : α) (f : Nat -> α) (m:Nat) : α := if fst fx fy tx ty a ba bb c dn da db m < 0 then z else f (fst fx fy tx ty a ba bb c dn da db m).toNat
def aeW : Prop := n <= 1000000 /\ ∀ k, k < n -> NW (a k) (ba k) (bb k) (c k) (dn k) (da k) (db k) fx fy tx ty
def aJ : Int := fst fx fy tx ty a ba bb c dn da db n
def qL : Bool := Vj fx fy tx ty a ba bb c dn da db false (fun k => oL (a k) (ba k) (bb k) (c k) (dn k) (da k) (db k) fx fy tx ty) n
def lS : Int := Vj fx fy tx ty a ba bb c dn da db 0 (fun k => jZ (a k) (ba k) (bb k) (c k) (dn k) (da k) (db k) fx fy tx ty) n
def pW : Bool := Vj fx fy tx ty a ba bb c dn da db false (fun k => rJ (a k) (ba k) (bb k) (c k) (dn k) (da k) (db k) fx fy tx ty) n
def qM : Int := Vj fx fy tx ty a ba bb c dn da db 0 (fun k => wB (a k) (ba k) (bb k) (c k) (dn k) (da k) (db k) fx fy tx ty) n
def qN : Bool := Vj fx fy tx ty a ba bb c dn da db false (fun k => wC (a k) (ba k) (bb k) (c k) (dn k) (da k) (db k) fx fy tx ty) n
def qO : Int := Vj fx fy tx ty a ba bb c dn da db 0 (fun k => wE (a k) (ba k) (bb k) (c k) (dn k) (da k) (db k) fx fy tx ty) n
def qP : Bool := Vj fx fy tx ty a ba bb c dn da db false (fun k => wF (a k) (ba k) (bb k) (c k) (dn k) (da k) (db k) fx fy tx ty) n
end
section
variable {fx fy tx ty : Int} {n : Nat} {a ba bb c : Nat -> Int} {dn : Nat -> Nat} {da db : Nat -> Nat -> Int}
theorem alj (m:Nat) : fst fx fy tx ty a ba bb c dn da db m = -1 \/ 0 <= fst fx fy tx ty a ba bb c dn da db m /\ fst fx fy tx ty a ba bb c dn da db m < (m:Int) /\ cs0 fx fy tx ty a ba bb c dn da db (fst fx fy tx ty a ba bb c dn da db m).toNat = true := MF
theorem aaR (hp : aeW fx fy tx ty n a ba bb c dn da db) {x0 : Int -> Int -> Bool -> Int -> Bool -> Int -> Bool -> Int -> Bool -> Prop}
    (h0 : ∀ v, x0 (aJ fx fy tx ty n a ba bb c dn da db) v (qL fx fy tx ty n a ba bb c dn da db) (lS fx fy tx ty n a ba bb c dn da db) (pW fx fy tx ty n a ba bb c dn da db) (qM fx fy tx ty n a ba bb c dn da db) (qN fx fy tx ty n a ba bb c dn da db) (qO fx fy tx ty n a ba bb c dn da db) (qP fx fy tx ty n a ba bb c dn da db)) : ∀ (f j:Nat), j <= n -> n < f + j ->
    uy fx fy tx ty n a ba bb c dn da db f (fst fx fy tx ty a ba bb c dn da db j) (j:Int) (qL fx fy tx ty j a ba bb c dn da db) (lS fx fy tx ty j a ba bb c dn da db) (pW fx fy tx ty j a ba bb c dn da db) (qM fx fy tx ty j a ba bb c dn da db) (qN fx fy tx ty j a ba bb c dn da db) (qO fx fy tx ty j a ba bb c dn da db) (qP fx fy tx ty j a ba bb c dn da db) x0
  | 0, j, h1, h2 => by omega
  | f + 1, j, h1, h2 => by
    show Ii fx fy tx ty n a ba bb c dn da db _ _ _ _ _ _ _ _ _ _ _
    unfold Ii
    simp only [aH, Int.toNat_natCast]
    have rcs := aaR hp h0 f (j + 1)
    refine aC (fun hc => ?_) (fun hc => ?_)
    . rw [dY] at hc
      have hn := hp.1
      have hj : j < n := by omega
      rw [fF (by omega) (by omega)]
      have rcs := rcs (by omega) (by omega)
      have nx : fst fx fy tx ty a ba bb c dn da db (j + 1) = if cs0 fx fy tx ty a ba bb c dn da db j = true /\ (fst fx fy tx ty a ba bb c dn da db j < 0 \/ whole (cs1 fx fy tx ty a ba bb c dn da db j) < whole (cs1 fx fy tx ty a ba bb c dn da db (fst fx fy tx ty a ba bb c dn da db j).toNat)) then (j:Int) else fst fx fy tx ty a ba bb c dn da db j := rfl
      have e0 : oL (a j) (ba j) (bb j) (c j) (dn j) (da j) (db j) fx fy tx ty = cs0 fx fy tx ty a ba bb c dn da db j := rfl
      have yes : (cs0 fx fy tx ty a ba bb c dn da db j = true /\ (fst fx fy tx ty a ba bb c dn da db j < 0 \/ whole (cs1 fx fy tx ty a ba bb c dn da db j) < whole (cs1 fx fy tx ty a ba bb c dn da db (fst fx fy tx ty a ba bb c dn da db j).toNat))) -> uy fx fy tx ty n a ba bb c dn da db f (j:Int) ((j:Int) + 1) (oL (a j) (ba j) (bb j) (c j) (dn j) (da j) (db j) fx fy tx ty) (jZ (a j) (ba j) (bb j) (c j) (dn j) (da j) (db j) fx fy tx ty) (rJ (a j) (ba j) (bb j) (c j) (dn j) (da j) (db j) fx fy tx ty) (wB (a j) (ba j) (bb j) (c j) (dn j) (da j) (db j) fx fy tx ty) (wC (a j) (ba j) (bb j) (c j) (dn j) (da j) (db j) fx fy tx ty) (wE (a j) (ba j) (bb j) (c j) (dn j) (da j) (db j) fx fy tx ty) (wF (a j) (ba j) (bb j) (c j) (dn j) (da j) (db j) fx fy tx ty) x0 := fun h => by
        rw [if_pos h] at nx
        have rr := rcs
        unfold qL lS pW qM qN qO qP Vj at rr
        rw [nx] at rr
        simp only [if_neg (show ¬ ((j:Int) < 0) by omega), Int.toNat_natCast] at rr
        exact rr
      have no : ¬ (cs0 fx fy tx ty a ba bb c dn da db j = true /\ (fst fx fy tx ty a ba bb c dn da db j < 0 \/ whole (cs1 fx fy tx ty a ba bb c dn da db j) < whole (cs1 fx fy tx ty a ba bb c dn da db (fst fx fy tx ty a ba bb c dn da db j).toNat))) -> uy fx fy tx ty n a ba bb c dn da db f (fst fx fy tx ty a ba bb c dn da db j) ((j:Int) + 1) (qL fx fy tx ty j a ba bb c dn da db) (lS fx fy tx ty j a ba bb c dn da db) (pW fx fy tx ty j a ba bb c dn da db) (qM fx fy tx ty j a ba bb c dn da db) (qN fx fy tx ty j a ba bb c dn da db) (qO fx fy tx ty j a ba bb c dn da db) (qP fx fy tx ty j a ba bb c dn da db) x0 := fun h => by
        rw [if_neg h] at nx
        have rr := rcs
        unfold qL lS pW qM qN qO qP Vj at rr ⊢
        rw [nx] at rr
        exact rr
      refine ⟨⟨by omega, hc⟩, hp.2 j hj, aC (fun hd => ?_) (fun hd => ?_)⟩
      . rw [e0] at hd
        refine aC (fun he => ?_) (fun he => ?_)
        . rw [dY] at he
          exact ⟨trivial, yes ⟨hd, .inl he⟩⟩
        . rw [fJ] at he
          have hcmp : Js (jZ (a j) (ba j) (bb j) (c j) (dn j) (da j) (db j) fx fy tx ty) (rJ (a j) (ba j) (bb j) (c j) (dn j) (da j) (db j) fx fy tx ty) (lS fx fy tx ty j a ba bb c dn da db) (pW fx fy tx ty j a ba bb c dn da db) = if whole (cs1 fx fy tx ty a ba bb c dn da db j) < whole (cs1 fx fy tx ty a ba bb c dn da db (fst fx fy tx ty a ba bb c dn da db j).toNat) then -1 else if whole (cs1 fx fy tx ty a ba bb c dn da db (fst fx fy tx ty a ba bb c dn da db j).toNat) < whole (cs1 fx fy tx ty a ba bb c dn da db j) then 1 else 0 := by
            unfold Js
            have e2 : lS fx fy tx ty j a ba bb c dn da db = cs1 fx fy tx ty a ba bb c dn da db (fst fx fy tx ty a ba bb c dn da db j).toNat := if_neg (by omega)
            rw [uT, uT, afx, e2]
            rfl
          rw [hcmp]
          refine ⟨trivial, aC (fun hf => ?_) (fun hf => ?_)⟩
          . rw [dY] at hf
            refine ⟨trivial, yes ⟨hd, .inr ?_⟩⟩
            split at hf
            . assumption
            . split at hf <;> omega
          . rw [fJ] at hf
            refine no (fun q => ?_)
            rcases q.2 with q | q
            . omega
            . rw [if_pos q] at hf; omega
      . rw [e0] at hd
        exact no (fun q => by rw [hd] at q; cases q.1)
    . rw [fJ] at hc
      have : j = n := by omega
      subst this
      exact h0 _
end
theorem atE (cm ge ic ie:Int) (jp:Nat) (il kf kg kh:Nat -> Int) (ki : Nat -> Nat) (kj kl : Nat -> Nat -> Int) {K0 : Int -> Bool -> Int -> Bool -> Int -> Bool -> Int -> Bool -> Prop} (h : aeW cm ge ic ie jp il kf kg kh ki kj kl) (hK : K0 (aJ cm ge ic ie jp il kf kg kh ki kj kl) (qL cm ge ic ie jp il kf kg kh ki kj kl) (lS cm ge ic ie jp il kf kg kh ki kj kl) (pW cm ge ic ie jp il kf kg kh ki kj kl) (qM cm ge ic ie jp il kf kg kh ki kj kl) (qN cm ge ic ie jp il kf kg kh ki kj kl) (qO cm ge ic ie jp il kf kg kh ki kj kl) (qP cm ge ic ie jp il kf kg kh ki kj kl)) : acV cm ge ic ie jp il kf kg kh ki kj kl K0 (uy cm ge ic ie jp il kf kg kh ki kj kl fuel) := by
  unfold acV
  simp only [aH]
  have hn := h.1
  exact aaR h (fun v => ⟨trivial, hK⟩) fuel 0 (by omega) (by rw [gW]; omega)
def Ij (ig:Nat) (cm ge ij iq iv iu:Nat -> Int) (a1 a2 a3 a4:Int) (od:Bool) (ku:Int) (k6:Nat) (ky kz n5 n6 : (Nat -> Int)) (n7 : (Nat -> Nat)) (n8 n9 : (Nat -> Nat -> Int)) (c x0 : Bool -> Int -> Nat -> (Nat -> Int) -> (Nat -> Int) -> (Nat -> Int) -> (Nat -> Int) -> (Nat -> Nat) -> (Nat -> Nat -> Int) -> (Nat -> Nat -> Int) -> Prop)  : Prop := Ts 4 (cond (ilt ku (ig:Int)) (Ts 3 (((0 <= ku /\ ku < (ig:Int)) /\ Ts 1 (((Zo (cm (Int.toNat ku)) (ge (Int.toNat ku)) (ij (Int.toNat ku)) (iq (Int.toNat ku)) (iv (Int.toNat ku)) (iu (Int.toNat ku)) 12) /\ Ts 1 ((((k6 + 1) * 56 <= 1000000000000 /\ (k6 + 1) <= 1000000000000) /\ Ts 4 (c false (au .i64 ku 1) (k6 + 1) (ay k6 ky (DC (cm (Int.toNat ku)) (ge (Int.toNat ku)) (ij (Int.toNat ku)) (iq (Int.toNat ku)) (iv (Int.toNat ku)) (iu (Int.toNat ku)) 12)) (ay k6 kz (DF (cm (Int.toNat ku)) (ge (Int.toNat ku)) (ij (Int.toNat ku)) (iq (Int.toNat ku)) (iv (Int.toNat ku)) (iu (Int.toNat ku)) 12)) (ay k6 n5 (DI (cm (Int.toNat ku)) (ge (Int.toNat ku)) (ij (Int.toNat ku)) (iq (Int.toNat ku)) (iv (Int.toNat ku)) (iu (Int.toNat ku)) 12)) (ay k6 n6 (DJ (cm (Int.toNat ku)) (ge (Int.toNat ku)) (ij (Int.toNat ku)) (iq (Int.toNat ku)) (iv (Int.toNat ku)) (iu (Int.toNat ku)) 12)) (ay k6 n7 (AU (cm (Int.toNat ku)) (ge (Int.toNat ku)) (ij (Int.toNat ku)) (iq (Int.toNat ku)) (iv (Int.toNat ku)) (iu (Int.toNat ku)) 12)) (Qj k6 n8 (Bf (cm (Int.toNat ku)) (ge (Int.toNat ku)) (ij (Int.toNat ku)) (iq (Int.toNat ku)) (iv (Int.toNat ku)) (iu (Int.toNat ku)) 12)) (Qj k6 n9 (Bg (cm (Int.toNat ku)) (ge (Int.toNat ku)) (ij (Int.toNat ku)) (iq (Int.toNat ku)) (iv (Int.toNat ku)) (iu (Int.toNat ku)) 12)))))))))) (x0 od ku k6 ky kz n5 n6 n7 n8 n9))
def yx (ig:Nat) (cm ge ij iq iv iu:Nat -> Int) (a1 a2 a3 a4:Int) : Nat -> Bool -> Int -> Nat -> (Nat -> Int) -> (Nat -> Int) -> (Nat -> Int) -> (Nat -> Int) -> (Nat -> Nat) -> (Nat -> Nat -> Int) -> (Nat -> Nat -> Int) -> (Bool -> Int -> Nat -> (Nat -> Int) -> (Nat -> Int) -> (Nat -> Int) -> (Nat -> Int) -> (Nat -> Nat) -> (Nat -> Nat -> Int) -> (Nat -> Nat -> Int) -> Prop) -> Prop
  | 0, _, _, _, _, _, _, _, _, _, _, _ => False
  | f + 1, w0, w1, w2, w3, w4, w5, w6, w7, w8, w9, x0 => Ij ig cm ge ij iq iv iu a1 a2 a3 a4 w0 w1 w2 w3 w4 w5 w6 w7 w8 w9 (fun u0 u1 u2 u3 u4 u5 u6 u7 u8 u9 => yx ig cm ge ij iq iv iu a1 a2 a3 a4 f u0 u1 u2 u3 u4 u5 u6 u7 u8 u9 x0) x0 
theorem aaS (ig:Nat) (cm ge ij iq iv iu:Nat -> Int) (a1 a2 a3 a4:Int) (od:Bool) (ku:Int) (k6:Nat) (ky kz n5 n6 : (Nat -> Int)) (n7 : (Nat -> Nat)) (n8 n9 : (Nat -> Nat -> Int)) {c c' : Bool -> Int -> Nat -> (Nat -> Int) -> (Nat -> Int) -> (Nat -> Int) -> (Nat -> Int) -> (Nat -> Nat) -> (Nat -> Nat -> Int) -> (Nat -> Nat -> Int) -> Prop} {x0 y0 : Bool -> Int -> Nat -> (Nat -> Int) -> (Nat -> Int) -> (Nat -> Int) -> (Nat -> Int) -> (Nat -> Nat) -> (Nat -> Nat -> Int) -> (Nat -> Nat -> Int) -> Prop} (hc : ∀ w0 w1 w2 w3 w4 w5 w6 w7 w8 w9, c w0 w1 w2 w3 w4 w5 w6 w7 w8 w9 -> c' w0 w1 w2 w3 w4 w5 w6 w7 w8 w9) (h0 : ∀ o0 o1 o2 o3 o4 o5 o6 o7 o8 o9, x0 o0 o1 o2 o3 o4 o5 o6 o7 o8 o9 -> y0 o0 o1 o2 o3 o4 o5 o6 o7 o8 o9) : Ij ig cm ge ij iq iv iu a1 a2 a3 a4 od ku k6 ky kz n5 n6 n7 n8 n9 c x0  -> Ij ig cm ge ij iq iv iu a1 a2 a3 a4 od ku k6 ky kz n5 n6 n7 n8 n9 c' y0  := by
  unfold Ij
  repeat' first
    | exact hc _ _ _ _ _ _ _ _ _ _
    | exact h0 _ _ _ _ _ _ _ _ _ _
    | refine dU ?_
    | refine cO ?_ ?_
    | refine cZ ?_
theorem aaT (ig:Nat) (cm ge ij iq iv iu:Nat -> Int) (a1 a2 a3 a4:Int) {x0 y0 : Bool -> Int -> Nat -> (Nat -> Int) -> (Nat -> Int) -> (Nat -> Int) -> (Nat -> Int) -> (Nat -> Nat) -> (Nat -> Nat -> Int) -> (Nat -> Nat -> Int) -> Prop} (h0 : ∀ o0 o1 o2 o3 o4 o5 o6 o7 o8 o9, x0 o0 o1 o2 o3 o4 o5 o6 o7 o8 o9 -> y0 o0 o1 o2 o3 o4 o5 o6 o7 o8 o9) : ∀ (f:Nat) (od:Bool) (ku:Int) (k6:Nat) (ky : (Nat -> Int)) (kz : (Nat -> Int)) (n5 : (Nat -> Int)) (n6 : (Nat -> Int)) (n7 : (Nat -> Nat)) (n8 : (Nat -> Nat -> Int)) (n9 : (Nat -> Nat -> Int)), yx ig cm ge ij iq iv iu a1 a2 a3 a4 f od ku k6 ky kz n5 n6 n7 n8 n9 x0 -> yx ig cm ge ij iq iv iu a1 a2 a3 a4 f od ku k6 ky kz n5 n6 n7 n8 n9 y0
  | 0, w0, w1, w2, w3, w4, w5, w6, w7, w8, w9 => fun h => h
  | f + 1, w0, w1, w2, w3, w4, w5, w6, w7, w8, w9 => aaS ig cm ge ij iq iv iu a1 a2 a3 a4 w0 w1 w2 w3 w4 w5 w6 w7 w8 w9 (fun u0 u1 u2 u3 u4 u5 u6 u7 u8 u9 => aaT ig cm ge ij iq iv iu a1 a2 a3 a4 h0 f u0 u1 u2 u3 u4 u5 u6 u7 u8 u9) h0
def Ik (ig:Nat) (cm ge ij iq iv iu:Nat -> Int) (a1 a2 a3 a4:Int) (nc:Bool) (k7 kn:Int) (mf:Nat) (mg mh mj ml : (Nat -> Int)) (mm : (Nat -> Nat)) (mn mo : (Nat -> Nat -> Int)) (nd:Bool) (mu:Int) (ne:Bool) (nh:Int) (ni:Bool) (nj:Int) (nl:Bool) (c x0 x1 : Bool -> Int -> Int -> Nat -> (Nat -> Int) -> (Nat -> Int) -> (Nat -> Int) -> (Nat -> Int) -> (Nat -> Nat) -> (Nat -> Nat -> Int) -> (Nat -> Nat -> Int) -> Bool -> Int -> Bool -> Int -> Bool -> Int -> Bool -> Prop)  : Prop := Ts 4 (cond (ilt kn (mf:Int)) (Ts 2 (((0 <= kn /\ kn < (mf:Int)) /\ (((Int.toNat kn) < mf) /\ Ts 2 (((NW (mg (Int.toNat kn)) (mh (Int.toNat kn)) (mj (Int.toNat kn)) (ml (Int.toNat kn)) (mm (Int.toNat kn)) (mn (Int.toNat kn)) (mo (Int.toNat kn)) (aj a1 a2 6000) (ak a1 a2 6000) (aj a3 a4 6000) (ak a3 a4 6000)) /\ Ts 2 ((true = true /\ Ts 3 (cond (oL (mg (Int.toNat kn)) (mh (Int.toNat kn)) (mj (Int.toNat kn)) (ml (Int.toNat kn)) (mm (Int.toNat kn)) (mn (Int.toNat kn)) (mo (Int.toNat kn)) (aj a1 a2 6000) (ak a1 a2 6000) (aj a3 a4 6000) (ak a3 a4 6000)) (Ts 3 (cond (ilt k7 0) (Ts 5 (x1 nc k7 kn mf mg mh mj ml mm mn mo nd mu ne nh ni nj nl)) (Ts 9 (cond (ilt (jZ (mg (Int.toNat kn)) (mh (Int.toNat kn)) (mj (Int.toNat kn)) (ml (Int.toNat kn)) (mm (Int.toNat kn)) (mn (Int.toNat kn)) (mo (Int.toNat kn)) (aj a1 a2 6000) (ak a1 a2 6000) (aj a3 a4 6000) (ak a3 a4 6000)) mu) (Ts 3 (x1 nc k7 kn mf mg mh mj ml mm mn mo nd mu ne nh ni nj nl)) (Ts 8 (cond (ieq (jZ (mg (Int.toNat kn)) (mh (Int.toNat kn)) (mj (Int.toNat kn)) (ml (Int.toNat kn)) (mm (Int.toNat kn)) (mn (Int.toNat kn)) (mo (Int.toNat kn)) (aj a1 a2 6000) (ak a1 a2 6000) (aj a3 a4 6000) (ak a3 a4 6000)) mu) (Ts 6 (cond (ilt kn k7) (Ts 1 (x1 nc k7 kn mf mg mh mj ml mm mn mo nd mu ne nh ni nj nl)) (Ts 3 (c nc k7 (au .i64 kn 1) mf mg mh mj ml mm mn mo nd mu ne nh ni nj nl)))) (Ts 6 (c nc k7 (au .i64 kn 1) mf mg mh mj ml mm mn mo nd mu ne nh ni nj nl)))))))) (Ts 4 (c nc k7 (au .i64 kn 1) mf mg mh mj ml mm mn mo nd mu ne nh ni nj nl))))))))))) (x0 nc k7 kn mf mg mh mj ml mm mn mo nd mu ne nh ni nj nl))
def yA (ig:Nat) (cm ge ij iq iv iu:Nat -> Int) (a1 a2 a3 a4:Int) : Nat -> Bool -> Int -> Int -> Nat -> (Nat -> Int) -> (Nat -> Int) -> (Nat -> Int) -> (Nat -> Int) -> (Nat -> Nat) -> (Nat -> Nat -> Int) -> (Nat -> Nat -> Int) -> Bool -> Int -> Bool -> Int -> Bool -> Int -> Bool -> (Bool -> Int -> Int -> Nat -> (Nat -> Int) -> (Nat -> Int) -> (Nat -> Int) -> (Nat -> Int) -> (Nat -> Nat) -> (Nat -> Nat -> Int) -> (Nat -> Nat -> Int) -> Bool -> Int -> Bool -> Int -> Bool -> Int -> Bool -> Prop) -> (Bool -> Int -> Int -> Nat -> (Nat -> Int) -> (Nat -> Int) -> (Nat -> Int) -> (Nat -> Int) -> (Nat -> Nat) -> (Nat -> Nat -> Int) -> (Nat -> Nat -> Int) -> Bool -> Int -> Bool -> Int -> Bool -> Int -> Bool -> Prop) -> Prop
  | 0, _, _, _, _, _, _, _, _, _, _, _, _, _, _, _, _, _, _, _, _ => False
  | f + 1, w0, w1, w2, w3, w4, w5, w6, w7, w8, w9, w10, w11, w12, w13, w14, w15, w16, w17, x0, x1 => Ik ig cm ge ij iq iv iu a1 a2 a3 a4 w0 w1 w2 w3 w4 w5 w6 w7 w8 w9 w10 w11 w12 w13 w14 w15 w16 w17 (fun u0 u1 u2 u3 u4 u5 u6 u7 u8 u9 u10 u11 u12 u13 u14 u15 u16 u17 => yA ig cm ge ij iq iv iu a1 a2 a3 a4 f u0 u1 u2 u3 u4 u5 u6 u7 u8 u9 u10 u11 u12 u13 u14 u15 u16 u17 x0 x1) x0 x1 
theorem aaU (ig:Nat) (cm ge ij iq iv iu:Nat -> Int) (a1 a2 a3 a4:Int) (nc:Bool) (k7 kn:Int) (mf:Nat) (mg mh mj ml : (Nat -> Int)) (mm : (Nat -> Nat)) (mn mo : (Nat -> Nat -> Int)) (nd:Bool) (mu:Int) (ne:Bool) (nh:Int) (ni:Bool) (nj:Int) (nl:Bool) {c c' : Bool -> Int -> Int -> Nat -> (Nat -> Int) -> (Nat -> Int) -> (Nat -> Int) -> (Nat -> Int) -> (Nat -> Nat) -> (Nat -> Nat -> Int) -> (Nat -> Nat -> Int) -> Bool -> Int -> Bool -> Int -> Bool -> Int -> Bool -> Prop} {x0 y0 : Bool -> Int -> Int -> Nat -> (Nat -> Int) -> (Nat -> Int) -> (Nat -> Int) -> (Nat -> Int) -> (Nat -> Nat) -> (Nat -> Nat -> Int) -> (Nat -> Nat -> Int) -> Bool -> Int -> Bool -> Int -> Bool -> Int -> Bool -> Prop} {x1 y1 : Bool -> Int -> Int -> Nat -> (Nat -> Int) -> (Nat -> Int) -> (Nat -> Int) -> (Nat -> Int) -> (Nat -> Nat) -> (Nat -> Nat -> Int) -> (Nat -> Nat -> Int) -> Bool -> Int -> Bool -> Int -> Bool -> Int -> Bool -> Prop} (hc : ∀ w0 w1 w2 w3 w4 w5 w6 w7 w8 w9 w10 w11 w12 w13 w14 w15 w16 w17, c w0 w1 w2 w3 w4 w5 w6 w7 w8 w9 w10 w11 w12 w13 w14 w15 w16 w17 -> c' w0 w1 w2 w3 w4 w5 w6 w7 w8 w9 w10 w11 w12 w13 w14 w15 w16 w17) (h0 : ∀ o0 o1 o2 o3 o4 o5 o6 o7 o8 o9 kv lr ls lu lv lw lx ly, x0 o0 o1 o2 o3 o4 o5 o6 o7 o8 o9 kv lr ls lu lv lw lx ly -> y0 o0 o1 o2 o3 o4 o5 o6 o7 o8 o9 kv lr ls lu lv lw lx ly) (h1 : ∀ o0 o1 o2 o3 o4 o5 o6 o7 o8 o9 kv lr ls lu lv lw lx ly, x1 o0 o1 o2 o3 o4 o5 o6 o7 o8 o9 kv lr ls lu lv lw lx ly -> y1 o0 o1 o2 o3 o4 o5 o6 o7 o8 o9 kv lr ls lu lv lw lx ly) : Ik ig cm ge ij iq iv iu a1 a2 a3 a4 nc k7 kn mf mg mh mj ml mm mn mo nd mu ne nh ni nj nl c x0 x1  -> Ik ig cm ge ij iq iv iu a1 a2 a3 a4 nc k7 kn mf mg mh mj ml mm mn mo nd mu ne nh ni nj nl c' y0 y1  := by
  unfold Ik
  repeat' first
    | exact hc _ _ _ _ _ _ _ _ _ _ _ _ _ _ _ _ _ _
    | exact h0 _ _ _ _ _ _ _ _ _ _ _ _ _ _ _ _ _ _
    | exact h1 _ _ _ _ _ _ _ _ _ _ _ _ _ _ _ _ _ _
    | refine dU ?_
    | refine cO ?_ ?_
    | refine cZ ?_
theorem aaV (ig:Nat) (cm ge ij iq iv iu:Nat -> Int) (a1 a2 a3 a4:Int) {x0 y0 : Bool -> Int -> Int -> Nat -> (Nat -> Int) -> (Nat -> Int) -> (Nat -> Int) -> (Nat -> Int) -> (Nat -> Nat) -> (Nat -> Nat -> Int) -> (Nat -> Nat -> Int) -> Bool -> Int -> Bool -> Int -> Bool -> Int -> Bool -> Prop} {x1 y1 : Bool -> Int -> Int -> Nat -> (Nat -> Int) -> (Nat -> Int) -> (Nat -> Int) -> (Nat -> Int) -> (Nat -> Nat) -> (Nat -> Nat -> Int) -> (Nat -> Nat -> Int) -> Bool -> Int -> Bool -> Int -> Bool -> Int -> Bool -> Prop} (h0 : ∀ o0 o1 o2 o3 o4 o5 o6 o7 o8 o9 kv lr ls lu lv lw lx ly, x0 o0 o1 o2 o3 o4 o5 o6 o7 o8 o9 kv lr ls lu lv lw lx ly -> y0 o0 o1 o2 o3 o4 o5 o6 o7 o8 o9 kv lr ls lu lv lw lx ly) (h1 : ∀ o0 o1 o2 o3 o4 o5 o6 o7 o8 o9 kv lr ls lu lv lw lx ly, x1 o0 o1 o2 o3 o4 o5 o6 o7 o8 o9 kv lr ls lu lv lw lx ly -> y1 o0 o1 o2 o3 o4 o5 o6 o7 o8 o9 kv lr ls lu lv lw lx ly) : ∀ (f:Nat) (nc:Bool) (k7:Int) (kn:Int) (mf:Nat) (mg : (Nat -> Int)) (mh : (Nat -> Int)) (mj : (Nat -> Int)) (ml : (Nat -> Int)) (mm : (Nat -> Nat)) (mn : (Nat -> Nat -> Int)) (mo : (Nat -> Nat -> Int)) (nd:Bool) (mu:Int) (ne:Bool) (nh:Int) (ni:Bool) (nj:Int) (nl:Bool), yA ig cm ge ij iq iv iu a1 a2 a3 a4 f nc k7 kn mf mg mh mj ml mm mn mo nd mu ne nh ni nj nl x0 x1 -> yA ig cm ge ij iq iv iu a1 a2 a3 a4 f nc k7 kn mf mg mh mj ml mm mn mo nd mu ne nh ni nj nl y0 y1
  | 0, w0, w1, w2, w3, w4, w5, w6, w7, w8, w9, w10, w11, w12, w13, w14, w15, w16, w17 => fun h => h
  | f + 1, w0, w1, w2, w3, w4, w5, w6, w7, w8, w9, w10, w11, w12, w13, w14, w15, w16, w17 => aaU ig cm ge ij iq iv iu a1 a2 a3 a4 w0 w1 w2 w3 w4 w5 w6 w7 w8 w9 w10 w11 w12 w13 w14 w15 w16 w17 (fun u0 u1 u2 u3 u4 u5 u6 u7 u8 u9 u10 u11 u12 u13 u14 u15 u16 u17 => aaV ig cm ge ij iq iv iu a1 a2 a3 a4 h0 h1 f u0 u1 u2 u3 u4 u5 u6 u7 u8 u9 u10 u11 u12 u13 u14 u15 u16 u17) h0 h1
def acW (ig:Nat) (cm ge ij iq iv iu:Nat -> Int) (a1 a2 a3 a4:Int) (K0 : Bool -> Prop) (l0 : Bool -> Int -> Nat -> (Nat -> Int) -> (Nat -> Int) -> (Nat -> Int) -> (Nat -> Int) -> (Nat -> Nat) -> (Nat -> Nat -> Int) -> (Nat -> Nat -> Int) -> (Bool -> Int -> Nat -> (Nat -> Int) -> (Nat -> Int) -> (Nat -> Int) -> (Nat -> Int) -> (Nat -> Nat) -> (Nat -> Nat -> Int) -> (Nat -> Nat -> Int) -> Prop) -> Prop) (l1 : Bool -> Int -> Int -> Nat -> (Nat -> Int) -> (Nat -> Int) -> (Nat -> Int) -> (Nat -> Int) -> (Nat -> Nat) -> (Nat -> Nat -> Int) -> (Nat -> Nat -> Int) -> Bool -> Int -> Bool -> Int -> Bool -> Int -> Bool -> (Bool -> Int -> Int -> Nat -> (Nat -> Int) -> (Nat -> Int) -> (Nat -> Int) -> (Nat -> Int) -> (Nat -> Nat) -> (Nat -> Nat -> Int) -> (Nat -> Nat -> Int) -> Bool -> Int -> Bool -> Int -> Bool -> Int -> Bool -> Prop) -> (Bool -> Int -> Int -> Nat -> (Nat -> Int) -> (Nat -> Int) -> (Nat -> Int) -> (Nat -> Int) -> (Nat -> Nat) -> (Nat -> Nat -> Int) -> (Nat -> Nat -> Int) -> Bool -> Int -> Bool -> Int -> Bool -> Int -> Bool -> Prop) -> Prop) : Prop := Ts 4 (cond (igt (ig:Int) 6) (((XP ) /\ Ts 1 (K0 vW))) (Ts 2 (((aeV a1 a2 6000) /\ Ts 2 (((aeV a3 a4 6000) /\ Ts 6 ((l0 true 0 0 (fun _ => 0) (fun _ => 0) (fun _ => 0) (fun _ => 0) (fun _ => 0) (fun _ => (fun _ => 0)) (fun _ => (fun _ => 0)) (fun qi rx jl jc jd jg jh ji jj jk => Ts 3 ((((∀ k : Nat, k < jl -> true = true) /\ aeW (aj a1 a2 6000) (ak a1 a2 6000) (aj a3 a4 6000) (ak a3 a4 6000) jl jc jd jg jh ji jj jk) /\ Ts 9 (cond (ilt (aJ (aj a1 a2 6000) (ak a1 a2 6000) (aj a3 a4 6000) (ak a3 a4 6000) jl jc jd jg jh ji jj jk) (-1)) (Ts 5 ((true = true /\ Ts 1 (K0 false)))) (Ts 6 (cond (ige (aJ (aj a1 a2 6000) (ak a1 a2 6000) (aj a3 a4 6000) (ak a3 a4 6000) jl jc jd jg jh ji jj jk) (jl:Int)) (Ts 3 ((true = true /\ Ts 1 (K0 false)))) (Ts 3 (cond (ilt (aJ (aj a1 a2 6000) (ak a1 a2 6000) (aj a3 a4 6000) (ak a3 a4 6000) jl jc jd jg jh ji jj jk) 0) (Ts 6 (cond (!((jL (qL (aj a1 a2 6000) (ak a1 a2 6000) (aj a3 a4 6000) (ak a3 a4 6000) jl jc jd jg jh ji jj jk) false) && ((ieq (lS (aj a1 a2 6000) (ak a1 a2 6000) (aj a3 a4 6000) (ak a3 a4 6000) jl jc jd jg jh ji jj jk) 0) && ((jL (pW (aj a1 a2 6000) (ak a1 a2 6000) (aj a3 a4 6000) (ak a3 a4 6000) jl jc jd jg jh ji jj jk) false) && ((ieq (qM (aj a1 a2 6000) (ak a1 a2 6000) (aj a3 a4 6000) (ak a3 a4 6000) jl jc jd jg jh ji jj jk) 0) && ((jL (qN (aj a1 a2 6000) (ak a1 a2 6000) (aj a3 a4 6000) (ak a3 a4 6000) jl jc jd jg jh ji jj jk) false) && ((ieq (qO (aj a1 a2 6000) (ak a1 a2 6000) (aj a3 a4 6000) (ak a3 a4 6000) jl jc jd jg jh ji jj jk) 0) && (jL (qP (aj a1 a2 6000) (ak a1 a2 6000) (aj a3 a4 6000) (ak a3 a4 6000) jl jc jd jg jh ji jj jk) false)))))))) (Ts 1 ((true = true /\ Ts 1 (K0 false)))) (Ts 3 (cond (ige (aJ (aj a1 a2 6000) (ak a1 a2 6000) (aj a3 a4 6000) (ak a3 a4 6000) jl jc jd jg jh ji jj jk) 0) (Ts 2 (((0 <= (aJ (aj a1 a2 6000) (ak a1 a2 6000) (aj a3 a4 6000) (ak a3 a4 6000) jl jc jd jg jh ji jj jk) /\ (aJ (aj a1 a2 6000) (ak a1 a2 6000) (aj a3 a4 6000) (ak a3 a4 6000) jl jc jd jg jh ji jj jk) < (jl:Int)) /\ (((Int.toNat (aJ (aj a1 a2 6000) (ak a1 a2 6000) (aj a3 a4 6000) (ak a3 a4 6000) jl jc jd jg jh ji jj jk)) < jl) /\ Ts 2 (((NW (jc (Int.toNat (aJ (aj a1 a2 6000) (ak a1 a2 6000) (aj a3 a4 6000) (ak a3 a4 6000) jl jc jd jg jh ji jj jk))) (jd (Int.toNat (aJ (aj a1 a2 6000) (ak a1 a2 6000) (aj a3 a4 6000) (ak a3 a4 6000) jl jc jd jg jh ji jj jk))) (jg (Int.toNat (aJ (aj a1 a2 6000) (ak a1 a2 6000) (aj a3 a4 6000) (ak a3 a4 6000) jl jc jd jg jh ji jj jk))) (jh (Int.toNat (aJ (aj a1 a2 6000) (ak a1 a2 6000) (aj a3 a4 6000) (ak a3 a4 6000) jl jc jd jg jh ji jj jk))) (ji (Int.toNat (aJ (aj a1 a2 6000) (ak a1 a2 6000) (aj a3 a4 6000) (ak a3 a4 6000) jl jc jd jg jh ji jj jk))) (jj (Int.toNat (aJ (aj a1 a2 6000) (ak a1 a2 6000) (aj a3 a4 6000) (ak a3 a4 6000) jl jc jd jg jh ji jj jk))) (jk (Int.toNat (aJ (aj a1 a2 6000) (ak a1 a2 6000) (aj a3 a4 6000) (ak a3 a4 6000) jl jc jd jg jh ji jj jk))) (aj a1 a2 6000) (ak a1 a2 6000) (aj a3 a4 6000) (ak a3 a4 6000)) /\ Ts 4 ((true = true /\ cond (!((jL (oL (jc (Int.toNat (aJ (aj a1 a2 6000) (ak a1 a2 6000) (aj a3 a4 6000) (ak a3 a4 6000) jl jc jd jg jh ji jj jk))) (jd (Int.toNat (aJ (aj a1 a2 6000) (ak a1 a2 6000) (aj a3 a4 6000) (ak a3 a4 6000) jl jc jd jg jh ji jj jk))) (jg (Int.toNat (aJ (aj a1 a2 6000) (ak a1 a2 6000) (aj a3 a4 6000) (ak a3 a4 6000) jl jc jd jg jh ji jj jk))) (jh (Int.toNat (aJ (aj a1 a2 6000) (ak a1 a2 6000) (aj a3 a4 6000) (ak a3 a4 6000) jl jc jd jg jh ji jj jk))) (ji (Int.toNat (aJ (aj a1 a2 6000) (ak a1 a2 6000) (aj a3 a4 6000) (ak a3 a4 6000) jl jc jd jg jh ji jj jk))) (jj (Int.toNat (aJ (aj a1 a2 6000) (ak a1 a2 6000) (aj a3 a4 6000) (ak a3 a4 6000) jl jc jd jg jh ji jj jk))) (jk (Int.toNat (aJ (aj a1 a2 6000) (ak a1 a2 6000) (aj a3 a4 6000) (ak a3 a4 6000) jl jc jd jg jh ji jj jk))) (aj a1 a2 6000) (ak a1 a2 6000) (aj a3 a4 6000) (ak a3 a4 6000)) (qL (aj a1 a2 6000) (ak a1 a2 6000) (aj a3 a4 6000) (ak a3 a4 6000) jl jc jd jg jh ji jj jk)) && ((ieq (jZ (jc (Int.toNat (aJ (aj a1 a2 6000) (ak a1 a2 6000) (aj a3 a4 6000) (ak a3 a4 6000) jl jc jd jg jh ji jj jk))) (jd (Int.toNat (aJ (aj a1 a2 6000) (ak a1 a2 6000) (aj a3 a4 6000) (ak a3 a4 6000) jl jc jd jg jh ji jj jk))) (jg (Int.toNat (aJ (aj a1 a2 6000) (ak a1 a2 6000) (aj a3 a4 6000) (ak a3 a4 6000) jl jc jd jg jh ji jj jk))) (jh (Int.toNat (aJ (aj a1 a2 6000) (ak a1 a2 6000) (aj a3 a4 6000) (ak a3 a4 6000) jl jc jd jg jh ji jj jk))) (ji (Int.toNat (aJ (aj a1 a2 6000) (ak a1 a2 6000) (aj a3 a4 6000) (ak a3 a4 6000) jl jc jd jg jh ji jj jk))) (jj (Int.toNat (aJ (aj a1 a2 6000) (ak a1 a2 6000) (aj a3 a4 6000) (ak a3 a4 6000) jl jc jd jg jh ji jj jk))) (jk (Int.toNat (aJ (aj a1 a2 6000) (ak a1 a2 6000) (aj a3 a4 6000) (ak a3 a4 6000) jl jc jd jg jh ji jj jk))) (aj a1 a2 6000) (ak a1 a2 6000) (aj a3 a4 6000) (ak a3 a4 6000)) (lS (aj a1 a2 6000) (ak a1 a2 6000) (aj a3 a4 6000) (ak a3 a4 6000) jl jc jd jg jh ji jj jk)) && ((jL (rJ (jc (Int.toNat (aJ (aj a1 a2 6000) (ak a1 a2 6000) (aj a3 a4 6000) (ak a3 a4 6000) jl jc jd jg jh ji jj jk))) (jd (Int.toNat (aJ (aj a1 a2 6000) (ak a1 a2 6000) (aj a3 a4 6000) (ak a3 a4 6000) jl jc jd jg jh ji jj jk))) (jg (Int.toNat (aJ (aj a1 a2 6000) (ak a1 a2 6000) (aj a3 a4 6000) (ak a3 a4 6000) jl jc jd jg jh ji jj jk))) (jh (Int.toNat (aJ (aj a1 a2 6000) (ak a1 a2 6000) (aj a3 a4 6000) (ak a3 a4 6000) jl jc jd jg jh ji jj jk))) (ji (Int.toNat (aJ (aj a1 a2 6000) (ak a1 a2 6000) (aj a3 a4 6000) (ak a3 a4 6000) jl jc jd jg jh ji jj jk))) (jj (Int.toNat (aJ (aj a1 a2 6000) (ak a1 a2 6000) (aj a3 a4 6000) (ak a3 a4 6000) jl jc jd jg jh ji jj jk))) (jk (Int.toNat (aJ (aj a1 a2 6000) (ak a1 a2 6000) (aj a3 a4 6000) (ak a3 a4 6000) jl jc jd jg jh ji jj jk))) (aj a1 a2 6000) (ak a1 a2 6000) (aj a3 a4 6000) (ak a3 a4 6000)) (pW (aj a1 a2 6000) (ak a1 a2 6000) (aj a3 a4 6000) (ak a3 a4 6000) jl jc jd jg jh ji jj jk)) && ((ieq (wB (jc (Int.toNat (aJ (aj a1 a2 6000) (ak a1 a2 6000) (aj a3 a4 6000) (ak a3 a4 6000) jl jc jd jg jh ji jj jk))) (jd (Int.toNat (aJ (aj a1 a2 6000) (ak a1 a2 6000) (aj a3 a4 6000) (ak a3 a4 6000) jl jc jd jg jh ji jj jk))) (jg (Int.toNat (aJ (aj a1 a2 6000) (ak a1 a2 6000) (aj a3 a4 6000) (ak a3 a4 6000) jl jc jd jg jh ji jj jk))) (jh (Int.toNat (aJ (aj a1 a2 6000) (ak a1 a2 6000) (aj a3 a4 6000) (ak a3 a4 6000) jl jc jd jg jh ji jj jk))) (ji (Int.toNat (aJ (aj a1 a2 6000) (ak a1 a2 6000) (aj a3 a4 6000) (ak a3 a4 6000) jl jc jd jg jh ji jj jk))) (jj (Int.toNat (aJ (aj a1 a2 6000) (ak a1 a2 6000) (aj a3 a4 6000) (ak a3 a4 6000) jl jc jd jg jh ji jj jk))) (jk (Int.toNat (aJ (aj a1 a2 6000) (ak a1 a2 6000) (aj a3 a4 6000) (ak a3 a4 6000) jl jc jd jg jh ji jj jk))) (aj a1 a2 6000) (ak a1 a2 6000) (aj a3 a4 6000) (ak a3 a4 6000)) (qM (aj a1 a2 6000) (ak a1 a2 6000) (aj a3 a4 6000) (ak a3 a4 6000) jl jc jd jg jh ji jj jk)) && ((jL (wC (jc (Int.toNat (aJ (aj a1 a2 6000) (ak a1 a2 6000) (aj a3 a4 6000) (ak a3 a4 6000) jl jc jd jg jh ji jj jk))) (jd (Int.toNat (aJ (aj a1 a2 6000) (ak a1 a2 6000) (aj a3 a4 6000) (ak a3 a4 6000) jl jc jd jg jh ji jj jk))) (jg (Int.toNat (aJ (aj a1 a2 6000) (ak a1 a2 6000) (aj a3 a4 6000) (ak a3 a4 6000) jl jc jd jg jh ji jj jk))) (jh (Int.toNat (aJ (aj a1 a2 6000) (ak a1 a2 6000) (aj a3 a4 6000) (ak a3 a4 6000) jl jc jd jg jh ji jj jk))) (ji (Int.toNat (aJ (aj a1 a2 6000) (ak a1 a2 6000) (aj a3 a4 6000) (ak a3 a4 6000) jl jc jd jg jh ji jj jk))) (jj (Int.toNat (aJ (aj a1 a2 6000) (ak a1 a2 6000) (aj a3 a4 6000) (ak a3 a4 6000) jl jc jd jg jh ji jj jk))) (jk (Int.toNat (aJ (aj a1 a2 6000) (ak a1 a2 6000) (aj a3 a4 6000) (ak a3 a4 6000) jl jc jd jg jh ji jj jk))) (aj a1 a2 6000) (ak a1 a2 6000) (aj a3 a4 6000) (ak a3 a4 6000)) (qN (aj a1 a2 6000) (ak a1 a2 6000) (aj a3 a4 6000) (ak a3 a4 6000) jl jc jd jg jh ji jj jk)) && ((ieq (wE (jc (Int.toNat (aJ (aj a1 a2 6000) (ak a1 a2 6000) (aj a3 a4 6000) (ak a3 a4 6000) jl jc jd jg jh ji jj jk))) (jd (Int.toNat (aJ (aj a1 a2 6000) (ak a1 a2 6000) (aj a3 a4 6000) (ak a3 a4 6000) jl jc jd jg jh ji jj jk))) (jg (Int.toNat (aJ (aj a1 a2 6000) (ak a1 a2 6000) (aj a3 a4 6000) (ak a3 a4 6000) jl jc jd jg jh ji jj jk))) (jh (Int.toNat (aJ (aj a1 a2 6000) (ak a1 a2 6000) (aj a3 a4 6000) (ak a3 a4 6000) jl jc jd jg jh ji jj jk))) (ji (Int.toNat (aJ (aj a1 a2 6000) (ak a1 a2 6000) (aj a3 a4 6000) (ak a3 a4 6000) jl jc jd jg jh ji jj jk))) (jj (Int.toNat (aJ (aj a1 a2 6000) (ak a1 a2 6000) (aj a3 a4 6000) (ak a3 a4 6000) jl jc jd jg jh ji jj jk))) (jk (Int.toNat (aJ (aj a1 a2 6000) (ak a1 a2 6000) (aj a3 a4 6000) (ak a3 a4 6000) jl jc jd jg jh ji jj jk))) (aj a1 a2 6000) (ak a1 a2 6000) (aj a3 a4 6000) (ak a3 a4 6000)) (qO (aj a1 a2 6000) (ak a1 a2 6000) (aj a3 a4 6000) (ak a3 a4 6000) jl jc jd jg jh ji jj jk)) && (jL (wF (jc (Int.toNat (aJ (aj a1 a2 6000) (ak a1 a2 6000) (aj a3 a4 6000) (ak a3 a4 6000) jl jc jd jg jh ji jj jk))) (jd (Int.toNat (aJ (aj a1 a2 6000) (ak a1 a2 6000) (aj a3 a4 6000) (ak a3 a4 6000) jl jc jd jg jh ji jj jk))) (jg (Int.toNat (aJ (aj a1 a2 6000) (ak a1 a2 6000) (aj a3 a4 6000) (ak a3 a4 6000) jl jc jd jg jh ji jj jk))) (jh (Int.toNat (aJ (aj a1 a2 6000) (ak a1 a2 6000) (aj a3 a4 6000) (ak a3 a4 6000) jl jc jd jg jh ji jj jk))) (ji (Int.toNat (aJ (aj a1 a2 6000) (ak a1 a2 6000) (aj a3 a4 6000) (ak a3 a4 6000) jl jc jd jg jh ji jj jk))) (jj (Int.toNat (aJ (aj a1 a2 6000) (ak a1 a2 6000) (aj a3 a4 6000) (ak a3 a4 6000) jl jc jd jg jh ji jj jk))) (jk (Int.toNat (aJ (aj a1 a2 6000) (ak a1 a2 6000) (aj a3 a4 6000) (ak a3 a4 6000) jl jc jd jg jh ji jj jk))) (aj a1 a2 6000) (ak a1 a2 6000) (aj a3 a4 6000) (ak a3 a4 6000)) (qP (aj a1 a2 6000) (ak a1 a2 6000) (aj a3 a4 6000) (ak a3 a4 6000) jl jc jd jg jh ji jj jk))))))))) (Ts 1 (K0 false)) (Ts 1 ((l1 qi (aJ (aj a1 a2 6000) (ak a1 a2 6000) (aj a3 a4 6000) (ak a3 a4 6000) jl jc jd jg jh ji jj jk) 0 jl jc jd jg jh ji jj jk (qL (aj a1 a2 6000) (ak a1 a2 6000) (aj a3 a4 6000) (ak a3 a4 6000) jl jc jd jg jh ji jj jk) (lS (aj a1 a2 6000) (ak a1 a2 6000) (aj a3 a4 6000) (ak a3 a4 6000) jl jc jd jg jh ji jj jk) (pW (aj a1 a2 6000) (ak a1 a2 6000) (aj a3 a4 6000) (ak a3 a4 6000) jl jc jd jg jh ji jj jk) (qM (aj a1 a2 6000) (ak a1 a2 6000) (aj a3 a4 6000) (ak a3 a4 6000) jl jc jd jg jh ji jj jk) (qN (aj a1 a2 6000) (ak a1 a2 6000) (aj a3 a4 6000) (ak a3 a4 6000) jl jc jd jg jh ji jj jk) (qO (aj a1 a2 6000) (ak a1 a2 6000) (aj a3 a4 6000) (ak a3 a4 6000) jl jc jd jg jh ji jj jk) (qP (aj a1 a2 6000) (ak a1 a2 6000) (aj a3 a4 6000) (ak a3 a4 6000) jl jc jd jg jh ji jj jk) (fun ow og oh oz pc pd pf pg ph pi pj pk pm pq pt pu pv pw => ((XP ) /\ Ts 1 (K0 vW))) (fun ow og oh oz pc pd pf pg ph pi pj pk pm pq pt pu pv pw => K0 false)))))))))))) (Ts 2 ((true = true /\ Ts 1 ((l1 qi (aJ (aj a1 a2 6000) (ak a1 a2 6000) (aj a3 a4 6000) (ak a3 a4 6000) jl jc jd jg jh ji jj jk) 0 jl jc jd jg jh ji jj jk (qL (aj a1 a2 6000) (ak a1 a2 6000) (aj a3 a4 6000) (ak a3 a4 6000) jl jc jd jg jh ji jj jk) (lS (aj a1 a2 6000) (ak a1 a2 6000) (aj a3 a4 6000) (ak a3 a4 6000) jl jc jd jg jh ji jj jk) (pW (aj a1 a2 6000) (ak a1 a2 6000) (aj a3 a4 6000) (ak a3 a4 6000) jl jc jd jg jh ji jj jk) (qM (aj a1 a2 6000) (ak a1 a2 6000) (aj a3 a4 6000) (ak a3 a4 6000) jl jc jd jg jh ji jj jk) (qN (aj a1 a2 6000) (ak a1 a2 6000) (aj a3 a4 6000) (ak a3 a4 6000) jl jc jd jg jh ji jj jk) (qO (aj a1 a2 6000) (ak a1 a2 6000) (aj a3 a4 6000) (ak a3 a4 6000) jl jc jd jg jh ji jj jk) (qP (aj a1 a2 6000) (ak a1 a2 6000) (aj a3 a4 6000) (ak a3 a4 6000) jl jc jd jg jh ji jj jk) (fun ow og oh oz pc pd pf pg ph pi pj pk pm pq pt pu pv pw => ((XP ) /\ Ts 1 (K0 vW))) (fun ow og oh oz pc pd pf pg ph pi pj pk pm pq pt pu pv pw => K0 false)))))))))) (Ts 6 (cond (ige (aJ (aj a1 a2 6000) (ak a1 a2 6000) (aj a3 a4 6000) (ak a3 a4 6000) jl jc jd jg jh ji jj jk) 0) (Ts 2 (((0 <= (aJ (aj a1 a2 6000) (ak a1 a2 6000) (aj a3 a4 6000) (ak a3 a4 6000) jl jc jd jg jh ji jj jk) /\ (aJ (aj a1 a2 6000) (ak a1 a2 6000) (aj a3 a4 6000) (ak a3 a4 6000) jl jc jd jg jh ji jj jk) < (jl:Int)) /\ (((Int.toNat (aJ (aj a1 a2 6000) (ak a1 a2 6000) (aj a3 a4 6000) (ak a3 a4 6000) jl jc jd jg jh ji jj jk)) < jl) /\ Ts 2 (((NW (jc (Int.toNat (aJ (aj a1 a2 6000) (ak a1 a2 6000) (aj a3 a4 6000) (ak a3 a4 6000) jl jc jd jg jh ji jj jk))) (jd (Int.toNat (aJ (aj a1 a2 6000) (ak a1 a2 6000) (aj a3 a4 6000) (ak a3 a4 6000) jl jc jd jg jh ji jj jk))) (jg (Int.toNat (aJ (aj a1 a2 6000) (ak a1 a2 6000) (aj a3 a4 6000) (ak a3 a4 6000) jl jc jd jg jh ji jj jk))) (jh (Int.toNat (aJ (aj a1 a2 6000) (ak a1 a2 6000) (aj a3 a4 6000) (ak a3 a4 6000) jl jc jd jg jh ji jj jk))) (ji (Int.toNat (aJ (aj a1 a2 6000) (ak a1 a2 6000) (aj a3 a4 6000) (ak a3 a4 6000) jl jc jd jg jh ji jj jk))) (jj (Int.toNat (aJ (aj a1 a2 6000) (ak a1 a2 6000) (aj a3 a4 6000) (ak a3 a4 6000) jl jc jd jg jh ji jj jk))) (jk (Int.toNat (aJ (aj a1 a2 6000) (ak a1 a2 6000) (aj a3 a4 6000) (ak a3 a4 6000) jl jc jd jg jh ji jj jk))) (aj a1 a2 6000) (ak a1 a2 6000) (aj a3 a4 6000) (ak a3 a4 6000)) /\ Ts 4 ((true = true /\ cond (!((jL (oL (jc (Int.toNat (aJ (aj a1 a2 6000) (ak a1 a2 6000) (aj a3 a4 6000) (ak a3 a4 6000) jl jc jd jg jh ji jj jk))) (jd (Int.toNat (aJ (aj a1 a2 6000) (ak a1 a2 6000) (aj a3 a4 6000) (ak a3 a4 6000) jl jc jd jg jh ji jj jk))) (jg (Int.toNat (aJ (aj a1 a2 6000) (ak a1 a2 6000) (aj a3 a4 6000) (ak a3 a4 6000) jl jc jd jg jh ji jj jk))) (jh (Int.toNat (aJ (aj a1 a2 6000) (ak a1 a2 6000) (aj a3 a4 6000) (ak a3 a4 6000) jl jc jd jg jh ji jj jk))) (ji (Int.toNat (aJ (aj a1 a2 6000) (ak a1 a2 6000) (aj a3 a4 6000) (ak a3 a4 6000) jl jc jd jg jh ji jj jk))) (jj (Int.toNat (aJ (aj a1 a2 6000) (ak a1 a2 6000) (aj a3 a4 6000) (ak a3 a4 6000) jl jc jd jg jh ji jj jk))) (jk (Int.toNat (aJ (aj a1 a2 6000) (ak a1 a2 6000) (aj a3 a4 6000) (ak a3 a4 6000) jl jc jd jg jh ji jj jk))) (aj a1 a2 6000) (ak a1 a2 6000) (aj a3 a4 6000) (ak a3 a4 6000)) (qL (aj a1 a2 6000) (ak a1 a2 6000) (aj a3 a4 6000) (ak a3 a4 6000) jl jc jd jg jh ji jj jk)) && ((ieq (jZ (jc (Int.toNat (aJ (aj a1 a2 6000) (ak a1 a2 6000) (aj a3 a4 6000) (ak a3 a4 6000) jl jc jd jg jh ji jj jk))) (jd (Int.toNat (aJ (aj a1 a2 6000) (ak a1 a2 6000) (aj a3 a4 6000) (ak a3 a4 6000) jl jc jd jg jh ji jj jk))) (jg (Int.toNat (aJ (aj a1 a2 6000) (ak a1 a2 6000) (aj a3 a4 6000) (ak a3 a4 6000) jl jc jd jg jh ji jj jk))) (jh (Int.toNat (aJ (aj a1 a2 6000) (ak a1 a2 6000) (aj a3 a4 6000) (ak a3 a4 6000) jl jc jd jg jh ji jj jk))) (ji (Int.toNat (aJ (aj a1 a2 6000) (ak a1 a2 6000) (aj a3 a4 6000) (ak a3 a4 6000) jl jc jd jg jh ji jj jk))) (jj (Int.toNat (aJ (aj a1 a2 6000) (ak a1 a2 6000) (aj a3 a4 6000) (ak a3 a4 6000) jl jc jd jg jh ji jj jk))) (jk (Int.toNat (aJ (aj a1 a2 6000) (ak a1 a2 6000) (aj a3 a4 6000) (ak a3 a4 6000) jl jc jd jg jh ji jj jk))) (aj a1 a2 6000) (ak a1 a2 6000) (aj a3 a4 6000) (ak a3 a4 6000)) (lS (aj a1 a2 6000) (ak a1 a2 6000) (aj a3 a4 6000) (ak a3 a4 6000) jl jc jd jg jh ji jj jk)) && ((jL (rJ (jc (Int.toNat (aJ (aj a1 a2 6000) (ak a1 a2 6000) (aj a3 a4 6000) (ak a3 a4 6000) jl jc jd jg jh ji jj jk))) (jd (Int.toNat (aJ (aj a1 a2 6000) (ak a1 a2 6000) (aj a3 a4 6000) (ak a3 a4 6000) jl jc jd jg jh ji jj jk))) (jg (Int.toNat (aJ (aj a1 a2 6000) (ak a1 a2 6000) (aj a3 a4 6000) (ak a3 a4 6000) jl jc jd jg jh ji jj jk))) (jh (Int.toNat (aJ (aj a1 a2 6000) (ak a1 a2 6000) (aj a3 a4 6000) (ak a3 a4 6000) jl jc jd jg jh ji jj jk))) (ji (Int.toNat (aJ (aj a1 a2 6000) (ak a1 a2 6000) (aj a3 a4 6000) (ak a3 a4 6000) jl jc jd jg jh ji jj jk))) (jj (Int.toNat (aJ (aj a1 a2 6000) (ak a1 a2 6000) (aj a3 a4 6000) (ak a3 a4 6000) jl jc jd jg jh ji jj jk))) (jk (Int.toNat (aJ (aj a1 a2 6000) (ak a1 a2 6000) (aj a3 a4 6000) (ak a3 a4 6000) jl jc jd jg jh ji jj jk))) (aj a1 a2 6000) (ak a1 a2 6000) (aj a3 a4 6000) (ak a3 a4 6000)) (pW (aj a1 a2 6000) (ak a1 a2 6000) (aj a3 a4 6000) (ak a3 a4 6000) jl jc jd jg jh ji jj jk)) && ((ieq (wB (jc (Int.toNat (aJ (aj a1 a2 6000) (ak a1 a2 6000) (aj a3 a4 6000) (ak a3 a4 6000) jl jc jd jg jh ji jj jk))) (jd (Int.toNat (aJ (aj a1 a2 6000) (ak a1 a2 6000) (aj a3 a4 6000) (ak a3 a4 6000) jl jc jd jg jh ji jj jk))) (jg (Int.toNat (aJ (aj a1 a2 6000) (ak a1 a2 6000) (aj a3 a4 6000) (ak a3 a4 6000) jl jc jd jg jh ji jj jk))) (jh (Int.toNat (aJ (aj a1 a2 6000) (ak a1 a2 6000) (aj a3 a4 6000) (ak a3 a4 6000) jl jc jd jg jh ji jj jk))) (ji (Int.toNat (aJ (aj a1 a2 6000) (ak a1 a2 6000) (aj a3 a4 6000) (ak a3 a4 6000) jl jc jd jg jh ji jj jk))) (jj (Int.toNat (aJ (aj a1 a2 6000) (ak a1 a2 6000) (aj a3 a4 6000) (ak a3 a4 6000) jl jc jd jg jh ji jj jk))) (jk (Int.toNat (aJ (aj a1 a2 6000) (ak a1 a2 6000) (aj a3 a4 6000) (ak a3 a4 6000) jl jc jd jg jh ji jj jk))) (aj a1 a2 6000) (ak a1 a2 6000) (aj a3 a4 6000) (ak a3 a4 6000)) (qM (aj a1 a2 6000) (ak a1 a2 6000) (aj a3 a4 6000) (ak a3 a4 6000) jl jc jd jg jh ji jj jk)) && ((jL (wC (jc (Int.toNat (aJ (aj a1 a2 6000) (ak a1 a2 6000) (aj a3 a4 6000) (ak a3 a4 6000) jl jc jd jg jh ji jj jk))) (jd (Int.toNat (aJ (aj a1 a2 6000) (ak a1 a2 6000) (aj a3 a4 6000) (ak a3 a4 6000) jl jc jd jg jh ji jj jk))) (jg (Int.toNat (aJ (aj a1 a2 6000) (ak a1 a2 6000) (aj a3 a4 6000) (ak a3 a4 6000) jl jc jd jg jh ji jj jk))) (jh (Int.toNat (aJ (aj a1 a2 6000) (ak a1 a2 6000) (aj a3 a4 6000) (ak a3 a4 6000) jl jc jd jg jh ji jj jk))) (ji (Int.toNat (aJ (aj a1 a2 6000) (ak a1 a2 6000) (aj a3 a4 6000) (ak a3 a4 6000) jl jc jd jg jh ji jj jk))) (jj (Int.toNat (aJ (aj a1 a2 6000) (ak a1 a2 6000) (aj a3 a4 6000) (ak a3 a4 6000) jl jc jd jg jh ji jj jk))) (jk (Int.toNat (aJ (aj a1 a2 6000) (ak a1 a2 6000) (aj a3 a4 6000) (ak a3 a4 6000) jl jc jd jg jh ji jj jk))) (aj a1 a2 6000) (ak a1 a2 6000) (aj a3 a4 6000) (ak a3 a4 6000)) (qN (aj a1 a2 6000) (ak a1 a2 6000) (aj a3 a4 6000) (ak a3 a4 6000) jl jc jd jg jh ji jj jk)) && ((ieq (wE (jc (Int.toNat (aJ (aj a1 a2 6000) (ak a1 a2 6000) (aj a3 a4 6000) (ak a3 a4 6000) jl jc jd jg jh ji jj jk))) (jd (Int.toNat (aJ (aj a1 a2 6000) (ak a1 a2 6000) (aj a3 a4 6000) (ak a3 a4 6000) jl jc jd jg jh ji jj jk))) (jg (Int.toNat (aJ (aj a1 a2 6000) (ak a1 a2 6000) (aj a3 a4 6000) (ak a3 a4 6000) jl jc jd jg jh ji jj jk))) (jh (Int.toNat (aJ (aj a1 a2 6000) (ak a1 a2 6000) (aj a3 a4 6000) (ak a3 a4 6000) jl jc jd jg jh ji jj jk))) (ji (Int.toNat (aJ (aj a1 a2 6000) (ak a1 a2 6000) (aj a3 a4 6000) (ak a3 a4 6000) jl jc jd jg jh ji jj jk))) (jj (Int.toNat (aJ (aj a1 a2 6000) (ak a1 a2 6000) (aj a3 a4 6000) (ak a3 a4 6000) jl jc jd jg jh ji jj jk))) (jk (Int.toNat (aJ (aj a1 a2 6000) (ak a1 a2 6000) (aj a3 a4 6000) (ak a3 a4 6000) jl jc jd jg jh ji jj jk))) (aj a1 a2 6000) (ak a1 a2 6000) (aj a3 a4 6000) (ak a3 a4 6000)) (qO (aj a1 a2 6000) (ak a1 a2 6000) (aj a3 a4 6000) (ak a3 a4 6000) jl jc jd jg jh ji jj jk)) && (jL (wF (jc (Int.toNat (aJ (aj a1 a2 6000) (ak a1 a2 6000) (aj a3 a4 6000) (ak a3 a4 6000) jl jc jd jg jh ji jj jk))) (jd (Int.toNat (aJ (aj a1 a2 6000) (ak a1 a2 6000) (aj a3 a4 6000) (ak a3 a4 6000) jl jc jd jg jh ji jj jk))) (jg (Int.toNat (aJ (aj a1 a2 6000) (ak a1 a2 6000) (aj a3 a4 6000) (ak a3 a4 6000) jl jc jd jg jh ji jj jk))) (jh (Int.toNat (aJ (aj a1 a2 6000) (ak a1 a2 6000) (aj a3 a4 6000) (ak a3 a4 6000) jl jc jd jg jh ji jj jk))) (ji (Int.toNat (aJ (aj a1 a2 6000) (ak a1 a2 6000) (aj a3 a4 6000) (ak a3 a4 6000) jl jc jd jg jh ji jj jk))) (jj (Int.toNat (aJ (aj a1 a2 6000) (ak a1 a2 6000) (aj a3 a4 6000) (ak a3 a4 6000) jl jc jd jg jh ji jj jk))) (jk (Int.toNat (aJ (aj a1 a2 6000) (ak a1 a2 6000) (aj a3 a4 6000) (ak a3 a4 6000) jl jc jd jg jh ji jj jk))) (aj a1 a2 6000) (ak a1 a2 6000) (aj a3 a4 6000) (ak a3 a4 6000)) (qP (aj a1 a2 6000) (ak a1 a2 6000) (aj a3 a4 6000) (ak a3 a4 6000) jl jc jd jg jh ji jj jk))))))))) (Ts 1 (K0 false)) (Ts 1 ((l1 qi (aJ (aj a1 a2 6000) (ak a1 a2 6000) (aj a3 a4 6000) (ak a3 a4 6000) jl jc jd jg jh ji jj jk) 0 jl jc jd jg jh ji jj jk (qL (aj a1 a2 6000) (ak a1 a2 6000) (aj a3 a4 6000) (ak a3 a4 6000) jl jc jd jg jh ji jj jk) (lS (aj a1 a2 6000) (ak a1 a2 6000) (aj a3 a4 6000) (ak a3 a4 6000) jl jc jd jg jh ji jj jk) (pW (aj a1 a2 6000) (ak a1 a2 6000) (aj a3 a4 6000) (ak a3 a4 6000) jl jc jd jg jh ji jj jk) (qM (aj a1 a2 6000) (ak a1 a2 6000) (aj a3 a4 6000) (ak a3 a4 6000) jl jc jd jg jh ji jj jk) (qN (aj a1 a2 6000) (ak a1 a2 6000) (aj a3 a4 6000) (ak a3 a4 6000) jl jc jd jg jh ji jj jk) (qO (aj a1 a2 6000) (ak a1 a2 6000) (aj a3 a4 6000) (ak a3 a4 6000) jl jc jd jg jh ji jj jk) (qP (aj a1 a2 6000) (ak a1 a2 6000) (aj a3 a4 6000) (ak a3 a4 6000) jl jc jd jg jh ji jj jk) (fun ow og oh oz pc pd pf pg ph pi pj pk pm pq pt pu pv pw => ((XP ) /\ Ts 1 (K0 vW))) (fun ow og oh oz pc pd pf pg ph pi pj pk pm pq pt pu pv pw => K0 false)))))))))))) (Ts 2 ((true = true /\ Ts 1 ((l1 qi (aJ (aj a1 a2 6000) (ak a1 a2 6000) (aj a3 a4 6000) (ak a3 a4 6000) jl jc jd jg jh ji jj jk) 0 jl jc jd jg jh ji jj jk (qL (aj a1 a2 6000) (ak a1 a2 6000) (aj a3 a4 6000) (ak a3 a4 6000) jl jc jd jg jh ji jj jk) (lS (aj a1 a2 6000) (ak a1 a2 6000) (aj a3 a4 6000) (ak a3 a4 6000) jl jc jd jg jh ji jj jk) (pW (aj a1 a2 6000) (ak a1 a2 6000) (aj a3 a4 6000) (ak a3 a4 6000) jl jc jd jg jh ji jj jk) (qM (aj a1 a2 6000) (ak a1 a2 6000) (aj a3 a4 6000) (ak a3 a4 6000) jl jc jd jg jh ji jj jk) (qN (aj a1 a2 6000) (ak a1 a2 6000) (aj a3 a4 6000) (ak a3 a4 6000) jl jc jd jg jh ji jj jk) (qO (aj a1 a2 6000) (ak a1 a2 6000) (aj a3 a4 6000) (ak a3 a4 6000) jl jc jd jg jh ji jj jk) (qP (aj a1 a2 6000) (ak a1 a2 6000) (aj a3 a4 6000) (ak a3 a4 6000) jl jc jd jg jh ji jj jk) (fun ow og oh oz pc pd pf pg ph pi pj pk pm pq pt pu pv pw => ((XP ) /\ Ts 1 (K0 vW))) (fun ow og oh oz pc pd pf pg ph pi pj pk pm pq pt pu pv pw => K0 false))))))))))))))))))))))))
theorem Kv {is : Nat -> Bool} {t : Nat -> Int} : ∀ {n k : Nat}, k < n -> is k = true -> 0 <= qK is t n /\ ¬ whole (t k) < whole (t (qK is t n).toNat) /\ (whole (t k) = whole (t (qK is t n).toNat) -> ¬ (k:Int) < qK is t n)
  | 0, k, h, _ => by omega
  | n + 1, k, h, hk => by
    have ih := fun h' => Kv (is := is) (t := t) (n := n) (k := k) h' hk
    have hin := MF (is := is) (t := t) (n := n)
    unfold qK
    split
    . rename_i q
      rw [Int.toNat_natCast]
      refine ⟨by omega, ?_⟩
      by_cases e : k = n
      . subst e; exact ⟨by omega, fun _ => by omega⟩
      . obtain ⟨i1, i2, i3⟩ := ih (by omega)
        have := q.2
        exact ⟨by omega, fun _ => by omega⟩
    . rename_i q
      by_cases e : k = n
      . subst e
        have q' : ¬ (qK is t k < 0 \/ whole (t k) < whole (t (qK is t k).toNat)) := fun z => q ⟨hk, z⟩
        exact ⟨by omega, by omega, fun _ => by omega⟩
      . exact ih (by omega)
def uf {α : Type} (z : α) (f : Nat -> α) : Nat -> Nat -> α
  | 0 => fun _ => z
  | n + 1 => ay n (uf z f n) (f n)
theorem BM {α : Type} {z : α} {f : Nat -> α} : ∀ {n k : Nat}, k < n -> uf z f n k = f k
  | 0, k, h => by omega
  | n + 1, k, h => by
    show ay n (uf z f n) (f n) k = f k
    unfold ay
    cases hb : Nat.blt k n with
    | true => rw [Nat.blt_eq] at hb; exact BM hb
    | false =>
      have : ¬ k < n := fun e => by rw [<- Nat.blt_eq, hb] at e; cases e
      rw [show k = n by omega]
      rfl
def Kw (f : Nat -> Nat -> Int) : Nat -> Nat -> Nat -> Int
  | 0 => fun _ => fun _ => 0
  | n + 1 => Qj n (Kw f n) (f n)
theorem Qz {f : Nat -> Nat -> Int} : ∀ {n k : Nat}, k < n -> Kw f n k = f k
  | 0, k, h => by omega
  | n + 1, k, h => by
    show Qj n (Kw f n) (f n) k = f k
    unfold Qj
    cases hb : Nat.blt k n with
    | true => rw [Nat.blt_eq] at hb; exact Qz hb
    | false =>
      have : ¬ k < n := fun e => by rw [<- Nat.blt_eq, hb] at e; cases e
      rw [show k = n by omega]
      rfl
section
variable {n : Nat} {a b c d e g : Nat -> Int} {p q r s : Int}
theorem zq (hn : n <= 6) {x0 : Bool -> Int -> Nat -> (Nat -> Int) -> (Nat -> Int) -> (Nat -> Int) -> (Nat -> Int) -> (Nat -> Nat) -> (Nat -> Nat -> Int) -> (Nat -> Nat -> Int) -> Prop}
    (h0 : ∀ t, x0 t (n:Int) n (uf 0 (fun k => DC (a k) (b k) (c k) (d k) (e k) (g k) 12) n) (uf 0 (fun k => DF (a k) (b k) (c k) (d k) (e k) (g k) 12) n) (uf 0 (fun k => DI (a k) (b k) (c k) (d k) (e k) (g k) 12) n) (uf 0 (fun k => DJ (a k) (b k) (c k) (d k) (e k) (g k) 12) n) (uf 0 (fun k => AU (a k) (b k) (c k) (d k) (e k) (g k) 12) n) (Kw (fun k => Bf (a k) (b k) (c k) (d k) (e k) (g k) 12) n) (Kw (fun k => Bg (a k) (b k) (c k) (d k) (e k) (g k) 12) n)) : ∀ (f j:Nat) (t:Bool), j <= n -> n < f + j ->
    yx n a b c d e g p q r s f t (j:Int) j (uf 0 (fun k => DC (a k) (b k) (c k) (d k) (e k) (g k) 12) j) (uf 0 (fun k => DF (a k) (b k) (c k) (d k) (e k) (g k) 12) j) (uf 0 (fun k => DI (a k) (b k) (c k) (d k) (e k) (g k) 12) j) (uf 0 (fun k => DJ (a k) (b k) (c k) (d k) (e k) (g k) 12) j) (uf 0 (fun k => AU (a k) (b k) (c k) (d k) (e k) (g k) 12) j) (Kw (fun k => Bf (a k) (b k) (c k) (d k) (e k) (g k) 12) j) (Kw (fun k => Bg (a k) (b k) (c k) (d k) (e k) (g k) 12) j) x0
  | 0, j, t, h1, h2 => by omega
  | f + 1, j, t, h1, h2 => by
    show Ij n a b c d e g p q r s t (j:Int) j _ _ _ _ _ _ _ _ _
    unfold Ij
    simp only [aH, Int.toNat_natCast]
    refine aC (fun hc => ?_) (fun hc => ?_)
    . rw [dY] at hc
      rw [fF (by omega) (by omega)]
      exact ⟨⟨by omega, hc⟩, (UD (a j) (b j) (c j) (d j) (e j) (g j)).1, ⟨by omega, by omega⟩, zq hn h0 f (j + 1) false (by omega) (by omega)⟩
    . rw [fJ] at hc
      have : j = n := by omega
      subst this
      exact h0 _
theorem oU {N : Nat} (hN : N <= 6) {C0 C1 C2 C3 : Nat -> Int} {C4 : Nat -> Nat} {C5 C6 : Nat -> Nat -> Int} {at' : Int} {m0 : Bool} {m1 : Int} {m2 : Bool} {m3 : Int} {m4 : Bool} {m5 : Int} {m6 : Bool}
    (hP : ∀ k, k < N -> NW (C0 k) (C1 k) (C2 k) (C3 k) (C4 k) (C5 k) (C6 k) (aj p q 6000) (ak p q 6000) (aj r s 6000) (ak r s 6000))
    (hG : ∀ k, k < N -> oL (C0 k) (C1 k) (C2 k) (C3 k) (C4 k) (C5 k) (C6 k) (aj p q 6000) (ak p q 6000) (aj r s 6000) (ak r s 6000) = true -> 0 <= at' /\ ¬ jZ (C0 k) (C1 k) (C2 k) (C3 k) (C4 k) (C5 k) (C6 k) (aj p q 6000) (ak p q 6000) (aj r s 6000) (ak r s 6000) < m1 /\ (jZ (C0 k) (C1 k) (C2 k) (C3 k) (C4 k) (C5 k) (C6 k) (aj p q 6000) (ak p q 6000) (aj r s 6000) (ak r s 6000) = m1 -> ¬ (k:Int) < at'))
    {x0 x1 : Bool -> Int -> Int -> Nat -> (Nat -> Int) -> (Nat -> Int) -> (Nat -> Int) -> (Nat -> Int) -> (Nat -> Nat) -> (Nat -> Nat -> Int) -> (Nat -> Nat -> Int) -> Bool -> Int -> Bool -> Int -> Bool -> Int -> Bool -> Prop} {t : Bool} (h0 : ∀ i, x0 t at' i N C0 C1 C2 C3 C4 C5 C6 m0 m1 m2 m3 m4 m5 m6) : ∀ (f j:Nat), j <= N -> N < f + j ->
    yA n a b c d e g p q r s f t at' (j:Int) N C0 C1 C2 C3 C4 C5 C6 m0 m1 m2 m3 m4 m5 m6 x0 x1
  | 0, j, h1, h2 => by omega
  | f + 1, j, h1, h2 => by
    show Ik n a b c d e g p q r s t at' (j:Int) N C0 C1 C2 C3 C4 C5 C6 m0 m1 m2 m3 m4 m5 m6 _ _ _
    unfold Ik
    simp only [aH, Int.toNat_natCast]
    refine aC (fun hc => ?_) (fun hc => ?_)
    . rw [dY] at hc
      have hj : j < N := by omega
      rw [fF (by omega) (by omega)]
      have rcs := oU hN hP hG h0 (x1 := x1) f (j + 1) (by omega) (by omega)
      refine ⟨⟨by omega, hc⟩, hj, hP j hj, trivial, aC (fun hd => ?_) (fun hd => rcs)⟩
      obtain ⟨g1, g2, g3⟩ := hG j hj hd
      refine aC (fun z => ?_) (fun z => ?_)
      . rw [dY] at z; omega
      . refine aC (fun z => ?_) (fun z => ?_)
        . rw [dY] at z; exact absurd z g2
        . refine aC (fun z => ?_) (fun z => rcs)
          rw [kE] at z
          refine aC (fun y => ?_) (fun y => rcs)
          rw [dY] at y
          exact absurd y (g3 z)
    . rw [fJ] at hc
      exact h0 _
end
def alk (n:Nat) (a b c d e g:Nat -> Int) (p q r s:Int) : Prop := True
def Vk (n:Nat) (a b c d e g:Nat -> Int) (p q r s:Int) : Bool := true
theorem zu (x:Int) : I64 (aB .i64 x (au .i64 6000 1)) /\ au .i64 6000 1 ≠ 0 := by
  have e : au .i64 6000 1 = 6001 := by rw [fF (by decide) (by decide)]; rfl
  rw [e, rC]
  have h1 := Int.tmod_lt_of_pos x (b := 6001) (by decide)
  have h2 := Int.lt_tmod_of_pos x (b := 6001) (by decide)
  exact ⟨⟨by show _ <= x.tmod 6001; omega, by show x.tmod 6001 <= _; omega⟩, by decide⟩
theorem atF (n:Nat) (a b c d e g:Nat -> Int) (p q r s:Int) {K0 : Bool -> Prop} (h : alk n a b c d e g p q r s) (hK : K0 (Vk n a b c d e g p q r s)) : acW n a b c d e g p q r s K0 (yx n a b c d e g p q r s fuel) (yA n a b c d e g p q r s fuel) := by
  have hK : K0 true := hK
  unfold acW
  simp only [aH]
  refine aC (fun hc => ⟨WB, by rw [Dv]; exact hK⟩) (fun hc => ?_)
  rw [nV] at hc
  have hn : n <= 6 := by omega
  have s0 : I64 (aj p q 6000) := (zu p).1
  have s1 : I64 (ak p q 6000) := (zu q).1
  have s2 : I64 (aj r s 6000) := (zu r).1
  have s3 : I64 (ak r s 6000) := (zu s).1
  refine ⟨⟨(zu p).2, (zu p).2⟩, ⟨(zu p).2, (zu p).2⟩, zq hn (fun t => ?_) fuel 0 true (Nat.zero_le _) (by rw [gW]; omega)⟩
  have hP := fun k (hk : k < n) => af9 (UD (a k) (b k) (c k) (d k) (e k) (g k)).2 s0 s1 s2 s3
  have e0 := fun k (hk : k < n) => BM (z := (0:Int)) (f := fun k => DC (a k) (b k) (c k) (d k) (e k) (g k) 12) hk
  have e1 := fun k (hk : k < n) => BM (z := (0:Int)) (f := fun k => DF (a k) (b k) (c k) (d k) (e k) (g k) 12) hk
  have e2 := fun k (hk : k < n) => BM (z := (0:Int)) (f := fun k => DI (a k) (b k) (c k) (d k) (e k) (g k) 12) hk
  have e3 := fun k (hk : k < n) => BM (z := (0:Int)) (f := fun k => DJ (a k) (b k) (c k) (d k) (e k) (g k) 12) hk
  have e4 := fun k (hk : k < n) => BM (z := (0:Nat)) (f := fun k => AU (a k) (b k) (c k) (d k) (e k) (g k) 12) hk
  have e5 := fun k (hk : k < n) => Qz (f := fun k => Bf (a k) (b k) (c k) (d k) (e k) (g k) 12) hk
  have e6 := fun k (hk : k < n) => Qz (f := fun k => Bg (a k) (b k) (c k) (d k) (e k) (g k) 12) hk
  generalize uf 0 (fun k => DC (a k) (b k) (c k) (d k) (e k) (g k) 12) n = C0 at *
  generalize uf 0 (fun k => DF (a k) (b k) (c k) (d k) (e k) (g k) 12) n = C1 at *
  generalize uf 0 (fun k => DI (a k) (b k) (c k) (d k) (e k) (g k) 12) n = C2 at *
  generalize uf 0 (fun k => DJ (a k) (b k) (c k) (d k) (e k) (g k) 12) n = C3 at *
  generalize uf 0 (fun k => AU (a k) (b k) (c k) (d k) (e k) (g k) 12) n = C4 at *
  generalize Kw (fun k => Bf (a k) (b k) (c k) (d k) (e k) (g k) 12) n = C5 at *
  generalize Kw (fun k => Bg (a k) (b k) (c k) (d k) (e k) (g k) 12) n = C6 at *
  have hP : ∀ k, k < n -> NW (C0 k) (C1 k) (C2 k) (C3 k) (C4 k) (C5 k) (C6 k) (aj p q 6000) (ak p q 6000) (aj r s 6000) (ak r s 6000) /\ Num' (jZ (C0 k) (C1 k) (C2 k) (C3 k) (C4 k) (C5 k) (C6 k) (aj p q 6000) (ak p q 6000) (aj r s 6000) (ak r s 6000)) := fun k hk => by
    rw [e0 k hk, e1 k hk, e2 k hk, e3 k hk, e4 k hk, e5 k hk, e6 k hk]
    exact hP k hk
  clear e0 e1 e2 e3 e4 e5 e6
  have hPF : aeW (aj p q 6000) (ak p q 6000) (aj r s 6000) (ak r s 6000) n C0 C1 C2 C3 C4 C5 C6 := ⟨by omega, fun k hk => (hP k hk).1⟩
  refine ⟨⟨fun _ _ => trivial, hPF⟩, ?_⟩
  have hin : (aJ (aj p q 6000) (ak p q 6000) (aj r s 6000) (ak r s 6000) n C0 C1 C2 C3 C4 C5 C6) = -1 \/ 0 <= (aJ (aj p q 6000) (ak p q 6000) (aj r s 6000) (ak r s 6000) n C0 C1 C2 C3 C4 C5 C6) /\ (aJ (aj p q 6000) (ak p q 6000) (aj r s 6000) (ak r s 6000) n C0 C1 C2 C3 C4 C5 C6) < (n:Int) /\ cs0 (aj p q 6000) (ak p q 6000) (aj r s 6000) (ak r s 6000) C0 C1 C2 C3 C4 C5 C6 (aJ (aj p q 6000) (ak p q 6000) (aj r s 6000) (ak r s 6000) n C0 C1 C2 C3 C4 C5 C6).toNat = true := alj n
  have hG : ∀ k, k < n -> oL (C0 k) (C1 k) (C2 k) (C3 k) (C4 k) (C5 k) (C6 k) (aj p q 6000) (ak p q 6000) (aj r s 6000) (ak r s 6000) = true -> 0 <= (aJ (aj p q 6000) (ak p q 6000) (aj r s 6000) (ak r s 6000) n C0 C1 C2 C3 C4 C5 C6) /\ ¬ jZ (C0 k) (C1 k) (C2 k) (C3 k) (C4 k) (C5 k) (C6 k) (aj p q 6000) (ak p q 6000) (aj r s 6000) (ak r s 6000) < lS (aj p q 6000) (ak p q 6000) (aj r s 6000) (ak r s 6000) n C0 C1 C2 C3 C4 C5 C6 /\ (jZ (C0 k) (C1 k) (C2 k) (C3 k) (C4 k) (C5 k) (C6 k) (aj p q 6000) (ak p q 6000) (aj r s 6000) (ak r s 6000) = lS (aj p q 6000) (ak p q 6000) (aj r s 6000) (ak r s 6000) n C0 C1 C2 C3 C4 C5 C6 -> ¬ (k:Int) < (aJ (aj p q 6000) (ak p q 6000) (aj r s 6000) (ak r s 6000) n C0 C1 C2 C3 C4 C5 C6)) := fun k hk hd => by
    obtain ⟨g1, g2, g3⟩ := Kv (is := cs0 (aj p q 6000) (ak p q 6000) (aj r s 6000) (ak r s 6000) C0 C1 C2 C3 C4 C5 C6) (t := cs1 (aj p q 6000) (ak p q 6000) (aj r s 6000) (ak r s 6000) C0 C1 C2 C3 C4 C5 C6) hk hd
    have g1 : 0 <= (aJ (aj p q 6000) (ak p q 6000) (aj r s 6000) (ak r s 6000) n C0 C1 C2 C3 C4 C5 C6) := g1
    have hF2 : lS (aj p q 6000) (ak p q 6000) (aj r s 6000) (ak r s 6000) n C0 C1 C2 C3 C4 C5 C6 = cs1 (aj p q 6000) (ak p q 6000) (aj r s 6000) (ak r s 6000) C0 C1 C2 C3 C4 C5 C6 (aJ (aj p q 6000) (ak p q 6000) (aj r s 6000) (ak r s 6000) n C0 C1 C2 C3 C4 C5 C6).toNat := if_neg (show ¬ (aJ (aj p q 6000) (ak p q 6000) (aj r s 6000) (ak r s 6000) n C0 C1 C2 C3 C4 C5 C6) < 0 by omega)
    have h2 : (aJ (aj p q 6000) (ak p q 6000) (aj r s 6000) (ak r s 6000) n C0 C1 C2 C3 C4 C5 C6) < (n:Int) := by omega
    have w1 : whole (cs1 (aj p q 6000) (ak p q 6000) (aj r s 6000) (ak r s 6000) C0 C1 C2 C3 C4 C5 C6 k) = cs1 (aj p q 6000) (ak p q 6000) (aj r s 6000) (ak r s 6000) C0 C1 C2 C3 C4 C5 C6 k := eX (hP k hk).2
    have w2 : whole (cs1 (aj p q 6000) (ak p q 6000) (aj r s 6000) (ak r s 6000) C0 C1 C2 C3 C4 C5 C6 (aJ (aj p q 6000) (ak p q 6000) (aj r s 6000) (ak r s 6000) n C0 C1 C2 C3 C4 C5 C6).toNat) = cs1 (aj p q 6000) (ak p q 6000) (aj r s 6000) (ak r s 6000) C0 C1 C2 C3 C4 C5 C6 (aJ (aj p q 6000) (ak p q 6000) (aj r s 6000) (ak r s 6000) n C0 C1 C2 C3 C4 C5 C6).toNat := eX (hP (aJ (aj p q 6000) (ak p q 6000) (aj r s 6000) (ak r s 6000) n C0 C1 C2 C3 C4 C5 C6).toNat (by omega)).2
    have g2 : ¬ whole (cs1 (aj p q 6000) (ak p q 6000) (aj r s 6000) (ak r s 6000) C0 C1 C2 C3 C4 C5 C6 k) < whole (cs1 (aj p q 6000) (ak p q 6000) (aj r s 6000) (ak r s 6000) C0 C1 C2 C3 C4 C5 C6 (aJ (aj p q 6000) (ak p q 6000) (aj r s 6000) (ak r s 6000) n C0 C1 C2 C3 C4 C5 C6).toNat) := g2
    have g3 : whole (cs1 (aj p q 6000) (ak p q 6000) (aj r s 6000) (ak r s 6000) C0 C1 C2 C3 C4 C5 C6 k) = whole (cs1 (aj p q 6000) (ak p q 6000) (aj r s 6000) (ak r s 6000) C0 C1 C2 C3 C4 C5 C6 (aJ (aj p q 6000) (ak p q 6000) (aj r s 6000) (ak r s 6000) n C0 C1 C2 C3 C4 C5 C6).toNat) -> ¬ (k:Int) < (aJ (aj p q 6000) (ak p q 6000) (aj r s 6000) (ak r s 6000) n C0 C1 C2 C3 C4 C5 C6) := g3
    rw [w1, w2] at g2 g3
    rw [hF2]
    exact ⟨g1, g2, g3⟩
  refine aC (fun z => ?_) (fun _ => aC (fun z => ?_) (fun _ => aC (fun neg => ?_) (fun pos => ?_)))
  . rw [dY] at z; exfalso; omega
  . rw [mD] at z; exfalso; omega
  . rw [dY] at neg
    refine aC (fun z => ?_) (fun _ => aC (fun z => ?_) (fun _ => ⟨trivial, oU hn (fun k hk => (hP k hk).1) hG (fun i => ⟨WB, by rw [Dv]; exact hK⟩) fuel 0 (Nat.zero_le _) (by rw [gW]; omega)⟩))
    . exfalso
      rw [show qL (aj p q 6000) (ak p q 6000) (aj r s 6000) (ak r s 6000) n C0 C1 C2 C3 C4 C5 C6 = false from if_pos neg, show lS (aj p q 6000) (ak p q 6000) (aj r s 6000) (ak r s 6000) n C0 C1 C2 C3 C4 C5 C6 = 0 from if_pos neg, show pW (aj p q 6000) (ak p q 6000) (aj r s 6000) (ak r s 6000) n C0 C1 C2 C3 C4 C5 C6 = false from if_pos neg, show qM (aj p q 6000) (ak p q 6000) (aj r s 6000) (ak r s 6000) n C0 C1 C2 C3 C4 C5 C6 = 0 from if_pos neg, show qN (aj p q 6000) (ak p q 6000) (aj r s 6000) (ak r s 6000) n C0 C1 C2 C3 C4 C5 C6 = false from if_pos neg, show qO (aj p q 6000) (ak p q 6000) (aj r s 6000) (ak r s 6000) n C0 C1 C2 C3 C4 C5 C6 = 0 from if_pos neg, show qP (aj p q 6000) (ak p q 6000) (aj r s 6000) (ak r s 6000) n C0 C1 C2 C3 C4 C5 C6 = false from if_pos neg, BP, kE.2 rfl] at z
      cases z
    . rw [mD] at z; exfalso; omega
  . rw [fJ] at pos
    have h2 : (aJ (aj p q 6000) (ak p q 6000) (aj r s 6000) (ak r s 6000) n C0 C1 C2 C3 C4 C5 C6) < (n:Int) := by omega
    have ng : ¬ (aJ (aj p q 6000) (ak p q 6000) (aj r s 6000) (ak r s 6000) n C0 C1 C2 C3 C4 C5 C6) < 0 := by omega
    refine aC (fun _ => ⟨⟨pos, h2⟩, by omega, (hP (aJ (aj p q 6000) (ak p q 6000) (aj r s 6000) (ak r s 6000) n C0 C1 C2 C3 C4 C5 C6).toNat (by omega)).1, trivial, aC (fun z => ?_) (fun _ => oU hn (fun k hk => (hP k hk).1) hG (fun i => ⟨WB, by rw [Dv]; exact hK⟩) fuel 0 (Nat.zero_le _) (by rw [gW]; omega))⟩) (fun z => ⟨trivial, oU hn (fun k hk => (hP k hk).1) hG (fun i => ⟨WB, by rw [Dv]; exact hK⟩) fuel 0 (Nat.zero_le _) (by rw [gW]; omega)⟩)
    exfalso
    rw [show qL (aj p q 6000) (ak p q 6000) (aj r s 6000) (ak r s 6000) n C0 C1 C2 C3 C4 C5 C6 = oL (C0 (aJ (aj p q 6000) (ak p q 6000) (aj r s 6000) (ak r s 6000) n C0 C1 C2 C3 C4 C5 C6).toNat) (C1 (aJ (aj p q 6000) (ak p q 6000) (aj r s 6000) (ak r s 6000) n C0 C1 C2 C3 C4 C5 C6).toNat) (C2 (aJ (aj p q 6000) (ak p q 6000) (aj r s 6000) (ak r s 6000) n C0 C1 C2 C3 C4 C5 C6).toNat) (C3 (aJ (aj p q 6000) (ak p q 6000) (aj r s 6000) (ak r s 6000) n C0 C1 C2 C3 C4 C5 C6).toNat) (C4 (aJ (aj p q 6000) (ak p q 6000) (aj r s 6000) (ak r s 6000) n C0 C1 C2 C3 C4 C5 C6).toNat) (C5 (aJ (aj p q 6000) (ak p q 6000) (aj r s 6000) (ak r s 6000) n C0 C1 C2 C3 C4 C5 C6).toNat) (C6 (aJ (aj p q 6000) (ak p q 6000) (aj r s 6000) (ak r s 6000) n C0 C1 C2 C3 C4 C5 C6).toNat) (aj p q 6000) (ak p q 6000) (aj r s 6000) (ak r s 6000) from if_neg ng, show lS (aj p q 6000) (ak p q 6000) (aj r s 6000) (ak r s 6000) n C0 C1 C2 C3 C4 C5 C6 = jZ (C0 (aJ (aj p q 6000) (ak p q 6000) (aj r s 6000) (ak r s 6000) n C0 C1 C2 C3 C4 C5 C6).toNat) (C1 (aJ (aj p q 6000) (ak p q 6000) (aj r s 6000) (ak r s 6000) n C0 C1 C2 C3 C4 C5 C6).toNat) (C2 (aJ (aj p q 6000) (ak p q 6000) (aj r s 6000) (ak r s 6000) n C0 C1 C2 C3 C4 C5 C6).toNat) (C3 (aJ (aj p q 6000) (ak p q 6000) (aj r s 6000) (ak r s 6000) n C0 C1 C2 C3 C4 C5 C6).toNat) (C4 (aJ (aj p q 6000) (ak p q 6000) (aj r s 6000) (ak r s 6000) n C0 C1 C2 C3 C4 C5 C6).toNat) (C5 (aJ (aj p q 6000) (ak p q 6000) (aj r s 6000) (ak r s 6000) n C0 C1 C2 C3 C4 C5 C6).toNat) (C6 (aJ (aj p q 6000) (ak p q 6000) (aj r s 6000) (ak r s 6000) n C0 C1 C2 C3 C4 C5 C6).toNat) (aj p q 6000) (ak p q 6000) (aj r s 6000) (ak r s 6000) from if_neg ng, show pW (aj p q 6000) (ak p q 6000) (aj r s 6000) (ak r s 6000) n C0 C1 C2 C3 C4 C5 C6 = rJ (C0 (aJ (aj p q 6000) (ak p q 6000) (aj r s 6000) (ak r s 6000) n C0 C1 C2 C3 C4 C5 C6).toNat) (C1 (aJ (aj p q 6000) (ak p q 6000) (aj r s 6000) (ak r s 6000) n C0 C1 C2 C3 C4 C5 C6).toNat) (C2 (aJ (aj p q 6000) (ak p q 6000) (aj r s 6000) (ak r s 6000) n C0 C1 C2 C3 C4 C5 C6).toNat) (C3 (aJ (aj p q 6000) (ak p q 6000) (aj r s 6000) (ak r s 6000) n C0 C1 C2 C3 C4 C5 C6).toNat) (C4 (aJ (aj p q 6000) (ak p q 6000) (aj r s 6000) (ak r s 6000) n C0 C1 C2 C3 C4 C5 C6).toNat) (C5 (aJ (aj p q 6000) (ak p q 6000) (aj r s 6000) (ak r s 6000) n C0 C1 C2 C3 C4 C5 C6).toNat) (C6 (aJ (aj p q 6000) (ak p q 6000) (aj r s 6000) (ak r s 6000) n C0 C1 C2 C3 C4 C5 C6).toNat) (aj p q 6000) (ak p q 6000) (aj r s 6000) (ak r s 6000) from if_neg ng, show qM (aj p q 6000) (ak p q 6000) (aj r s 6000) (ak r s 6000) n C0 C1 C2 C3 C4 C5 C6 = wB (C0 (aJ (aj p q 6000) (ak p q 6000) (aj r s 6000) (ak r s 6000) n C0 C1 C2 C3 C4 C5 C6).toNat) (C1 (aJ (aj p q 6000) (ak p q 6000) (aj r s 6000) (ak r s 6000) n C0 C1 C2 C3 C4 C5 C6).toNat) (C2 (aJ (aj p q 6000) (ak p q 6000) (aj r s 6000) (ak r s 6000) n C0 C1 C2 C3 C4 C5 C6).toNat) (C3 (aJ (aj p q 6000) (ak p q 6000) (aj r s 6000) (ak r s 6000) n C0 C1 C2 C3 C4 C5 C6).toNat) (C4 (aJ (aj p q 6000) (ak p q 6000) (aj r s 6000) (ak r s 6000) n C0 C1 C2 C3 C4 C5 C6).toNat) (C5 (aJ (aj p q 6000) (ak p q 6000) (aj r s 6000) (ak r s 6000) n C0 C1 C2 C3 C4 C5 C6).toNat) (C6 (aJ (aj p q 6000) (ak p q 6000) (aj r s 6000) (ak r s 6000) n C0 C1 C2 C3 C4 C5 C6).toNat) (aj p q 6000) (ak p q 6000) (aj r s 6000) (ak r s 6000) from if_neg ng, show qN (aj p q 6000) (ak p q 6000) (aj r s 6000) (ak r s 6000) n C0 C1 C2 C3 C4 C5 C6 = wC (C0 (aJ (aj p q 6000) (ak p q 6000) (aj r s 6000) (ak r s 6000) n C0 C1 C2 C3 C4 C5 C6).toNat) (C1 (aJ (aj p q 6000) (ak p q 6000) (aj r s 6000) (ak r s 6000) n C0 C1 C2 C3 C4 C5 C6).toNat) (C2 (aJ (aj p q 6000) (ak p q 6000) (aj r s 6000) (ak r s 6000) n C0 C1 C2 C3 C4 C5 C6).toNat) (C3 (aJ (aj p q 6000) (ak p q 6000) (aj r s 6000) (ak r s 6000) n C0 C1 C2 C3 C4 C5 C6).toNat) (C4 (aJ (aj p q 6000) (ak p q 6000) (aj r s 6000) (ak r s 6000) n C0 C1 C2 C3 C4 C5 C6).toNat) (C5 (aJ (aj p q 6000) (ak p q 6000) (aj r s 6000) (ak r s 6000) n C0 C1 C2 C3 C4 C5 C6).toNat) (C6 (aJ (aj p q 6000) (ak p q 6000) (aj r s 6000) (ak r s 6000) n C0 C1 C2 C3 C4 C5 C6).toNat) (aj p q 6000) (ak p q 6000) (aj r s 6000) (ak r s 6000) from if_neg ng, show qO (aj p q 6000) (ak p q 6000) (aj r s 6000) (ak r s 6000) n C0 C1 C2 C3 C4 C5 C6 = wE (C0 (aJ (aj p q 6000) (ak p q 6000) (aj r s 6000) (ak r s 6000) n C0 C1 C2 C3 C4 C5 C6).toNat) (C1 (aJ (aj p q 6000) (ak p q 6000) (aj r s 6000) (ak r s 6000) n C0 C1 C2 C3 C4 C5 C6).toNat) (C2 (aJ (aj p q 6000) (ak p q 6000) (aj r s 6000) (ak r s 6000) n C0 C1 C2 C3 C4 C5 C6).toNat) (C3 (aJ (aj p q 6000) (ak p q 6000) (aj r s 6000) (ak r s 6000) n C0 C1 C2 C3 C4 C5 C6).toNat) (C4 (aJ (aj p q 6000) (ak p q 6000) (aj r s 6000) (ak r s 6000) n C0 C1 C2 C3 C4 C5 C6).toNat) (C5 (aJ (aj p q 6000) (ak p q 6000) (aj r s 6000) (ak r s 6000) n C0 C1 C2 C3 C4 C5 C6).toNat) (C6 (aJ (aj p q 6000) (ak p q 6000) (aj r s 6000) (ak r s 6000) n C0 C1 C2 C3 C4 C5 C6).toNat) (aj p q 6000) (ak p q 6000) (aj r s 6000) (ak r s 6000) from if_neg ng, show qP (aj p q 6000) (ak p q 6000) (aj r s 6000) (ak r s 6000) n C0 C1 C2 C3 C4 C5 C6 = wF (C0 (aJ (aj p q 6000) (ak p q 6000) (aj r s 6000) (ak r s 6000) n C0 C1 C2 C3 C4 C5 C6).toNat) (C1 (aJ (aj p q 6000) (ak p q 6000) (aj r s 6000) (ak r s 6000) n C0 C1 C2 C3 C4 C5 C6).toNat) (C2 (aJ (aj p q 6000) (ak p q 6000) (aj r s 6000) (ak r s 6000) n C0 C1 C2 C3 C4 C5 C6).toNat) (C3 (aJ (aj p q 6000) (ak p q 6000) (aj r s 6000) (ak r s 6000) n C0 C1 C2 C3 C4 C5 C6).toNat) (C4 (aJ (aj p q 6000) (ak p q 6000) (aj r s 6000) (ak r s 6000) n C0 C1 C2 C3 C4 C5 C6).toNat) (C5 (aJ (aj p q 6000) (ak p q 6000) (aj r s 6000) (ak r s 6000) n C0 C1 C2 C3 C4 C5 C6).toNat) (C6 (aJ (aj p q 6000) (ak p q 6000) (aj r s 6000) (ak r s 6000) n C0 C1 C2 C3 C4 C5 C6).toNat) (aj p q 6000) (ak p q 6000) (aj r s 6000) (ak r s 6000) from if_neg ng, BP, BP, BP, BP, kE.2 rfl, kE.2 rfl, kE.2 rfl] at z
    cases z

end
end Go.Ag
