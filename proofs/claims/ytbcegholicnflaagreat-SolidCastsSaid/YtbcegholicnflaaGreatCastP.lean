import Derived.Test.YtbcegholicnflaaGreatCastPB
set_option linter.unusedVariables false
set_option linter.unusedSimpArgs false
set_option maxRecDepth 100000
namespace Go.Ag
open Go.RowKit
noncomputable section
def B_do (cm ge gg gm : Int) (gq : Nat) (gu gv : Nat -> Int) (gb gd gh gj : Int) (K0 : Bool -> Prop)  : Prop := Ts 5 (((P_fr cm ge gg gm gq gu gv) /\ Ts 1 (cond (!(F_fr_0 cm ge gg gm gq gu gv)) (((P_fj ) /\ Ts 1 (K0 F_fj_0))) (Ts 1 (((P_a7 cm ge gg gm gq gu gv) /\ Ts 5 (((P_bg (F_a7_0 cm ge gg gm gq gu gv) (F_a7_1 cm ge gg gm gq gu gv) (F_a7_2 cm ge gg gm gq gu gv) (F_a7_3 cm ge gg gm gq gu gv) (F_a7_4 cm ge gg gm gq gu gv) (F_a7_5 cm ge gg gm gq gu gv) (F_a7_6 cm ge gg gm gq gu gv) gb gd gh gj) /\ Ts 3 (((P_aj cm ge gg gm gq gu gv gb gd gh gj) /\ Ts 2 (cond ((beqB (F_bg_0 (F_a7_0 cm ge gg gm gq gu gv) (F_a7_1 cm ge gg gm gq gu gv) (F_a7_2 cm ge gg gm gq gu gv) (F_a7_3 cm ge gg gm gq gu gv) (F_a7_4 cm ge gg gm gq gu gv) (F_a7_5 cm ge gg gm gq gu gv) (F_a7_6 cm ge gg gm gq gu gv) gb gd gh gj) (F_aj_0 cm ge gg gm gq gu gv gb gd gh gj)) && ((ieq (F_bg_1 (F_a7_0 cm ge gg gm gq gu gv) (F_a7_1 cm ge gg gm gq gu gv) (F_a7_2 cm ge gg gm gq gu gv) (F_a7_3 cm ge gg gm gq gu gv) (F_a7_4 cm ge gg gm gq gu gv) (F_a7_5 cm ge gg gm gq gu gv) (F_a7_6 cm ge gg gm gq gu gv) gb gd gh gj) (F_aj_1 cm ge gg gm gq gu gv gb gd gh gj)) && ((beqB (F_bg_2 (F_a7_0 cm ge gg gm gq gu gv) (F_a7_1 cm ge gg gm gq gu gv) (F_a7_2 cm ge gg gm gq gu gv) (F_a7_3 cm ge gg gm gq gu gv) (F_a7_4 cm ge gg gm gq gu gv) (F_a7_5 cm ge gg gm gq gu gv) (F_a7_6 cm ge gg gm gq gu gv) gb gd gh gj) (F_aj_2 cm ge gg gm gq gu gv gb gd gh gj)) && ((ieq (F_bg_3 (F_a7_0 cm ge gg gm gq gu gv) (F_a7_1 cm ge gg gm gq gu gv) (F_a7_2 cm ge gg gm gq gu gv) (F_a7_3 cm ge gg gm gq gu gv) (F_a7_4 cm ge gg gm gq gu gv) (F_a7_5 cm ge gg gm gq gu gv) (F_a7_6 cm ge gg gm gq gu gv) gb gd gh gj) (F_aj_3 cm ge gg gm gq gu gv gb gd gh gj)) && ((beqB (F_bg_4 (F_a7_0 cm ge gg gm gq gu gv) (F_a7_1 cm ge gg gm gq gu gv) (F_a7_2 cm ge gg gm gq gu gv) (F_a7_3 cm ge gg gm gq gu gv) (F_a7_4 cm ge gg gm gq gu gv) (F_a7_5 cm ge gg gm gq gu gv) (F_a7_6 cm ge gg gm gq gu gv) gb gd gh gj) (F_aj_4 cm ge gg gm gq gu gv gb gd gh gj)) && ((ieq (F_bg_5 (F_a7_0 cm ge gg gm gq gu gv) (F_a7_1 cm ge gg gm gq gu gv) (F_a7_2 cm ge gg gm gq gu gv) (F_a7_3 cm ge gg gm gq gu gv) (F_a7_4 cm ge gg gm gq gu gv) (F_a7_5 cm ge gg gm gq gu gv) (F_a7_6 cm ge gg gm gq gu gv) gb gd gh gj) (F_aj_5 cm ge gg gm gq gu gv gb gd gh gj)) && (beqB (F_bg_6 (F_a7_0 cm ge gg gm gq gu gv) (F_a7_1 cm ge gg gm gq gu gv) (F_a7_2 cm ge gg gm gq gu gv) (F_a7_3 cm ge gg gm gq gu gv) (F_a7_4 cm ge gg gm gq gu gv) (F_a7_5 cm ge gg gm gq gu gv) (F_a7_6 cm ge gg gm gq gu gv) gb gd gh gj) (F_aj_6 cm ge gg gm gq gu gv gb gd gh gj)))))))) (Ts 2 (((P_eg (F_a7_0 cm ge gg gm gq gu gv) (F_a7_1 cm ge gg gm gq gu gv) (F_a7_2 cm ge gg gm gq gu gv) (F_a7_3 cm ge gg gm gq gu gv) (F_a7_4 cm ge gg gm gq gu gv) (F_a7_5 cm ge gg gm gq gu gv) (F_a7_6 cm ge gg gm gq gu gv) cm ge gg gm gq gu gv) /\ Ts 2 (cond (F_eg_0 (F_a7_0 cm ge gg gm gq gu gv) (F_a7_1 cm ge gg gm gq gu gv) (F_a7_2 cm ge gg gm gq gu gv) (F_a7_3 cm ge gg gm gq gu gv) (F_a7_4 cm ge gg gm gq gu gv) (F_a7_5 cm ge gg gm gq gu gv) (F_a7_6 cm ge gg gm gq gu gv) cm ge gg gm gq gu gv) (((P_fj ) /\ Ts 2 ((true = true /\ K0 F_fj_0)))) (Ts 2 ((true = true /\ K0 false))))))) (Ts 4 ((true = true /\ K0 false))))))))))))))
def P_do (k ba bb c : Int) (n : Nat) (da db : Nat -> Int) (fx fy tx ty : Int) : Prop := (I64 k /\ I64 ba /\ I64 bb /\ I64 c) /\ (∀ j, j < n -> I64 (da j) /\ I64 (db j)) /\ I64 fx /\ I64 fy /\ I64 tx /\ I64 ty
def F_do_0 (k ba bb c : Int) (n : Nat) (da db : Nat -> Int) (fx fy tx ty : Int) : Bool := true
theorem H_do (k ba bb c : Int) (n : Nat) (da db : Nat -> Int) (fx fy tx ty : Int) {K0 : Bool -> Prop} (h : P_do k ba bb c n da db fx fy tx ty) (hK : K0 (F_do_0 k ba bb c n da db fx fy tx ty)) : B_do k ba bb c n da db fx fy tx ty K0 := by
  have hK : K0 true := hK
  obtain ⟨h1, h2, h3, h4, h5, h6⟩ := h
  unfold B_do
  simp only [Ts_iff]
  refine ⟨trivial, cond_intro (fun hc => ?_) (fun hc => ?_)⟩
  · exact ⟨awakeP, by rw [awake_true]; exact hK⟩
  · have hn : n <= 12 := by
      unfold F_fr_0 at hc
      simp only [Bool.not_eq_false', ile_t] at hc
      omega
    have hF : FormI k ba bb c n da db := ⟨h1, by omega, h2⟩
    have hn6 : n <= 1000000 := by omega
    obtain ⟨p1, p2, e0, e1, e2, e3, e4, e5, e6⟩ := Cast_pk (fx := fx) (fy := fy) (tx := tx) (ty := ty) hF (copies n da db) h3 h4 h5 h6
    refine ⟨hn6, p1, p2, ?_⟩
    have e2' : F_eg_0 (F_a7_0 k ba bb c n da db) (F_a7_1 k ba bb c n da db) (F_a7_2 k ba bb c n da db) (F_a7_3 k ba bb c n da db) (F_a7_4 k ba bb c n da db) (F_a7_5 k ba bb c n da db) (F_a7_6 k ba bb c n da db) k ba bb c n da db = true := sameForm_eq (copies n da db)
    refine cond_intro (fun _ => ?_) (fun hf => ?_)
    · refine ⟨sameFormP hn6, ?_⟩
      rw [e2', cond_true]
      exact ⟨awakeP, trivial, by rw [awake_true]; exact hK⟩
    · exfalso
      have e7 : (beqB (F_bg_0 k ba bb c n (copyF da n) (copyF db n) fx fy tx ty) (F_aj_0 k ba bb c n da db fx fy tx ty) && ((ieq (F_bg_1 k ba bb c n (copyF da n) (copyF db n) fx fy tx ty) (F_aj_1 k ba bb c n da db fx fy tx ty)) && ((beqB (F_bg_2 k ba bb c n (copyF da n) (copyF db n) fx fy tx ty) (F_aj_2 k ba bb c n da db fx fy tx ty)) && ((ieq (F_bg_3 k ba bb c n (copyF da n) (copyF db n) fx fy tx ty) (F_aj_3 k ba bb c n da db fx fy tx ty)) && ((beqB (F_bg_4 k ba bb c n (copyF da n) (copyF db n) fx fy tx ty) (F_aj_4 k ba bb c n da db fx fy tx ty)) && ((ieq (F_bg_5 k ba bb c n (copyF da n) (copyF db n) fx fy tx ty) (F_aj_5 k ba bb c n da db fx fy tx ty)) && (beqB (F_bg_6 k ba bb c n (copyF da n) (copyF db n) fx fy tx ty) (F_aj_6 k ba bb c n da db fx fy tx ty)))))))) = true := by
        rw [e0, e1, e2, e3, e4, e5, e6, beqB_self, beqB_self, beqB_self, beqB_self, ieq_t.2 rfl, ieq_t.2 rfl, ieq_t.2 rfl]
        rfl
      exact Bool.noConfusion (e7.symm.trans hf)

end
end Go.Ag
