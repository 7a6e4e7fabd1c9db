import Derived.Test.YtbcegholicnflaaHoldP
import Derived.Test.YtbcegholicnflaaTabB
import Derived.Test.YtbcegholicnflaaIterA
set_option linter.unusedVariables false
set_option linter.unusedSimpArgs false
set_option maxRecDepth 100000
namespace Go.Proofs.Ytbcegholicnflaa
open Go.RowKit Go.Ag
noncomputable section
/-! ### bagatelle/solid.fair -/
def G_sd_fair : List (Nat × Ag.Spec) := []
/-! loop sd_fair_0 -/
def S_sd_fair_0 (a0n : Nat) (a0a : Nat → Int) (a0b : Nat → Int) (v0t7 : Int) : VS := ⟨slotsN 34 0 [(2, AV.bool false), (5, AV.rs none a0n [CF.I .i64 a0a, CF.I .i64 a0b]), (6, AV.int .i64 ((a0n : Nat) : Int)), (7, AV.int .i64 v0t7)], [], false, 0⟩
def X_sd_fair_0_exit0 (a0n : Nat) (a0a : Nat → Int) (a0b : Nat → Int) (o0 : Int) : VS := ⟨slotsN 34 0 [(2, AV.bool false), (5, AV.rs none a0n [CF.I .i64 a0a, CF.I .i64 a0b]), (6, AV.int .i64 ((a0n : Nat) : Int)), (7, AV.int .i64 o0)], [], false, 0⟩
def X_sd_fair_0_ret (a0n : Nat) (a0a : Nat → Int) (a0b : Nat → Int) (o0 : Int) : VS := ⟨slotsN 34 0 [(2, AV.bool false), (5, AV.rs none a0n [CF.I .i64 a0a, CF.I .i64 a0b]), (6, AV.int .i64 ((a0n : Nat) : Int)), (7, AV.int .i64 o0)], [], false, 0⟩
theorem N_sd_fair_0 (a0n : Nat) (a0a : Nat → Int) (a0b : Nat → Int) (v0t7 : Int) (Q : Exit → VS → Prop) : vwp tab (envL G_sd_fair) (fun _ _ _ => False) 0 (lbody (loopAt (bodyOf Try.f39) 0)) (S_sd_fair_0 a0n a0a a0b v0t7) (QM [2, 5, 6, 7] [] 0 Q) = B_sd_fair_0 a0n a0a a0b v0t7 (fun w0 => Q .normal (S_sd_fair_0 a0n a0a a0b w0)) (fun o0 => Q (.exit 0) (X_sd_fair_0_exit0 a0n a0a a0b o0)) (fun o0 => Q .ret (X_sd_fair_0_ret a0n a0a a0b o0))  := by kernel_rfl
theorem L_sd_fair_0 {X : Cx} (hX : Std Try.prog tab (envL G_sd_fair) X) (b : Code) (hb : b = bodyOf Try.f39) (a0n : Nat) (a0a : Nat → Int) (a0b : Nat → Int) (fu : Nat) (v0t7 : Int) (Q : Exit → VS → Prop) (h : W_sd_fair_0 a0n a0a a0b fu v0t7 (fun o0 => Q (.exit 0) (X_sd_fair_0_exit0 a0n a0a a0b o0)) (fun o0 => Q .ret (X_sd_fair_0_ret a0n a0a a0b o0))) : TrK X b 0 (S_sd_fair_0 a0n a0a a0b v0t7) Q := by
  subst hb
  refine loop_ok (V := Int) (fun v => S_sd_fair_0 a0n a0a a0b v) (fun f v => W_sd_fair_0 a0n a0a a0b f v (fun o0 => Q (.exit 0) (X_sd_fair_0_exit0 a0n a0a a0b o0)) (fun o0 => Q .ret (X_sd_fair_0_ret a0n a0a a0b o0))) (fun _ h => h) (by kernel_rfl) (fun f v hv => ?_) (fuel := fu) (v0 := (v0t7)) h
  refine QM_ok (bs := [2, 5, 6, 7]) (ms := []) (nm := 0) ?_
  refine vwp_std hX rfl (tr := (fun _ _ _ => False)) (fun _ _ _ h => h.elim) ?_
  refine Eq.mpr (N_sd_fair_0 a0n a0a a0b v _) ?_
  exact BM_sd_fair_0 a0n a0a a0b v (fun w0 h => ⟨w0, rfl, h⟩) (fun _ h => h) (fun _ h => h) hv
def T_sd_fair (a0n : Nat) (a0a : Nat → Int) (a0b : Nat → Int) (k : Nat) (st : VS) (Q : Exit → VS → Prop) : Prop := match k with
  | 0 => TL [2, 5, 6, 7] [] 0 (convs st []) (fun st => S_sd_fair_0 a0n a0a a0b (intOf (tAt st 7))) (fun st => W_sd_fair_0 a0n a0a a0b fuel (intOf (tAt st 7)) (fun o0 => Q (.exit 0) (X_sd_fair_0_exit0 a0n a0a a0b o0)) (fun o0 => Q .ret (X_sd_fair_0_ret a0n a0a a0b o0)))
  | _ => False
theorem TS_sd_fair {X : Cx} (hX : Std Try.prog tab (envL G_sd_fair) X) (b : Code) (hb : b = bodyOf Try.f39) (a0n : Nat) (a0a : Nat → Int) (a0b : Nat → Int) (j : Nat) (st : VS) (Q : Exit → VS → Prop) (h : T_sd_fair a0n a0a a0b j st Q) : TrK X b j st Q := by
  unfold T_sd_fair at h
  split at h
  · exact TL_ok h (fun h' => L_sd_fair_0 hX b hb a0n a0a a0b _ _ Q h')
  · exact h.elim
def as_sd_fair (a0n : Nat) (a0a : Nat → Int) (a0b : Nat → Int) : List AV := [AV.rs none a0n [CF.I .i64 a0a, CF.I .i64 a0b]]
theorem N_sd_fair (a0n : Nat) (a0a : Nat → Int) (a0b : Nat → Int) (K : AV → Prop) : vwp tab (envL G_sd_fair) (T_sd_fair a0n a0a a0b) 0 (bodyOf Try.f39) (entry (as_sd_fair a0n a0a a0b) 34) (fnPost tab [.tmp 2] fun v s => K (v.frz s.mem)) = B_sd_fair a0n a0a a0b (fun r0 => K (AV.bool r0)) (fun p0 y0 y1 => S_sd_fair_0 a0n a0a a0b p0 = S_sd_fair_0 a0n a0a a0b p0 ∧ W_sd_fair_0 a0n a0a a0b fuel p0 y0 y1) := by kernel_rfl
theorem BL_sd_fair (a0n : Nat) (a0a : Nat → Int) (a0b : Nat → Int) {K0 : Bool → Prop} : B_sd_fair a0n a0a a0b K0 (W_sd_fair_0 a0n a0a a0b fuel) → B_sd_fair a0n a0a a0b K0 (fun p0 y0 y1 => S_sd_fair_0 a0n a0a a0b p0 = S_sd_fair_0 a0n a0a a0b p0 ∧ W_sd_fair_0 a0n a0a a0b fuel p0 y0 y1) := by
  unfold B_sd_fair
  repeat' first
    | exact id
    | refine Ts_imp ?_
    | refine cond_imp ?_ ?_
    | refine and_imp' ?_
    | refine fun h => ⟨rfl, WM_sd_fair_0 _ _ _  (fun _ => ?_) (fun _ => ?_) _ _  h⟩
def g_sd_fair : List AV → Option (Prop × RT)
  | [AV.rs sq0 sn0 sc0] => cond (kindsOK [KC.I .i64, KC.I .i64] sc0) (some (P_sd_fair (nOf sn0 sc0) (colI sc0 0) (colI sc0 1), RT.leaf (AV.bool (F_sd_fair_0 (nOf sn0 sc0) (colI sc0 0) (colI sc0 1))))) none
  | _ => none
theorem S_sd_fair : SpecOK Try.prog 39 (.pure g_sd_fair) := by
  intro xs p r h hp E w vs hr hv
  unfold g_sd_fair at h
  split at h
  · rename_i sq0 sn0 sc0
    have hk0 : kindsOK [KC.I .i64, KC.I .i64] sc0 = true := by
      cases hh : kindsOK [KC.I .i64, KC.I .i64] sc0 with
      | true => rfl
      | false => rw [hh] at h; cases h
    rw [hk0, cond_true] at h
    simp only [Option.some.injEq, Prod.mk.injEq] at h
    obtain ⟨rfl, rfl⟩ := h
    have hG : SpecsOK Try.prog G_sd_fair := trivial
    have hv' : VRs E.bare (as_sd_fair (nOf sn0 sc0) (colI sc0 0) (colI sc0 1)) vs := (AV.les.cons (AV.le.rs hk0) AV.les.nil) _ _ hv
    refine walk_pure' (f := 39) (fn := Try.f39) (c := bodyOf Try.f39) (rs := [.tmp 2]) (ys := as_sd_fair (nOf sn0 sc0) (colI sc0 0) (colI sc0 1)) tab_ok (envL_ok hG) Try.func39 rfl (by kernel_rfl) rfl (by decide) (fun X hX hrho => ?_) E w vs hr hv'
    rw [Try.ntmps39]
    refine vwp_std hX rfl (tr := T_sd_fair (nOf sn0 sc0) (colI sc0 0) (colI sc0 1)) (fun j st Q h => TS_sd_fair hX _ rfl (nOf sn0 sc0) (colI sc0 0) (colI sc0 1) j st Q h) ?_
    refine Eq.mpr (N_sd_fair (nOf sn0 sc0) (colI sc0 0) (colI sc0 1) (fun x => x = _)) ?_
    exact BL_sd_fair (nOf sn0 sc0) (colI sc0 0) (colI sc0 1) (H_sd_fair (nOf sn0 sc0) (colI sc0 0) (colI sc0 1) hp rfl)
  · cases h
/-! ### bagatelle/solid.CheckBox -/
def G_sd_CheckBox : List (Nat × Ag.Spec) := [(39, .pure g_sd_fair)]
def as_sd_CheckBox (a0a : Int) (a0b : Int) (a0c : Int) (a0d : Int) : List AV := [AV.agg [AV.int .i64 a0a, AV.int .i64 a0b, AV.int .i64 a0c, AV.int .i64 a0d]]
theorem N_sd_CheckBox (a0a : Int) (a0b : Int) (a0c : Int) (a0d : Int) (K : AV → Prop) : vwp tab (envL G_sd_CheckBox) (fun _ _ _ => False) 0 (bodyOf Try.f10) (entry (as_sd_CheckBox a0a a0b a0c a0d) 34) (fnPost tab [.tmp 2] fun v s => K (v.frz s.mem)) = B_sd_CheckBox a0a a0b a0c a0d (fun r0 => K (AV.int .i64 r0))  := by kernel_rfl
def g_sd_CheckBox : List AV → Option (Prop × RT)
  | [AV.agg [AV.int .i64 a0a, AV.int .i64 a0b, AV.int .i64 a0c, AV.int .i64 a0d]] => some (P_sd_CheckBox a0a a0b a0c a0d, RT.leaf (AV.int .i64 (F_sd_CheckBox_0 a0a a0b a0c a0d)))
  | _ => none
theorem S_sd_CheckBox : SpecOK Try.prog 10 (.pure g_sd_CheckBox) := by
  intro xs p r h hp E w vs hr hv
  unfold g_sd_CheckBox at h
  split at h
  · rename_i a0a a0b a0c a0d
    simp only [Option.some.injEq, Prod.mk.injEq] at h
    obtain ⟨rfl, rfl⟩ := h
    have hG : SpecsOK Try.prog G_sd_CheckBox := ⟨S_sd_fair, trivial⟩
    refine walk_pure' (f := 10) (fn := Try.f10) (c := bodyOf Try.f10) (rs := [.tmp 2]) (ys := as_sd_CheckBox a0a a0b a0c a0d) tab_ok (envL_ok hG) Try.func10 rfl (by kernel_rfl) rfl (by decide) (fun X hX hrho => ?_) E w vs hr hv
    rw [Try.ntmps10]
    refine vwp_std hX rfl (tr := fun _ _ _ => False) (fun _ _ _ h => h.elim) ?_
    refine Eq.mpr (N_sd_CheckBox a0a a0b a0c a0d (fun x => x = _)) ?_
    exact H_sd_CheckBox a0a a0b a0c a0d hp rfl
  · cases h
/-! ### bagatelle/solid.Grow -/
def G_sd_Grow : List (Nat × Ag.Spec) := [(10, .pure g_sd_CheckBox)]
def as_sd_Grow (a0a : Int) (a0b : Int) (a0c : Int) (a0d : Int) (a1 : Int) : List AV := [AV.agg [AV.int .i64 a0a, AV.int .i64 a0b, AV.int .i64 a0c, AV.int .i64 a0d], AV.int .i64 a1]
theorem N_sd_Grow (a0a : Int) (a0b : Int) (a0c : Int) (a0d : Int) (a1 : Int) (K : AV → Prop) : vwp tab (envL G_sd_Grow) (fun _ _ _ => False) 0 (bodyOf Try.f18) (entry (as_sd_Grow a0a a0b a0c a0d a1) 37) (fnPost tab [.cell 4 23] fun v s => K (v.frz s.mem)) = B_sd_Grow a0a a0b a0c a0d a1 (fun r0 r1 r2 r3 => K (AV.agg [AV.int .i64 r0, AV.int .i64 r1, AV.int .i64 r2, AV.int .i64 r3]))  := by kernel_rfl
def g_sd_Grow : List AV → Option (Prop × RT)
  | [AV.agg [AV.int .i64 a0a, AV.int .i64 a0b, AV.int .i64 a0c, AV.int .i64 a0d], AV.int .i64 a1] => some (P_sd_Grow a0a a0b a0c a0d a1, RT.leaf (AV.agg [AV.int .i64 (F_sd_Grow_0 a0a a0b a0c a0d a1), AV.int .i64 (F_sd_Grow_1 a0a a0b a0c a0d a1), AV.int .i64 (F_sd_Grow_2 a0a a0b a0c a0d a1), AV.int .i64 (F_sd_Grow_3 a0a a0b a0c a0d a1)]))
  | _ => none
theorem S_sd_Grow : SpecOK Try.prog 18 (.pure g_sd_Grow) := by
  intro xs p r h hp E w vs hr hv
  unfold g_sd_Grow at h
  split at h
  · rename_i a0a a0b a0c a0d a1
    simp only [Option.some.injEq, Prod.mk.injEq] at h
    obtain ⟨rfl, rfl⟩ := h
    have hG : SpecsOK Try.prog G_sd_Grow := ⟨S_sd_CheckBox, trivial⟩
    refine walk_pure' (f := 18) (fn := Try.f18) (c := bodyOf Try.f18) (rs := [.cell 4 23]) (ys := as_sd_Grow a0a a0b a0c a0d a1) tab_ok (envL_ok hG) Try.func18 rfl (by kernel_rfl) rfl (by decide) (fun X hX hrho => ?_) E w vs hr hv
    rw [Try.ntmps18]
    refine vwp_std hX rfl (tr := fun _ _ _ => False) (fun _ _ _ h => h.elim) ?_
    refine Eq.mpr (N_sd_Grow a0a a0b a0c a0d a1 (fun x => x = _)) ?_
    exact H_sd_Grow a0a a0b a0c a0d a1 hp rfl
  · cases h
/-! ### bagatelle/solid.cross -/
def G_sd_cross : List (Nat × Ag.Spec) := []
def as_sd_cross (a0a : Int) (a0b : Int) (a1a : Int) (a1b : Int) : List AV := [AV.agg [AV.int .i64 a0a, AV.int .i64 a0b], AV.agg [AV.int .i64 a1a, AV.int .i64 a1b]]
theorem N_sd_cross (a0a : Int) (a0b : Int) (a1a : Int) (a1b : Int) (K : AV → Prop) : vwp tab (envL G_sd_cross) (fun _ _ _ => False) 0 (bodyOf Try.f55) (entry (as_sd_cross a0a a0b a1a a1b) 16) (fnPost tab [.tmp 4] fun v s => K (v.frz s.mem)) = B_sd_cross a0a a0b a1a a1b (fun r0 => K (AV.int .i64 r0))  := by kernel_rfl
def g_sd_cross : List AV → Option (Prop × RT)
  | [AV.agg [AV.int .i64 a0a, AV.int .i64 a0b], AV.agg [AV.int .i64 a1a, AV.int .i64 a1b]] => some (P_sd_cross a0a a0b a1a a1b, RT.leaf (AV.int .i64 (F_sd_cross_0 a0a a0b a1a a1b)))
  | _ => none
theorem S_sd_cross : SpecOK Try.prog 55 (.pure g_sd_cross) := by
  intro xs p r h hp E w vs hr hv
  unfold g_sd_cross at h
  split at h
  · rename_i a0a a0b a1a a1b
    simp only [Option.some.injEq, Prod.mk.injEq] at h
    obtain ⟨rfl, rfl⟩ := h
    have hG : SpecsOK Try.prog G_sd_cross := trivial
    refine walk_pure' (f := 55) (fn := Try.f55) (c := bodyOf Try.f55) (rs := [.tmp 4]) (ys := as_sd_cross a0a a0b a1a a1b) tab_ok (envL_ok hG) Try.func55 rfl (by kernel_rfl) rfl (by decide) (fun X hX hrho => ?_) E w vs hr hv
    rw [Try.ntmps55]
    refine vwp_std hX rfl (tr := fun _ _ _ => False) (fun _ _ _ h => h.elim) ?_
    refine Eq.mpr (N_sd_cross a0a a0b a1a a1b (fun x => x = _)) ?_
    exact H_sd_cross a0a a0b a1a a1b hp rfl
  · cases h
/-! ### bagatelle/solid.way -/
def G_sd_way : List (Nat × Ag.Spec) := []
def as_sd_way (a0a : Int) (a0b : Int) (a1a : Int) (a1b : Int) : List AV := [AV.agg [AV.int .i64 a0a, AV.int .i64 a0b], AV.agg [AV.int .i64 a1a, AV.int .i64 a1b]]
theorem N_sd_way (a0a : Int) (a0b : Int) (a1a : Int) (a1b : Int) (K : AV → Prop) : vwp tab (envL G_sd_way) (fun _ _ _ => False) 0 (bodyOf Try.f56) (entry (as_sd_way a0a a0b a1a a1b) 16) (fnPost tab [.cell 4 25] fun v s => K (v.frz s.mem)) = B_sd_way a0a a0b a1a a1b (fun r0 r1 => K (AV.agg [AV.int .i64 r0, AV.int .i64 r1]))  := by kernel_rfl
def g_sd_way : List AV → Option (Prop × RT)
  | [AV.agg [AV.int .i64 a0a, AV.int .i64 a0b], AV.agg [AV.int .i64 a1a, AV.int .i64 a1b]] => some (P_sd_way a0a a0b a1a a1b, RT.leaf (AV.agg [AV.int .i64 (F_sd_way_0 a0a a0b a1a a1b), AV.int .i64 (F_sd_way_1 a0a a0b a1a a1b)]))
  | _ => none
theorem S_sd_way : SpecOK Try.prog 56 (.pure g_sd_way) := by
  intro xs p r h hp E w vs hr hv
  unfold g_sd_way at h
  split at h
  · rename_i a0a a0b a1a a1b
    simp only [Option.some.injEq, Prod.mk.injEq] at h
    obtain ⟨rfl, rfl⟩ := h
    have hG : SpecsOK Try.prog G_sd_way := trivial
    refine walk_pure' (f := 56) (fn := Try.f56) (c := bodyOf Try.f56) (rs := [.cell 4 25]) (ys := as_sd_way a0a a0b a1a a1b) tab_ok (envL_ok hG) Try.func56 rfl (by kernel_rfl) rfl (by decide) (fun X hX hrho => ?_) E w vs hr hv
    rw [Try.ntmps56]
    refine vwp_std hX rfl (tr := fun _ _ _ => False) (fun _ _ _ h => h.elim) ?_
    refine Eq.mpr (N_sd_way a0a a0b a1a a1b (fun x => x = _)) ?_
    exact H_sd_way a0a a0b a1a a1b hp rfl
  · cases h
/-! ### bagatelle/solid.turn -/
def G_sd_turn : List (Nat × Ag.Spec) := [(55, .pure g_sd_cross), (56, .pure g_sd_way)]
def as_sd_turn (a0a : Int) (a0b : Int) (a1a : Int) (a1b : Int) (a2a : Int) (a2b : Int) : List AV := [AV.agg [AV.int .i64 a0a, AV.int .i64 a0b], AV.agg [AV.int .i64 a1a, AV.int .i64 a1b], AV.agg [AV.int .i64 a2a, AV.int .i64 a2b]]
theorem N_sd_turn (a0a : Int) (a0b : Int) (a1a : Int) (a1b : Int) (a2a : Int) (a2b : Int) (K : AV → Prop) : vwp tab (envL G_sd_turn) (fun _ _ _ => False) 0 (bodyOf Try.f42) (entry (as_sd_turn a0a a0b a1a a1b a2a a2b) 14) (fnPost tab [.tmp 6] fun v s => K (v.frz s.mem)) = B_sd_turn a0a a0b a1a a1b a2a a2b (fun r0 => K (AV.int .i64 r0))  := by kernel_rfl
def g_sd_turn : List AV → Option (Prop × RT)
  | [AV.agg [AV.int .i64 a0a, AV.int .i64 a0b], AV.agg [AV.int .i64 a1a, AV.int .i64 a1b], AV.agg [AV.int .i64 a2a, AV.int .i64 a2b]] => some (P_sd_turn a0a a0b a1a a1b a2a a2b, RT.leaf (AV.int .i64 (F_sd_turn_0 a0a a0b a1a a1b a2a a2b)))
  | _ => none
theorem S_sd_turn : SpecOK Try.prog 42 (.pure g_sd_turn) := by
  intro xs p r h hp E w vs hr hv
  unfold g_sd_turn at h
  split at h
  · rename_i a0a a0b a1a a1b a2a a2b
    simp only [Option.some.injEq, Prod.mk.injEq] at h
    obtain ⟨rfl, rfl⟩ := h
    have hG : SpecsOK Try.prog G_sd_turn := ⟨S_sd_cross, S_sd_way, trivial⟩
    refine walk_pure' (f := 42) (fn := Try.f42) (c := bodyOf Try.f42) (rs := [.tmp 6]) (ys := as_sd_turn a0a a0b a1a a1b a2a a2b) tab_ok (envL_ok hG) Try.func42 rfl (by kernel_rfl) rfl (by decide) (fun X hX hrho => ?_) E w vs hr hv
    rw [Try.ntmps42]
    refine vwp_std hX rfl (tr := fun _ _ _ => False) (fun _ _ _ h => h.elim) ?_
    refine Eq.mpr (N_sd_turn a0a a0b a1a a1b a2a a2b (fun x => x = _)) ?_
    exact H_sd_turn a0a a0b a1a a1b a2a a2b hp rfl
  · cases h
/-! ### bagatelle/solid.Side -/
def G_sd_Side : List (Nat × Ag.Spec) := [(39, .pure g_sd_fair), (42, .pure g_sd_turn)]
def as_sd_Side (a0a : Int) (a0b : Int) (a1a : Int) (a1b : Int) (a2a : Int) (a2b : Int) : List AV := [AV.agg [AV.int .i64 a0a, AV.int .i64 a0b], AV.agg [AV.int .i64 a1a, AV.int .i64 a1b], AV.agg [AV.int .i64 a2a, AV.int .i64 a2b]]
theorem N_sd_Side (a0a : Int) (a0b : Int) (a1a : Int) (a1b : Int) (a2a : Int) (a2b : Int) (K : AV → Prop) : vwp tab (envL G_sd_Side) (fun _ _ _ => False) 0 (bodyOf Try.f23) (entry (as_sd_Side a0a a0b a1a a1b a2a a2b) 23) (fnPost tab [.tmp 6] fun v s => K (v.frz s.mem)) = B_sd_Side a0a a0b a1a a1b a2a a2b (fun r0 => K (AV.int .i64 r0))  := by kernel_rfl
def g_sd_Side : List AV → Option (Prop × RT)
  | [AV.agg [AV.int .i64 a0a, AV.int .i64 a0b], AV.agg [AV.int .i64 a1a, AV.int .i64 a1b], AV.agg [AV.int .i64 a2a, AV.int .i64 a2b]] => some (P_sd_Side a0a a0b a1a a1b a2a a2b, RT.leaf (AV.int .i64 (F_sd_Side_0 a0a a0b a1a a1b a2a a2b)))
  | _ => none
theorem S_sd_Side : SpecOK Try.prog 23 (.pure g_sd_Side) := by
  intro xs p r h hp E w vs hr hv
  unfold g_sd_Side at h
  split at h
  · rename_i a0a a0b a1a a1b a2a a2b
    simp only [Option.some.injEq, Prod.mk.injEq] at h
    obtain ⟨rfl, rfl⟩ := h
    have hG : SpecsOK Try.prog G_sd_Side := ⟨S_sd_fair, S_sd_turn, trivial⟩
    refine walk_pure' (f := 23) (fn := Try.f23) (c := bodyOf Try.f23) (rs := [.tmp 6]) (ys := as_sd_Side a0a a0b a1a a1b a2a a2b) tab_ok (envL_ok hG) Try.func23 rfl (by kernel_rfl) rfl (by decide) (fun X hX hrho => ?_) E w vs hr hv
    rw [Try.ntmps23]
    refine vwp_std hX rfl (tr := fun _ _ _ => False) (fun _ _ _ h => h.elim) ?_
    refine Eq.mpr (N_sd_Side a0a a0b a1a a1b a2a a2b (fun x => x = _)) ?_
    exact H_sd_Side a0a a0b a1a a1b a2a a2b hp rfl
  · cases h
/-! ### bagatelle/bagatellelaw03.awake -/
def G_lw_awake : List (Nat × Ag.Spec) := [(18, .pure g_sd_Grow), (23, .pure g_sd_Side)]
def as_lw_awake  : List AV := []
theorem N_lw_awake  (K : AV → Prop) : vwp tab (envL G_lw_awake) (fun _ _ _ => False) 0 (bodyOf Try.f9) (entry (as_lw_awake ) 12) (fnPost tab [.tmp 0] fun v s => K (v.frz s.mem)) = B_lw_awake  (fun r0 => K (AV.bool r0))  := by kernel_rfl
def g_lw_awake : List AV → Option (Prop × RT)
  | [] => some (P_lw_awake , RT.leaf (AV.bool F_lw_awake_0))
  | _ => none
theorem S_lw_awake : SpecOK Try.prog 9 (.pure g_lw_awake) := by
  intro xs p r h hp E w vs hr hv
  unfold g_lw_awake at h
  split at h
  · skip
    simp only [Option.some.injEq, Prod.mk.injEq] at h
    obtain ⟨rfl, rfl⟩ := h
    have hG : SpecsOK Try.prog G_lw_awake := ⟨S_sd_Grow, S_sd_Side, trivial⟩
    refine walk_pure' (f := 9) (fn := Try.f9) (c := bodyOf Try.f9) (rs := [.tmp 0]) (ys := as_lw_awake ) tab_ok (envL_ok hG) Try.func9 rfl (by kernel_rfl) rfl (by decide) (fun X hX hrho => ?_) E w vs hr hv
    rw [Try.ntmps9]
    refine vwp_std hX rfl (tr := fun _ _ _ => False) (fun _ _ _ h => h.elim) ?_
    refine Eq.mpr (N_lw_awake  (fun x => x = _)) ?_
    exact H_lw_awake  hp rfl
  · cases h
/-! ### bagatelle/bagatellelaw03.light -/
def G_lw_light : List (Nat × Ag.Spec) := []
def as_lw_light (a0a : Int) (a0ba : Int) (a0bb : Int) (a0c : Int) (a0dn : Nat) (a0da : Nat → Int) (a0db : Nat → Int) : List AV := [AV.agg [AV.int .i64 a0a, AV.int .i64 a0ba, AV.int .i64 a0bb, AV.int .i64 a0c, AV.rs none a0dn [CF.I .i64 a0da, CF.I .i64 a0db]]]
theorem N_lw_light (a0a : Int) (a0ba : Int) (a0bb : Int) (a0c : Int) (a0dn : Nat) (a0da : Nat → Int) (a0db : Nat → Int) (K : AV → Prop) : vwp tab (envL G_lw_light) (fun _ _ _ => False) 0 (bodyOf Try.f28) (entry (as_lw_light a0a a0ba a0bb a0c a0dn a0da a0db) 7) (fnPost tab [.tmp 2] fun v s => K (v.frz s.mem)) = B_lw_light a0a a0ba a0bb a0c a0dn a0da a0db (fun r0 => K (AV.bool r0))  := by kernel_rfl
def g_lw_light : List AV → Option (Prop × RT)
  | [AV.agg [AV.int .i64 a0a, AV.int .i64 a0ba, AV.int .i64 a0bb, AV.int .i64 a0c, AV.rs sq0 sn0 sc0]] => cond (kindsOK [KC.I .i64, KC.I .i64] sc0) (some (P_lw_light a0a a0ba a0bb a0c (nOf sn0 sc0) (colI sc0 0) (colI sc0 1), RT.leaf (AV.bool (F_lw_light_0 a0a a0ba a0bb a0c (nOf sn0 sc0) (colI sc0 0) (colI sc0 1))))) none
  | _ => none
theorem S_lw_light : SpecOK Try.prog 28 (.pure g_lw_light) := by
  intro xs p r h hp E w vs hr hv
  unfold g_lw_light at h
  split at h
  · rename_i a0a a0ba a0bb a0c sq0 sn0 sc0
    have hk0 : kindsOK [KC.I .i64, KC.I .i64] sc0 = true := by
      cases hh : kindsOK [KC.I .i64, KC.I .i64] sc0 with
      | true => rfl
      | false => rw [hh] at h; cases h
    rw [hk0, cond_true] at h
    simp only [Option.some.injEq, Prod.mk.injEq] at h
    obtain ⟨rfl, rfl⟩ := h
    have hG : SpecsOK Try.prog G_lw_light := trivial
    have hv' : VRs E.bare (as_lw_light a0a a0ba a0bb a0c (nOf sn0 sc0) (colI sc0 0) (colI sc0 1)) vs := (AV.les.cons (AV.le.agg (AV.les.cons (AV.le.refl _) (AV.les.cons (AV.le.refl _) (AV.les.cons (AV.le.refl _) (AV.les.cons (AV.le.refl _) (AV.les.cons (AV.le.rs hk0) AV.les.nil)))))) AV.les.nil) _ _ hv
    refine walk_pure' (f := 28) (fn := Try.f28) (c := bodyOf Try.f28) (rs := [.tmp 2]) (ys := as_lw_light a0a a0ba a0bb a0c (nOf sn0 sc0) (colI sc0 0) (colI sc0 1)) tab_ok (envL_ok hG) Try.func28 rfl (by kernel_rfl) rfl (by decide) (fun X hX hrho => ?_) E w vs hr hv'
    rw [Try.ntmps28]
    refine vwp_std hX rfl (tr := fun _ _ _ => False) (fun _ _ _ h => h.elim) ?_
    refine Eq.mpr (N_lw_light a0a a0ba a0bb a0c (nOf sn0 sc0) (colI sc0 0) (colI sc0 1) (fun x => x = _)) ?_
    exact H_lw_light a0a a0ba a0bb a0c (nOf sn0 sc0) (colI sc0 0) (colI sc0 1) hp rfl
  · cases h
/-! ### bagatelle/bagatellekit.Spots -/
def G_kt_Spots : List (Nat × Ag.Spec) := []
/-! loop kt_Spots_0 -/
def S_kt_Spots_0 (a0n : Nat) (a0a : Nat → Int) (a0b : Nat → Int) (v0t3q : Bool) (v0t4 : Int) (v0b0n : Nat) (v0b0c0 : (Nat → Int)) (v0b0c1 : (Nat → Int)) : VS := ⟨slotsN 19 0 [(0, AV.rs none a0n [CF.I .i64 a0a, CF.I .i64 a0b]), (2, AV.nils), (3, AV.sl (some v0t3q) 0 v0b0n 2), (4, AV.int .i64 v0t4)], [.many true 25 v0b0n [CF.I .i64 v0b0c0, CF.I .i64 v0b0c1]], false, 0⟩
def X_kt_Spots_0_exit0 (a0n : Nat) (a0a : Nat → Int) (a0b : Nat → Int) (o0 : Bool) (o1 : Int) (o2 : Nat) (o3 : (Nat → Int)) (o4 : (Nat → Int)) : VS := ⟨slotsN 19 0 [(0, AV.rs none a0n [CF.I .i64 a0a, CF.I .i64 a0b]), (2, AV.nils), (3, AV.sl (some o0) 0 o2 2), (4, AV.int .i64 o1)], [.many true 25 o2 [CF.I .i64 o3, CF.I .i64 o4]], false, 0⟩
theorem N_kt_Spots_0 (a0n : Nat) (a0a : Nat → Int) (a0b : Nat → Int) (v0t3q : Bool) (v0t4 : Int) (v0b0n : Nat) (v0b0c0 : (Nat → Int)) (v0b0c1 : (Nat → Int)) (Q : Exit → VS → Prop) : vwp tab (envL G_kt_Spots) (fun _ _ _ => False) 0 (lbody (loopAt (bodyOf Try.f22) 0)) (S_kt_Spots_0 a0n a0a a0b v0t3q v0t4 v0b0n v0b0c0 v0b0c1) (QM [0, 2, 3, 4] [0] 1 Q) = B_kt_Spots_0 a0n a0a a0b v0t3q v0t4 v0b0n v0b0c0 v0b0c1 (fun w0 w1 w2 w3 w4 => Q .normal (S_kt_Spots_0 a0n a0a a0b w0 w1 w2 w3 w4)) (fun o0 o1 o2 o3 o4 => Q (.exit 0) (X_kt_Spots_0_exit0 a0n a0a a0b o0 o1 o2 o3 o4))  := by kernel_rfl
theorem L_kt_Spots_0 {X : Cx} (hX : Std Try.prog tab (envL G_kt_Spots) X) (b : Code) (hb : b = bodyOf Try.f22) (a0n : Nat) (a0a : Nat → Int) (a0b : Nat → Int) (fu : Nat) (v0t3q : Bool) (v0t4 : Int) (v0b0n : Nat) (v0b0c0 : (Nat → Int)) (v0b0c1 : (Nat → Int)) (Q : Exit → VS → Prop) (h : W_kt_Spots_0 a0n a0a a0b fu v0t3q v0t4 v0b0n v0b0c0 v0b0c1 (fun o0 o1 o2 o3 o4 => Q (.exit 0) (X_kt_Spots_0_exit0 a0n a0a a0b o0 o1 o2 o3 o4))) : TrK X b 0 (S_kt_Spots_0 a0n a0a a0b v0t3q v0t4 v0b0n v0b0c0 v0b0c1) Q := by
  subst hb
  refine loop_ok (V := Bool × Int × Nat × (Nat → Int) × (Nat → Int)) (fun v => S_kt_Spots_0 a0n a0a a0b v.1 v.2.1 v.2.2.1 v.2.2.2.1 v.2.2.2.2) (fun f v => W_kt_Spots_0 a0n a0a a0b f v.1 v.2.1 v.2.2.1 v.2.2.2.1 v.2.2.2.2 (fun o0 o1 o2 o3 o4 => Q (.exit 0) (X_kt_Spots_0_exit0 a0n a0a a0b o0 o1 o2 o3 o4))) (fun _ h => h) (by kernel_rfl) (fun f v hv => ?_) (fuel := fu) (v0 := (v0t3q, v0t4, v0b0n, v0b0c0, v0b0c1)) h
  refine QM_ok (bs := [0, 2, 3, 4]) (ms := [0]) (nm := 1) ?_
  refine vwp_std hX rfl (tr := (fun _ _ _ => False)) (fun _ _ _ h => h.elim) ?_
  refine Eq.mpr (N_kt_Spots_0 a0n a0a a0b v.1 v.2.1 v.2.2.1 v.2.2.2.1 v.2.2.2.2 _) ?_
  exact BM_kt_Spots_0 a0n a0a a0b v.1 v.2.1 v.2.2.1 v.2.2.2.1 v.2.2.2.2 (fun w0 w1 w2 w3 w4 h => ⟨(w0, w1, w2, w3, w4), rfl, h⟩) (fun _ _ _ _ _ h => h) hv
def T_kt_Spots (a0n : Nat) (a0a : Nat → Int) (a0b : Nat → Int) (k : Nat) (st : VS) (Q : Exit → VS → Prop) : Prop := match k with
  | 0 => TL [0, 2, 3, 4] [0] 1 (convs st [⟨.t 3, 25, [CF.I .i64 (fun _ => 0), CF.I .i64 (fun _ => 0)]⟩]) (fun st => S_kt_Spots_0 a0n a0a a0b (qAV (tAt st 3)) (intOf (tAt st 4)) (nAB (blkAt st 0)) (colI (cAB (blkAt st 0)) 0) (colI (cAB (blkAt st 0)) 1)) (fun st => W_kt_Spots_0 a0n a0a a0b fuel (qAV (tAt st 3)) (intOf (tAt st 4)) (nAB (blkAt st 0)) (colI (cAB (blkAt st 0)) 0) (colI (cAB (blkAt st 0)) 1) (fun o0 o1 o2 o3 o4 => Q (.exit 0) (X_kt_Spots_0_exit0 a0n a0a a0b o0 o1 o2 o3 o4)))
  | _ => False
theorem TS_kt_Spots {X : Cx} (hX : Std Try.prog tab (envL G_kt_Spots) X) (b : Code) (hb : b = bodyOf Try.f22) (a0n : Nat) (a0a : Nat → Int) (a0b : Nat → Int) (j : Nat) (st : VS) (Q : Exit → VS → Prop) (h : T_kt_Spots a0n a0a a0b j st Q) : TrK X b j st Q := by
  unfold T_kt_Spots at h
  split at h
  · exact TL_ok h (fun h' => L_kt_Spots_0 hX b hb a0n a0a a0b _ _ _ _ _ _ Q h')
  · exact h.elim
def as_kt_Spots (a0n : Nat) (a0a : Nat → Int) (a0b : Nat → Int) : List AV := [AV.rs none a0n [CF.I .i64 a0a, CF.I .i64 a0b]]
theorem N_kt_Spots (a0n : Nat) (a0a : Nat → Int) (a0b : Nat → Int) (K : AV → Prop) : vwp tab (envL G_kt_Spots) (T_kt_Spots a0n a0a a0b) 0 (bodyOf Try.f22) (entry (as_kt_Spots a0n a0a a0b) 19) (fnPost tab [.tmp 2] fun v s => K (v.frz s.mem)) = B_kt_Spots a0n a0a a0b (fun r0 r1 r2 => K (AV.rs none r0 [CF.I .i64 r1, CF.I .i64 r2])) (fun p0 p1 p2 p3 p4 y0 => S_kt_Spots_0 a0n a0a a0b p0 p1 p2 p3 p4 = S_kt_Spots_0 a0n a0a a0b p0 p1 p2 p3 p4 ∧ W_kt_Spots_0 a0n a0a a0b fuel p0 p1 p2 p3 p4 y0) := by kernel_rfl
theorem BL_kt_Spots (a0n : Nat) (a0a : Nat → Int) (a0b : Nat → Int) {K0 : Nat → (Nat → Int) → (Nat → Int) → Prop} : B_kt_Spots a0n a0a a0b K0 (W_kt_Spots_0 a0n a0a a0b fuel) → B_kt_Spots a0n a0a a0b K0 (fun p0 p1 p2 p3 p4 y0 => S_kt_Spots_0 a0n a0a a0b p0 p1 p2 p3 p4 = S_kt_Spots_0 a0n a0a a0b p0 p1 p2 p3 p4 ∧ W_kt_Spots_0 a0n a0a a0b fuel p0 p1 p2 p3 p4 y0) := by
  unfold B_kt_Spots
  repeat' first
    | exact id
    | refine Ts_imp ?_
    | refine cond_imp ?_ ?_
    | refine and_imp' ?_
    | refine fun h => ⟨rfl, WM_kt_Spots_0 _ _ _  (fun _ _ _ _ _ => ?_) _ _ _ _ _ _  h⟩
def g_kt_Spots : List AV → Option (Prop × RT)
  | [AV.rs sq0 sn0 sc0] => cond (kindsOK [KC.I .i64, KC.I .i64] sc0) (some (P_kt_Spots (nOf sn0 sc0) (colI sc0 0) (colI sc0 1), RT.leaf (AV.rs none (F_kt_Spots_0 (nOf sn0 sc0) (colI sc0 0) (colI sc0 1)) [CF.I .i64 (F_kt_Spots_1 (nOf sn0 sc0) (colI sc0 0) (colI sc0 1)), CF.I .i64 (F_kt_Spots_2 (nOf sn0 sc0) (colI sc0 0) (colI sc0 1))]))) none
  | _ => none
theorem S_kt_Spots : SpecOK Try.prog 22 (.pure g_kt_Spots) := by
  intro xs p r h hp E w vs hr hv
  unfold g_kt_Spots at h
  split at h
  · rename_i sq0 sn0 sc0
    have hk0 : kindsOK [KC.I .i64, KC.I .i64] sc0 = true := by
      cases hh : kindsOK [KC.I .i64, KC.I .i64] sc0 with
      | true => rfl
      | false => rw [hh] at h; cases h
    rw [hk0, cond_true] at h
    simp only [Option.some.injEq, Prod.mk.injEq] at h
    obtain ⟨rfl, rfl⟩ := h
    have hG : SpecsOK Try.prog G_kt_Spots := trivial
    have hv' : VRs E.bare (as_kt_Spots (nOf sn0 sc0) (colI sc0 0) (colI sc0 1)) vs := (AV.les.cons (AV.le.rs hk0) AV.les.nil) _ _ hv
    refine walk_pure' (f := 22) (fn := Try.f22) (c := bodyOf Try.f22) (rs := [.tmp 2]) (ys := as_kt_Spots (nOf sn0 sc0) (colI sc0 0) (colI sc0 1)) tab_ok (envL_ok hG) Try.func22 rfl (by kernel_rfl) rfl (by decide) (fun X hX hrho => ?_) E w vs hr hv'
    rw [Try.ntmps22]
    refine vwp_std hX rfl (tr := T_kt_Spots (nOf sn0 sc0) (colI sc0 0) (colI sc0 1)) (fun j st Q h => TS_kt_Spots hX _ rfl (nOf sn0 sc0) (colI sc0 0) (colI sc0 1) j st Q h) ?_
    refine Eq.mpr (N_kt_Spots (nOf sn0 sc0) (colI sc0 0) (colI sc0 1) (fun x => x = _)) ?_
    exact BL_kt_Spots (nOf sn0 sc0) (colI sc0 0) (colI sc0 1) (H_kt_Spots (nOf sn0 sc0) (colI sc0 0) (colI sc0 1) hp rfl)
  · cases h
/-! ### bagatelle/bagatellekit.OwnForm -/
def G_kt_OwnForm : List (Nat × Ag.Spec) := [(22, .pure g_kt_Spots)]
def as_kt_OwnForm (a0a : Int) (a0ba : Int) (a0bb : Int) (a0c : Int) (a0dn : Nat) (a0da : Nat → Int) (a0db : Nat → Int) : List AV := [AV.agg [AV.int .i64 a0a, AV.int .i64 a0ba, AV.int .i64 a0bb, AV.int .i64 a0c, AV.rs none a0dn [CF.I .i64 a0da, CF.I .i64 a0db]]]
theorem N_kt_OwnForm (a0a : Int) (a0ba : Int) (a0bb : Int) (a0c : Int) (a0dn : Nat) (a0da : Nat → Int) (a0db : Nat → Int) (K : AV → Prop) : vwp tab (envL G_kt_OwnForm) (fun _ _ _ => False) 0 (bodyOf Try.f29) (entry (as_kt_OwnForm a0a a0ba a0bb a0c a0dn a0da a0db) 8) (fnPost tab [.cell 2 46] fun v s => K (v.frz s.mem)) = B_kt_OwnForm a0a a0ba a0bb a0c a0dn a0da a0db (fun r0 r1 r2 r3 r4 r5 r6 => K (AV.agg [AV.int .i64 r0, AV.int .i64 r1, AV.int .i64 r2, AV.int .i64 r3, AV.rs none r4 [CF.I .i64 r5, CF.I .i64 r6]]))  := by kernel_rfl
def g_kt_OwnForm : List AV → Option (Prop × RT)
  | [AV.agg [AV.int .i64 a0a, AV.int .i64 a0ba, AV.int .i64 a0bb, AV.int .i64 a0c, AV.rs sq0 sn0 sc0]] => cond (kindsOK [KC.I .i64, KC.I .i64] sc0) (some (P_kt_OwnForm a0a a0ba a0bb a0c (nOf sn0 sc0) (colI sc0 0) (colI sc0 1), RT.leaf (AV.agg [AV.int .i64 (F_kt_OwnForm_0 a0a a0ba a0bb a0c (nOf sn0 sc0) (colI sc0 0) (colI sc0 1)), AV.int .i64 (F_kt_OwnForm_1 a0a a0ba a0bb a0c (nOf sn0 sc0) (colI sc0 0) (colI sc0 1)), AV.int .i64 (F_kt_OwnForm_2 a0a a0ba a0bb a0c (nOf sn0 sc0) (colI sc0 0) (colI sc0 1)), AV.int .i64 (F_kt_OwnForm_3 a0a a0ba a0bb a0c (nOf sn0 sc0) (colI sc0 0) (colI sc0 1)), AV.rs none (F_kt_OwnForm_4 a0a a0ba a0bb a0c (nOf sn0 sc0) (colI sc0 0) (colI sc0 1)) [CF.I .i64 (F_kt_OwnForm_5 a0a a0ba a0bb a0c (nOf sn0 sc0) (colI sc0 0) (colI sc0 1)), CF.I .i64 (F_kt_OwnForm_6 a0a a0ba a0bb a0c (nOf sn0 sc0) (colI sc0 0) (colI sc0 1))]]))) none
  | _ => none
theorem S_kt_OwnForm : SpecOK Try.prog 29 (.pure g_kt_OwnForm) := by
  intro xs p r h hp E w vs hr hv
  unfold g_kt_OwnForm at h
  split at h
  · rename_i a0a a0ba a0bb a0c sq0 sn0 sc0
    have hk0 : kindsOK [KC.I .i64, KC.I .i64] sc0 = true := by
      cases hh : kindsOK [KC.I .i64, KC.I .i64] sc0 with
      | true => rfl
      | false => rw [hh] at h; cases h
    rw [hk0, cond_true] at h
    simp only [Option.some.injEq, Prod.mk.injEq] at h
    obtain ⟨rfl, rfl⟩ := h
    have hG : SpecsOK Try.prog G_kt_OwnForm := ⟨S_kt_Spots, trivial⟩
    have hv' : VRs E.bare (as_kt_OwnForm a0a a0ba a0bb a0c (nOf sn0 sc0) (colI sc0 0) (colI sc0 1)) vs := (AV.les.cons (AV.le.agg (AV.les.cons (AV.le.refl _) (AV.les.cons (AV.le.refl _) (AV.les.cons (AV.le.refl _) (AV.les.cons (AV.le.refl _) (AV.les.cons (AV.le.rs hk0) AV.les.nil)))))) AV.les.nil) _ _ hv
    refine walk_pure' (f := 29) (fn := Try.f29) (c := bodyOf Try.f29) (rs := [.cell 2 46]) (ys := as_kt_OwnForm a0a a0ba a0bb a0c (nOf sn0 sc0) (colI sc0 0) (colI sc0 1)) tab_ok (envL_ok hG) Try.func29 rfl (by kernel_rfl) rfl (by decide) (fun X hX hrho => ?_) E w vs hr hv'
    rw [Try.ntmps29]
    refine vwp_std hX rfl (tr := fun _ _ _ => False) (fun _ _ _ h => h.elim) ?_
    refine Eq.mpr (N_kt_OwnForm a0a a0ba a0bb a0c (nOf sn0 sc0) (colI sc0 0) (colI sc0 1) (fun x => x = _)) ?_
    exact H_kt_OwnForm a0a a0ba a0bb a0c (nOf sn0 sc0) (colI sc0 0) (colI sc0 1) hp rfl
  · cases h
/-! ### (bagatelle/solid.polygon).edges -/
def G_sd_polygon_edges : List (Nat × Ag.Spec) := []
def as_sd_polygon_edges (a0an : Nat) (a0aa : Nat → Int) (a0ab : Nat → Int) : List AV := [AV.agg [AV.rs none a0an [CF.I .i64 a0aa, CF.I .i64 a0ab]]]
theorem N_sd_polygon_edges (a0an : Nat) (a0aa : Nat → Int) (a0ab : Nat → Int) (K : AV → Prop) : vwp tab (envL G_sd_polygon_edges) (fun _ _ _ => False) 0 (bodyOf Try.f45) (entry (as_sd_polygon_edges a0an a0aa a0ab) 4) (fnPost tab [.tmp 2] fun v s => K (v.frz s.mem)) = B_sd_polygon_edges a0an a0aa a0ab (fun r0 r1 r2 => K (AV.fn 57 [AV.rp [AV.rs none r0 [CF.I .i64 r1, CF.I .i64 r2]] 0]))  := by kernel_rfl
def g_sd_polygon_edges : List AV → Option (Prop × RT)
  | [AV.agg [AV.rs sq0 sn0 sc0]] => cond (kindsOK [KC.I .i64, KC.I .i64] sc0) (some (P_sd_polygon_edges (nOf sn0 sc0) (colI sc0 0) (colI sc0 1), RT.leaf (AV.fn 57 [AV.rp [AV.rs none (F_sd_polygon_edges_0 (nOf sn0 sc0) (colI sc0 0) (colI sc0 1)) [CF.I .i64 (F_sd_polygon_edges_1 (nOf sn0 sc0) (colI sc0 0) (colI sc0 1)), CF.I .i64 (F_sd_polygon_edges_2 (nOf sn0 sc0) (colI sc0 0) (colI sc0 1))]] 0]))) none
  | _ => none
theorem S_sd_polygon_edges : SpecOK Try.prog 45 (.pure g_sd_polygon_edges) := by
  intro xs p r h hp E w vs hr hv
  unfold g_sd_polygon_edges at h
  split at h
  · rename_i sq0 sn0 sc0
    have hk0 : kindsOK [KC.I .i64, KC.I .i64] sc0 = true := by
      cases hh : kindsOK [KC.I .i64, KC.I .i64] sc0 with
      | true => rfl
      | false => rw [hh] at h; cases h
    rw [hk0, cond_true] at h
    simp only [Option.some.injEq, Prod.mk.injEq] at h
    obtain ⟨rfl, rfl⟩ := h
    have hG : SpecsOK Try.prog G_sd_polygon_edges := trivial
    have hv' : VRs E.bare (as_sd_polygon_edges (nOf sn0 sc0) (colI sc0 0) (colI sc0 1)) vs := (AV.les.cons (AV.le.agg (AV.les.cons (AV.le.rs hk0) AV.les.nil)) AV.les.nil) _ _ hv
    refine walk_pure' (f := 45) (fn := Try.f45) (c := bodyOf Try.f45) (rs := [.tmp 2]) (ys := as_sd_polygon_edges (nOf sn0 sc0) (colI sc0 0) (colI sc0 1)) tab_ok (envL_ok hG) Try.func45 rfl (by kernel_rfl) rfl (by decide) (fun X hX hrho => ?_) E w vs hr hv'
    rw [Try.ntmps45]
    refine vwp_std hX rfl (tr := fun _ _ _ => False) (fun _ _ _ h => h.elim) ?_
    refine Eq.mpr (N_sd_polygon_edges (nOf sn0 sc0) (colI sc0 0) (colI sc0 1) (fun x => x = _)) ?_
    exact H_sd_polygon_edges (nOf sn0 sc0) (colI sc0 0) (colI sc0 1) hp rfl
  · cases h
/-! ### bagatelle/solid.Convex -/
def G_sd_Convex : List (Nat × Ag.Spec) := [(39, .pure g_sd_fair), (42, .pure g_sd_turn), (45, .pure g_sd_polygon_edges)]
/-! loop sd_Convex_0_0 -/
def S_sd_Convex_0_0 (a0n : Nat) (a0a : Nat → Int) (a0b : Nat → Int) (j0 : Nat) (v0m20 : Int) (v00t23 : Int) : VS := ⟨slotsN 50 0 [(1, AV.ptr false 0 0 0), (2, AV.ptr false 1 0 0), (3, AV.ptr false 2 0 0), (4, AV.ptr false 3 0 0), (5, AV.ptr false 4 0 0), (18, AV.fn 57 [AV.rp [AV.rs none (F_sd_polygon_edges_0 a0n a0a a0b) [CF.I .i64 (F_sd_polygon_edges_1 a0n a0a a0b), CF.I .i64 (F_sd_polygon_edges_2 a0n a0a a0b)]] 0]), (19, AV.agg [AV.int .i64 ((F_sd_polygon_edges_1 a0n a0a a0b) j0), AV.int .i64 ((F_sd_polygon_edges_2 a0n a0a a0b) j0)]), (20, AV.agg [AV.int .i64 ((F_sd_polygon_edges_1 a0n a0a a0b) (nxE (F_sd_polygon_edges_0 a0n a0a a0b) j0)), AV.int .i64 ((F_sd_polygon_edges_2 a0n a0a a0b) (nxE (F_sd_polygon_edges_0 a0n a0a a0b) j0))]), (21, AV.rs none a0n [CF.I .i64 a0a, CF.I .i64 a0b]), (22, AV.int .i64 ((a0n : Nat) : Int)), (23, AV.int .i64 v00t23)], [.one true 39 [AV.rs none a0n [CF.I .i64 a0a, CF.I .i64 a0b]], .one true 4 [AV.bool false], .one true 3 [AV.int .i64 v0m20], .one true 25 [AV.int .i64 ((F_sd_polygon_edges_1 a0n a0a a0b) j0), AV.int .i64 ((F_sd_polygon_edges_2 a0n a0a a0b) j0)], .one true 25 [AV.int .i64 ((F_sd_polygon_edges_1 a0n a0a a0b) (nxE (F_sd_polygon_edges_0 a0n a0a a0b) j0)), AV.int .i64 ((F_sd_polygon_edges_2 a0n a0a a0b) (nxE (F_sd_polygon_edges_0 a0n a0a a0b) j0))]], false, 3⟩
def X_sd_Convex_0_0_exit2 (a0n : Nat) (a0a : Nat → Int) (a0b : Nat → Int) (j0 : Nat) (v0m20 : Int) (o0 : Int) : VS := ⟨slotsN 50 0 [(1, AV.ptr false 0 0 0), (2, AV.ptr false 1 0 0), (3, AV.ptr false 2 0 0), (4, AV.ptr false 3 0 0), (5, AV.ptr false 4 0 0), (18, AV.fn 57 [AV.rp [AV.rs none (F_sd_polygon_edges_0 a0n a0a a0b) [CF.I .i64 (F_sd_polygon_edges_1 a0n a0a a0b), CF.I .i64 (F_sd_polygon_edges_2 a0n a0a a0b)]] 0]), (19, AV.agg [AV.int .i64 ((F_sd_polygon_edges_1 a0n a0a a0b) j0), AV.int .i64 ((F_sd_polygon_edges_2 a0n a0a a0b) j0)]), (20, AV.agg [AV.int .i64 ((F_sd_polygon_edges_1 a0n a0a a0b) (nxE (F_sd_polygon_edges_0 a0n a0a a0b) j0)), AV.int .i64 ((F_sd_polygon_edges_2 a0n a0a a0b) (nxE (F_sd_polygon_edges_0 a0n a0a a0b) j0))]), (21, AV.rs none a0n [CF.I .i64 a0a, CF.I .i64 a0b]), (22, AV.int .i64 ((a0n : Nat) : Int)), (23, AV.int .i64 o0)], [.one true 39 [AV.rs none a0n [CF.I .i64 a0a, CF.I .i64 a0b]], .one true 4 [AV.bool false], .one true 3 [AV.int .i64 v0m20], .one true 25 [AV.int .i64 ((F_sd_polygon_edges_1 a0n a0a a0b) j0), AV.int .i64 ((F_sd_polygon_edges_2 a0n a0a a0b) j0)], .one true 25 [AV.int .i64 ((F_sd_polygon_edges_1 a0n a0a a0b) (nxE (F_sd_polygon_edges_0 a0n a0a a0b) j0)), AV.int .i64 ((F_sd_polygon_edges_2 a0n a0a a0b) (nxE (F_sd_polygon_edges_0 a0n a0a a0b) j0))]], false, 3⟩
def X_sd_Convex_0_0_ret (a0n : Nat) (a0a : Nat → Int) (a0b : Nat → Int) (j0 : Nat) (v0m20 : Int) (o0 : Int) : VS := ⟨slotsN 50 0 [(1, AV.ptr false 0 0 0), (2, AV.ptr false 1 0 0), (3, AV.ptr false 2 0 0), (4, AV.ptr false 3 0 0), (5, AV.ptr false 4 0 0), (18, AV.fn 57 [AV.rp [AV.rs none (F_sd_polygon_edges_0 a0n a0a a0b) [CF.I .i64 (F_sd_polygon_edges_1 a0n a0a a0b), CF.I .i64 (F_sd_polygon_edges_2 a0n a0a a0b)]] 0]), (19, AV.agg [AV.int .i64 ((F_sd_polygon_edges_1 a0n a0a a0b) j0), AV.int .i64 ((F_sd_polygon_edges_2 a0n a0a a0b) j0)]), (20, AV.agg [AV.int .i64 ((F_sd_polygon_edges_1 a0n a0a a0b) (nxE (F_sd_polygon_edges_0 a0n a0a a0b) j0)), AV.int .i64 ((F_sd_polygon_edges_2 a0n a0a a0b) (nxE (F_sd_polygon_edges_0 a0n a0a a0b) j0))]), (21, AV.rs none a0n [CF.I .i64 a0a, CF.I .i64 a0b]), (22, AV.int .i64 ((a0n : Nat) : Int)), (23, AV.int .i64 o0)], [.one true 39 [AV.rs none a0n [CF.I .i64 a0a, CF.I .i64 a0b]], .one true 4 [AV.bool false], .one true 3 [AV.int .i64 v0m20], .one true 25 [AV.int .i64 ((F_sd_polygon_edges_1 a0n a0a a0b) j0), AV.int .i64 ((F_sd_polygon_edges_2 a0n a0a a0b) j0)], .one true 25 [AV.int .i64 ((F_sd_polygon_edges_1 a0n a0a a0b) (nxE (F_sd_polygon_edges_0 a0n a0a a0b) j0)), AV.int .i64 ((F_sd_polygon_edges_2 a0n a0a a0b) (nxE (F_sd_polygon_edges_0 a0n a0a a0b) j0))]], false, 3⟩
theorem N_sd_Convex_0_0 (a0n : Nat) (a0a : Nat → Int) (a0b : Nat → Int) (j0 : Nat) (v0m20 : Int) (v00t23 : Int) (Q : Exit → VS → Prop) : vwp tab (envL G_sd_Convex) (fun _ _ _ => False) 0 (lbody (loopAt ((lbody (loopAt (bodyOf Try.f25) 0))) 0)) (S_sd_Convex_0_0 a0n a0a a0b j0 v0m20 v00t23) (QM [1, 2, 3, 4, 5, 18, 19, 20, 21, 22, 23] [0, 1, 2, 3, 4] 5 Q) = B_sd_Convex_0_0 a0n a0a a0b j0 v0m20 v00t23 (fun w0 => Q .normal (S_sd_Convex_0_0 a0n a0a a0b j0 v0m20 w0)) (fun o0 => Q (.exit 2) (X_sd_Convex_0_0_exit2 a0n a0a a0b j0 v0m20 o0)) (fun o0 => Q .ret (X_sd_Convex_0_0_ret a0n a0a a0b j0 v0m20 o0))  := by kernel_rfl
theorem L_sd_Convex_0_0 {X : Cx} (hX : Std Try.prog tab (envL G_sd_Convex) X) (b : Code) (hb : b = (lbody (loopAt (bodyOf Try.f25) 0))) (a0n : Nat) (a0a : Nat → Int) (a0b : Nat → Int) (j0 : Nat) (v0m20 : Int) (fu : Nat) (v00t23 : Int) (Q : Exit → VS → Prop) (h : W_sd_Convex_0_0 a0n a0a a0b j0 v0m20 fu v00t23 (fun o0 => Q (.exit 2) (X_sd_Convex_0_0_exit2 a0n a0a a0b j0 v0m20 o0)) (fun o0 => Q .ret (X_sd_Convex_0_0_ret a0n a0a a0b j0 v0m20 o0))) : TrK X b 0 (S_sd_Convex_0_0 a0n a0a a0b j0 v0m20 v00t23) Q := by
  subst hb
  refine loop_ok (V := Int) (fun v => S_sd_Convex_0_0 a0n a0a a0b j0 v0m20 v) (fun f v => W_sd_Convex_0_0 a0n a0a a0b j0 v0m20 f v (fun o0 => Q (.exit 2) (X_sd_Convex_0_0_exit2 a0n a0a a0b j0 v0m20 o0)) (fun o0 => Q .ret (X_sd_Convex_0_0_ret a0n a0a a0b j0 v0m20 o0))) (fun _ h => h) (by kernel_rfl) (fun f v hv => ?_) (fuel := fu) (v0 := (v00t23)) h
  refine QM_ok (bs := [1, 2, 3, 4, 5, 18, 19, 20, 21, 22, 23]) (ms := [0, 1, 2, 3, 4]) (nm := 5) ?_
  refine vwp_std hX rfl (tr := (fun _ _ _ => False)) (fun _ _ _ h => h.elim) ?_
  refine Eq.mpr (N_sd_Convex_0_0 a0n a0a a0b j0 v0m20 v _) ?_
  exact BM_sd_Convex_0_0 a0n a0a a0b j0 v0m20 v (fun w0 h => ⟨w0, rfl, h⟩) (fun _ h => h) (fun _ h => h) hv
/-! range over a function sd_Convex_0 -/
def S_sd_Convex_0 (a0n : Nat) (a0a : Nat → Int) (a0b : Nat → Int) (v0m20 : Int) : VS := ⟨slotsN 50 0 [(1, AV.ptr false 0 0 0), (2, AV.ptr false 1 0 0), (3, AV.ptr false 2 0 0), (18, AV.fn 57 [AV.rp [AV.rs none (F_sd_polygon_edges_0 a0n a0a a0b) [CF.I .i64 (F_sd_polygon_edges_1 a0n a0a a0b), CF.I .i64 (F_sd_polygon_edges_2 a0n a0a a0b)]] 0])], [.one true 39 [AV.rs none a0n [CF.I .i64 a0a, CF.I .i64 a0b]], .one true 4 [AV.bool false], .one true 3 [AV.int .i64 v0m20]], false, 0⟩
def X_sd_Convex_0_normal (a0n : Nat) (a0a : Nat → Int) (a0b : Nat → Int) (o0 : Int) : VS := ⟨slotsN 50 0 [(1, AV.ptr false 0 0 0), (2, AV.ptr false 1 0 0), (3, AV.ptr false 2 0 0), (18, AV.fn 57 [AV.rp [AV.rs none (F_sd_polygon_edges_0 a0n a0a a0b) [CF.I .i64 (F_sd_polygon_edges_1 a0n a0a a0b), CF.I .i64 (F_sd_polygon_edges_2 a0n a0a a0b)]] 0])], [.one true 39 [AV.rs none a0n [CF.I .i64 a0a, CF.I .i64 a0b]], .one true 4 [AV.bool false], .one true 3 [AV.int .i64 o0]], true, 0⟩
def X_sd_Convex_0_ret (a0n : Nat) (a0a : Nat → Int) (a0b : Nat → Int) (o0 : Int) : VS := ⟨slotsN 50 0 [(1, AV.ptr false 0 0 0), (2, AV.ptr false 1 0 0), (3, AV.ptr false 2 0 0), (18, AV.fn 57 [AV.rp [AV.rs none (F_sd_polygon_edges_0 a0n a0a a0b) [CF.I .i64 (F_sd_polygon_edges_1 a0n a0a a0b), CF.I .i64 (F_sd_polygon_edges_2 a0n a0a a0b)]] 0])], [.one true 39 [AV.rs none a0n [CF.I .i64 a0a, CF.I .i64 a0b]], .one true 4 [AV.bool false], .one true 3 [AV.int .i64 o0]], true, 0⟩
def T_sd_Convex_0 (a0n : Nat) (a0a : Nat → Int) (a0b : Nat → Int) (j0 : Nat) (v0m20 : Int) (k : Nat) (st : VS) (Q : Exit → VS → Prop) : Prop := match k with
  | 0 => TL [1, 2, 3, 4, 5, 18, 19, 20, 21, 22, 23] [0, 1, 2, 3, 4] 5 (convs st []) (fun st => S_sd_Convex_0_0 a0n a0a a0b j0 v0m20 (intOf (tAt st 23))) (fun st => W_sd_Convex_0_0 a0n a0a a0b j0 v0m20 fuel (intOf (tAt st 23)) (fun o0 => Q (.exit 2) (X_sd_Convex_0_0_exit2 a0n a0a a0b j0 v0m20 o0)) (fun o0 => Q .ret (X_sd_Convex_0_0_ret a0n a0a a0b j0 v0m20 o0)))
  | _ => False
theorem N_sd_Convex_0 (a0n : Nat) (a0a : Nat → Int) (a0b : Nat → Int) (j0 : Nat) (v0m20 : Int) (Qn : VS → Prop) (Q : Exit → VS → Prop) : vwp tab (envL G_sd_Convex) (fun _ _ _ => False) 0 (lasn (loopAt (bodyOf Try.f25) 0)) (⟨setPs [19, 20] [AV.agg [AV.int .i64 ((F_sd_polygon_edges_1 a0n a0a a0b) j0), AV.int .i64 ((F_sd_polygon_edges_2 a0n a0a a0b) j0)], AV.agg [AV.int .i64 ((F_sd_polygon_edges_1 a0n a0a a0b) (nxE (F_sd_polygon_edges_0 a0n a0a a0b) j0)), AV.int .i64 ((F_sd_polygon_edges_2 a0n a0a a0b) (nxE (F_sd_polygon_edges_0 a0n a0a a0b) j0))]] (S_sd_Convex_0 a0n a0a a0b v0m20).tmps, (S_sd_Convex_0 a0n a0a a0b v0m20).mem, false, 3⟩) (eNorm fun s1 => vwp tab (envL G_sd_Convex) (T_sd_Convex_0 a0n a0a a0b j0 v0m20) 0 (lbody (loopAt (bodyOf Try.f25) 0)) s1 (RP (S_sd_Convex_0 a0n a0a a0b v0m20).tmps 0 [0, 1, 2] 3 Qn Q)) = B_sd_Convex_0 a0n a0a a0b j0 v0m20 (fun w0 => Qn (S_sd_Convex_0 a0n a0a a0b w0)) (fun o0 => Q .ret (X_sd_Convex_0_ret a0n a0a a0b o0)) (fun p0 y0 y1 => S_sd_Convex_0_0 a0n a0a a0b j0 v0m20 p0 = S_sd_Convex_0_0 a0n a0a a0b j0 v0m20 p0 ∧ W_sd_Convex_0_0 a0n a0a a0b j0 v0m20 fuel p0 y0 y1) := by kernel_rfl
theorem BL_sd_Convex_0 (a0n : Nat) (a0a : Nat → Int) (a0b : Nat → Int) (j0 : Nat) (v0m20 : Int) {c c' : Int → Prop} {x0 y0 : Int → Prop} (hc : ∀ w0, c w0 → c' w0) (h0 : ∀ o0, x0 o0 → y0 o0) : B_sd_Convex_0 a0n a0a a0b j0 v0m20 c x0 (W_sd_Convex_0_0 a0n a0a a0b j0 v0m20 fuel) → B_sd_Convex_0 a0n a0a a0b j0 v0m20 c' y0 (fun p0 y0 y1 => S_sd_Convex_0_0 a0n a0a a0b j0 v0m20 p0 = S_sd_Convex_0_0 a0n a0a a0b j0 v0m20 p0 ∧ W_sd_Convex_0_0 a0n a0a a0b j0 v0m20 fuel p0 y0 y1) := by
  unfold B_sd_Convex_0
  repeat' first
    | exact hc _
    | exact h0 _
    | refine Ts_imp ?_
    | refine cond_imp ?_ ?_
    | refine and_imp' ?_
    | refine fun h => ⟨rfl, WM_sd_Convex_0_0 _ _ _ _ _  (fun _ => ?_) (fun _ => ?_) _ _  h⟩
theorem TS_sd_Convex_0 {X : Cx} (hX : Std Try.prog tab (envL G_sd_Convex) X) (b : Code) (hb : b = (lbody (loopAt (bodyOf Try.f25) 0))) (a0n : Nat) (a0a : Nat → Int) (a0b : Nat → Int) (j0 : Nat) (v0m20 : Int) (j : Nat) (st : VS) (Q : Exit → VS → Prop) (h : T_sd_Convex_0 a0n a0a a0b j0 v0m20 j st Q) : TrK X b j st Q := by
  unfold T_sd_Convex_0 at h
  split at h
  · exact TL_ok h (fun h' => L_sd_Convex_0_0 hX b hb a0n a0a a0b j0 v0m20 _ _ Q h')
  · exact h.elim
theorem L_sd_Convex_0 {X : Cx} (hX : Std Try.prog tab (envL G_sd_Convex) X) (hrho : X.ρ = none) (b : Code) (hb : b = bodyOf Try.f25) (a0n : Nat) (a0a : Nat → Int) (a0b : Nat → Int) (v0m20 : Int) (Q : Exit → VS → Prop) (h : PP_sd_Convex_0 a0n a0a a0b ∧ W_sd_Convex_0 a0n a0a a0b (NN_sd_Convex_0 a0n a0a a0b) 0 v0m20 (fun o0 => Q .normal (X_sd_Convex_0_normal a0n a0a a0b o0)) (fun o0 => Q .ret (X_sd_Convex_0_ret a0n a0a a0b o0))) : TrK X b 0 (S_sd_Convex_0 a0n a0a a0b v0m20) Q := by
  subst hb
  have hit : IterSpec X.P 57 gi_edges := by rw [hX.P]; exact iter_edges
  have hb2 : loopAt (bodyOf Try.f25) 0 = .rangeFunc (.tmp 18) #[19, 20] (lasn (loopAt (bodyOf Try.f25) 0)) (lbody (loopAt (bodyOf Try.f25) 0)) := by kernel_rfl
  refine rf_ok hrho hb2 (V := Int) (fun v => S_sd_Convex_0 a0n a0a a0b v) (t := (S_sd_Convex_0 a0n a0a a0b v0m20).tmps) (pn := 0) (nm := 3) (ms := [0, 1, 2]) (fun v => ⟨rfl, rfl, rfl, rfl⟩) hit (v0m20) rfl rfl (N := NN_sd_Convex_0 a0n a0a a0b) (args := fun j0 => [AV.agg [AV.int .i64 ((F_sd_polygon_edges_1 a0n a0a a0b) j0), AV.int .i64 ((F_sd_polygon_edges_2 a0n a0a a0b) j0)], AV.agg [AV.int .i64 ((F_sd_polygon_edges_1 a0n a0a a0b) (nxE (F_sd_polygon_edges_0 a0n a0a a0b) j0)), AV.int .i64 ((F_sd_polygon_edges_2 a0n a0a a0b) (nxE (F_sd_polygon_edges_0 a0n a0a a0b) j0))]]) (p := PP_sd_Convex_0 a0n a0a a0b) rfl h.1 (fun _ => rfl) (fun r j v => W_sd_Convex_0 a0n a0a a0b r j v (fun o0 => Q .normal (X_sd_Convex_0_normal a0n a0a a0b o0)) (fun o0 => Q .ret (X_sd_Convex_0_ret a0n a0a a0b o0))) (fun r j v hv => ?_) (fun j v hv => ?_) h.2
  · refine rf_round hX (c1 := (lasn (loopAt (bodyOf Try.f25) 0))) (c2 := (lbody (loopAt (bodyOf Try.f25) 0))) rfl rfl (tr := T_sd_Convex_0 a0n a0a a0b j v) (fun X' hX' j' st Q h => TS_sd_Convex_0 hX' _ rfl a0n a0a a0b j v j' st Q h) ?_
    refine Eq.mpr (N_sd_Convex_0 a0n a0a a0b j v _ _) ?_
    exact BL_sd_Convex_0 a0n a0a a0b j v (fun w0 h => ⟨w0, rfl, h⟩) (fun _ h => h) hv
  · exact hv
def T_sd_Convex (a0n : Nat) (a0a : Nat → Int) (a0b : Nat → Int) (k : Nat) (st : VS) (Q : Exit → VS → Prop) : Prop := match k with
  | 0 => TL [1, 2, 3, 18] [0, 1, 2] 3 (convs st []) (fun st => S_sd_Convex_0 a0n a0a a0b (intOf (mAt st 2 0))) (fun st => PP_sd_Convex_0 a0n a0a a0b  ∧ W_sd_Convex_0 a0n a0a a0b  (NN_sd_Convex_0 a0n a0a a0b ) 0 (intOf (mAt st 2 0)) (fun o0 => Q .normal (X_sd_Convex_0_normal a0n a0a a0b  o0)) (fun o0 => Q .ret (X_sd_Convex_0_ret a0n a0a a0b  o0)))
  | _ => False
theorem TS_sd_Convex {X : Cx} (hX : Std Try.prog tab (envL G_sd_Convex) X) (hrho : X.ρ = none) (b : Code) (hb : b = bodyOf Try.f25) (a0n : Nat) (a0a : Nat → Int) (a0b : Nat → Int) (j : Nat) (st : VS) (Q : Exit → VS → Prop) (h : T_sd_Convex a0n a0a a0b j st Q) : TrK X b j st Q := by
  unfold T_sd_Convex at h
  split at h
  · exact TL_ok h (fun h' => L_sd_Convex_0 hX hrho b hb a0n a0a a0b _ Q h')
  · exact h.elim
def as_sd_Convex (a0n : Nat) (a0a : Nat → Int) (a0b : Nat → Int) : List AV := [AV.rs none a0n [CF.I .i64 a0a, CF.I .i64 a0b]]
theorem N_sd_Convex (a0n : Nat) (a0a : Nat → Int) (a0b : Nat → Int) (K : AV → Prop) : vwp tab (envL G_sd_Convex) (T_sd_Convex a0n a0a a0b) 0 (bodyOf Try.f25) (entry (as_sd_Convex a0n a0a a0b) 50) (fnPost tab [.cell 2 4] fun v s => K (v.frz s.mem)) = B_sd_Convex a0n a0a a0b (fun r0 => K (AV.bool r0)) (fun p0 y0 y1 => S_sd_Convex_0 a0n a0a a0b  p0 = S_sd_Convex_0 a0n a0a a0b  p0 ∧ PP_sd_Convex_0 a0n a0a a0b  ∧ W_sd_Convex_0 a0n a0a a0b  (NN_sd_Convex_0 a0n a0a a0b ) 0 p0 y0 y1) := by kernel_rfl
theorem BL_sd_Convex (a0n : Nat) (a0a : Nat → Int) (a0b : Nat → Int) {K0 : Bool → Prop} : B_sd_Convex a0n a0a a0b K0 (fun p0 y0 y1 => PP_sd_Convex_0 a0n a0a a0b  ∧ W_sd_Convex_0 a0n a0a a0b  (NN_sd_Convex_0 a0n a0a a0b ) 0 p0 y0 y1) → B_sd_Convex a0n a0a a0b K0 (fun p0 y0 y1 => S_sd_Convex_0 a0n a0a a0b  p0 = S_sd_Convex_0 a0n a0a a0b  p0 ∧ PP_sd_Convex_0 a0n a0a a0b  ∧ W_sd_Convex_0 a0n a0a a0b  (NN_sd_Convex_0 a0n a0a a0b ) 0 p0 y0 y1) := by
  unfold B_sd_Convex
  repeat' first
    | exact id
    | refine Ts_imp ?_
    | refine cond_imp ?_ ?_
    | refine and_imp' ?_
    | refine fun h => ⟨rfl, h.1, WM_sd_Convex_0 _ _ _  (fun _ => ?_) (fun _ => ?_) _ _ _  h.2⟩
def g_sd_Convex : List AV → Option (Prop × RT)
  | [AV.rs sq0 sn0 sc0] => cond (kindsOK [KC.I .i64, KC.I .i64] sc0) (some (P_sd_Convex (nOf sn0 sc0) (colI sc0 0) (colI sc0 1), RT.leaf (AV.bool (F_sd_Convex_0 (nOf sn0 sc0) (colI sc0 0) (colI sc0 1))))) none
  | _ => none
theorem S_sd_Convex : SpecOK Try.prog 25 (.pure g_sd_Convex) := by
  intro xs p r h hp E w vs hr hv
  unfold g_sd_Convex at h
  split at h
  · rename_i sq0 sn0 sc0
    have hk0 : kindsOK [KC.I .i64, KC.I .i64] sc0 = true := by
      cases hh : kindsOK [KC.I .i64, KC.I .i64] sc0 with
      | true => rfl
      | false => rw [hh] at h; cases h
    rw [hk0, cond_true] at h
    simp only [Option.some.injEq, Prod.mk.injEq] at h
    obtain ⟨rfl, rfl⟩ := h
    have hG : SpecsOK Try.prog G_sd_Convex := ⟨S_sd_fair, S_sd_turn, S_sd_polygon_edges, trivial⟩
    have hv' : VRs E.bare (as_sd_Convex (nOf sn0 sc0) (colI sc0 0) (colI sc0 1)) vs := (AV.les.cons (AV.le.rs hk0) AV.les.nil) _ _ hv
    refine walk_pure' (f := 25) (fn := Try.f25) (c := bodyOf Try.f25) (rs := [.cell 2 4]) (ys := as_sd_Convex (nOf sn0 sc0) (colI sc0 0) (colI sc0 1)) tab_ok (envL_ok hG) Try.func25 rfl (by kernel_rfl) rfl (by decide) (fun X hX hrho => ?_) E w vs hr hv'
    rw [Try.ntmps25]
    refine vwp_std hX rfl (tr := T_sd_Convex (nOf sn0 sc0) (colI sc0 0) (colI sc0 1)) (fun j st Q h => TS_sd_Convex hX hrho _ rfl (nOf sn0 sc0) (colI sc0 0) (colI sc0 1) j st Q h) ?_
    refine Eq.mpr (N_sd_Convex (nOf sn0 sc0) (colI sc0 0) (colI sc0 1) (fun x => x = _)) ?_
    exact BL_sd_Convex (nOf sn0 sc0) (colI sc0 0) (colI sc0 1) (H_sd_Convex (nOf sn0 sc0) (colI sc0 0) (colI sc0 1) hp rfl)
  · cases h
/-! ### bagatelle/solid.grown -/
def G_sd_grown : List (Nat × Ag.Spec) := []
def as_sd_grown (a0a : Int) (a0b : Int) (a1 : Int) : List AV := [AV.agg [AV.int .i64 a0a, AV.int .i64 a0b], AV.int .i64 a1]
theorem N_sd_grown (a0a : Int) (a0b : Int) (a1 : Int) (K : AV → Prop) : vwp tab (envL G_sd_grown) (fun _ _ _ => False) 0 (bodyOf Try.f41) (entry (as_sd_grown a0a a0b a1) 22) (fnPost tab [.cell 4 23] fun v s => K (v.frz s.mem)) = B_sd_grown a0a a0b a1 (fun r0 r1 r2 r3 => K (AV.agg [AV.int .i64 r0, AV.int .i64 r1, AV.int .i64 r2, AV.int .i64 r3]))  := by kernel_rfl
def g_sd_grown : List AV → Option (Prop × RT)
  | [AV.agg [AV.int .i64 a0a, AV.int .i64 a0b], AV.int .i64 a1] => some (P_sd_grown a0a a0b a1, RT.leaf (AV.agg [AV.int .i64 (F_sd_grown_0 a0a a0b a1), AV.int .i64 (F_sd_grown_1 a0a a0b a1), AV.int .i64 (F_sd_grown_2 a0a a0b a1), AV.int .i64 (F_sd_grown_3 a0a a0b a1)]))
  | _ => none
theorem S_sd_grown : SpecOK Try.prog 41 (.pure g_sd_grown) := by
  intro xs p r h hp E w vs hr hv
  unfold g_sd_grown at h
  split at h
  · rename_i a0a a0b a1
    simp only [Option.some.injEq, Prod.mk.injEq] at h
    obtain ⟨rfl, rfl⟩ := h
    have hG : SpecsOK Try.prog G_sd_grown := trivial
    refine walk_pure' (f := 41) (fn := Try.f41) (c := bodyOf Try.f41) (rs := [.cell 4 23]) (ys := as_sd_grown a0a a0b a1) tab_ok (envL_ok hG) Try.func41 rfl (by kernel_rfl) rfl (by decide) (fun X hX hrho => ?_) E w vs hr hv
    rw [Try.ntmps41]
    refine vwp_std hX rfl (tr := fun _ _ _ => False) (fun _ _ _ h => h.elim) ?_
    refine Eq.mpr (N_sd_grown a0a a0b a1 (fun x => x = _)) ?_
    exact H_sd_grown a0a a0b a1 hp rfl
  · cases h
/-! ### bagatelle/solid.Check -/
def G_sd_Check : List (Nat × Ag.Spec) := [(10, .pure g_sd_CheckBox), (25, .pure g_sd_Convex), (39, .pure g_sd_fair), (41, .pure g_sd_grown)]
def as_sd_Check (a0a : Int) (a0ba : Int) (a0bb : Int) (a0c : Int) (a0dn : Nat) (a0da : Nat → Int) (a0db : Nat → Int) : List AV := [AV.agg [AV.int .i64 a0a, AV.int .i64 a0ba, AV.int .i64 a0bb, AV.int .i64 a0c, AV.rs none a0dn [CF.I .i64 a0da, CF.I .i64 a0db]]]
theorem N_sd_Check (a0a : Int) (a0ba : Int) (a0bb : Int) (a0c : Int) (a0dn : Nat) (a0da : Nat → Int) (a0db : Nat → Int) (K : AV → Prop) : vwp tab (envL G_sd_Check) (fun _ _ _ => False) 0 (bodyOf Try.f58) (entry (as_sd_Check a0a a0ba a0bb a0c a0dn a0da a0db) 81) (fnPost tab [.tmp 2] fun v s => K (v.frz s.mem)) = B_sd_Check a0a a0ba a0bb a0c a0dn a0da a0db (fun r0 => K (AV.int .i64 r0))  := by kernel_rfl
def g_sd_Check : List AV → Option (Prop × RT)
  | [AV.agg [AV.int .i64 a0a, AV.int .i64 a0ba, AV.int .i64 a0bb, AV.int .i64 a0c, AV.rs sq0 sn0 sc0]] => cond (kindsOK [KC.I .i64, KC.I .i64] sc0) (some (P_sd_Check a0a a0ba a0bb a0c (nOf sn0 sc0) (colI sc0 0) (colI sc0 1), RT.leaf (AV.int .i64 (F_sd_Check_0 a0a a0ba a0bb a0c (nOf sn0 sc0) (colI sc0 0) (colI sc0 1))))) none
  | _ => none
theorem S_sd_Check : SpecOK Try.prog 58 (.pure g_sd_Check) := by
  intro xs p r h hp E w vs hr hv
  unfold g_sd_Check at h
  split at h
  · rename_i a0a a0ba a0bb a0c sq0 sn0 sc0
    have hk0 : kindsOK [KC.I .i64, KC.I .i64] sc0 = true := by
      cases hh : kindsOK [KC.I .i64, KC.I .i64] sc0 with
      | true => rfl
      | false => rw [hh] at h; cases h
    rw [hk0, cond_true] at h
    simp only [Option.some.injEq, Prod.mk.injEq] at h
    obtain ⟨rfl, rfl⟩ := h
    have hG : SpecsOK Try.prog G_sd_Check := ⟨S_sd_CheckBox, S_sd_Convex, S_sd_fair, S_sd_grown, trivial⟩
    have hv' : VRs E.bare (as_sd_Check a0a a0ba a0bb a0c (nOf sn0 sc0) (colI sc0 0) (colI sc0 1)) vs := (AV.les.cons (AV.le.agg (AV.les.cons (AV.le.refl _) (AV.les.cons (AV.le.refl _) (AV.les.cons (AV.le.refl _) (AV.les.cons (AV.le.refl _) (AV.les.cons (AV.le.rs hk0) AV.les.nil)))))) AV.les.nil) _ _ hv
    refine walk_pure' (f := 58) (fn := Try.f58) (c := bodyOf Try.f58) (rs := [.tmp 2]) (ys := as_sd_Check a0a a0ba a0bb a0c (nOf sn0 sc0) (colI sc0 0) (colI sc0 1)) tab_ok (envL_ok hG) Try.func58 rfl (by kernel_rfl) rfl (by decide) (fun X hX hrho => ?_) E w vs hr hv'
    rw [Try.ntmps58]
    refine vwp_std hX rfl (tr := fun _ _ _ => False) (fun _ _ _ h => h.elim) ?_
    refine Eq.mpr (N_sd_Check a0a a0ba a0bb a0c (nOf sn0 sc0) (colI sc0 0) (colI sc0 1) (fun x => x = _)) ?_
    exact H_sd_Check a0a a0ba a0bb a0c (nOf sn0 sc0) (colI sc0 0) (colI sc0 1) hp rfl
  · cases h
/-! ### bagatelle/solid.figureOf -/
def G_sd_figureOf : List (Nat × Ag.Spec) := [(58, .pure g_sd_Check)]
def as_sd_figureOf (a0a : Int) (a0ba : Int) (a0bb : Int) (a0c : Int) (a0dn : Nat) (a0da : Nat → Int) (a0db : Nat → Int) : List AV := [AV.agg [AV.int .i64 a0a, AV.int .i64 a0ba, AV.int .i64 a0bb, AV.int .i64 a0c, AV.rs none a0dn [CF.I .i64 a0da, CF.I .i64 a0db]]]
theorem N_sd_figureOf (a0a : Int) (a0ba : Int) (a0bb : Int) (a0c : Int) (a0dn : Nat) (a0da : Nat → Int) (a0db : Nat → Int) (K : AV → Prop) : vwp tab (envL G_sd_figureOf) (fun _ _ _ => False) 0 (bodyOf Try.f46) (entry (as_sd_figureOf a0a a0ba a0bb a0c a0dn a0da a0db) 19) (fnPost tab [.tmp 2] fun v s => K (v.frz s.mem)) = B_sd_figureOf a0a a0ba a0bb a0c a0dn a0da a0db (K (AV.nili)) (fun r0 r1 r2 => K (AV.ifc 92 (AV.agg [AV.int .i64 r0, AV.int .i64 r1, AV.int .i64 r2]))) (fun r0 r1 r2 => K (AV.ifc 66 (AV.agg [AV.rs none r0 [CF.I .i64 r1, CF.I .i64 r2]])))  := by kernel_rfl
def g_sd_figureOf : List AV → Option (Prop × RT)
  | [AV.agg [AV.int .i64 a0a, AV.int .i64 a0ba, AV.int .i64 a0bb, AV.int .i64 a0c, AV.rs sq0 sn0 sc0]] => cond (kindsOK [KC.I .i64, KC.I .i64] sc0) (some (P_sd_figureOf a0a a0ba a0bb a0c (nOf sn0 sc0) (colI sc0 0) (colI sc0 1), RT.cond (C_sd_figureOf_0 a0a a0ba a0bb a0c (nOf sn0 sc0) (colI sc0 0) (colI sc0 1)) (RT.leaf (AV.nili)) (RT.cond (C_sd_figureOf_1 a0a a0ba a0bb a0c (nOf sn0 sc0) (colI sc0 0) (colI sc0 1)) (RT.leaf (AV.ifc 92 (AV.agg [AV.int .i64 (F_sd_figureOf_1_0 a0a a0ba a0bb a0c (nOf sn0 sc0) (colI sc0 0) (colI sc0 1)), AV.int .i64 (F_sd_figureOf_1_1 a0a a0ba a0bb a0c (nOf sn0 sc0) (colI sc0 0) (colI sc0 1)), AV.int .i64 (F_sd_figureOf_1_2 a0a a0ba a0bb a0c (nOf sn0 sc0) (colI sc0 0) (colI sc0 1))]))) (RT.leaf (AV.ifc 66 (AV.agg [AV.rs none (F_sd_figureOf_2_0 a0a a0ba a0bb a0c (nOf sn0 sc0) (colI sc0 0) (colI sc0 1)) [CF.I .i64 (F_sd_figureOf_2_1 a0a a0ba a0bb a0c (nOf sn0 sc0) (colI sc0 0) (colI sc0 1)), CF.I .i64 (F_sd_figureOf_2_2 a0a a0ba a0bb a0c (nOf sn0 sc0) (colI sc0 0) (colI sc0 1))]])))))) none
  | _ => none
theorem S_sd_figureOf : SpecOK Try.prog 46 (.pure g_sd_figureOf) := by
  intro xs p r h hp E w vs hr hv
  unfold g_sd_figureOf at h
  split at h
  · rename_i a0a a0ba a0bb a0c sq0 sn0 sc0
    have hk0 : kindsOK [KC.I .i64, KC.I .i64] sc0 = true := by
      cases hh : kindsOK [KC.I .i64, KC.I .i64] sc0 with
      | true => rfl
      | false => rw [hh] at h; cases h
    rw [hk0, cond_true] at h
    simp only [Option.some.injEq, Prod.mk.injEq] at h
    obtain ⟨rfl, rfl⟩ := h
    have hG : SpecsOK Try.prog G_sd_figureOf := ⟨S_sd_Check, trivial⟩
    have hv' : VRs E.bare (as_sd_figureOf a0a a0ba a0bb a0c (nOf sn0 sc0) (colI sc0 0) (colI sc0 1)) vs := (AV.les.cons (AV.le.agg (AV.les.cons (AV.le.refl _) (AV.les.cons (AV.le.refl _) (AV.les.cons (AV.le.refl _) (AV.les.cons (AV.le.refl _) (AV.les.cons (AV.le.rs hk0) AV.les.nil)))))) AV.les.nil) _ _ hv
    refine walk_pure' (f := 46) (fn := Try.f46) (c := bodyOf Try.f46) (rs := [.tmp 2]) (ys := as_sd_figureOf a0a a0ba a0bb a0c (nOf sn0 sc0) (colI sc0 0) (colI sc0 1)) tab_ok (envL_ok hG) Try.func46 rfl (by kernel_rfl) rfl (by decide) (fun X hX hrho => ?_) E w vs hr hv'
    rw [Try.ntmps46]
    refine vwp_std hX rfl (tr := fun _ _ _ => False) (fun _ _ _ h => h.elim) ?_
    refine Eq.mpr (N_sd_figureOf a0a a0ba a0bb a0c (nOf sn0 sc0) (colI sc0 0) (colI sc0 1) (fun x => x = _)) ?_
    refine H_sd_figureOf a0a a0ba a0bb a0c (nOf sn0 sc0) (colI sc0 0) (colI sc0 1) hp ?_
    simp only [RT.val]
    cases C_sd_figureOf_0 a0a a0ba a0bb a0c (nOf sn0 sc0) (colI sc0 0) (colI sc0 1)
    rotate_left
    · rfl
    cases C_sd_figureOf_1 a0a a0ba a0bb a0c (nOf sn0 sc0) (colI sc0 0) (colI sc0 1)
    rotate_left
    · rfl
    rfl
  · cases h
/-! ### (bagatelle/solid.polygon).has -/
def G_sd_polygon_has : List (Nat × Ag.Spec) := [(42, .pure g_sd_turn), (45, .pure g_sd_polygon_edges)]
/-! range over a function sd_polygon_has_0 -/
def S_sd_polygon_has_0 (a0an : Nat) (a0aa : Nat → Int) (a0ab : Nat → Int) (a1a : Int) (a1b : Int)  : VS := ⟨slotsN 16 0 [(3, AV.ptr false 1 0 0), (4, AV.ptr false 2 0 0), (8, AV.fn 57 [AV.rp [AV.rs none (F_sd_polygon_edges_0 a0an a0aa a0ab) [CF.I .i64 (F_sd_polygon_edges_1 a0an a0aa a0ab), CF.I .i64 (F_sd_polygon_edges_2 a0an a0aa a0ab)]] 0])], [.gone, .one true 25 [AV.int .i64 a1a, AV.int .i64 a1b], .one true 4 [AV.bool false]], false, 0⟩
def X_sd_polygon_has_0_normal (a0an : Nat) (a0aa : Nat → Int) (a0ab : Nat → Int) (a1a : Int) (a1b : Int)  : VS := ⟨slotsN 16 0 [(3, AV.ptr false 1 0 0), (4, AV.ptr false 2 0 0), (8, AV.fn 57 [AV.rp [AV.rs none (F_sd_polygon_edges_0 a0an a0aa a0ab) [CF.I .i64 (F_sd_polygon_edges_1 a0an a0aa a0ab), CF.I .i64 (F_sd_polygon_edges_2 a0an a0aa a0ab)]] 0])], [.gone, .one true 25 [AV.int .i64 a1a, AV.int .i64 a1b], .one true 4 [AV.bool false]], true, 0⟩
def X_sd_polygon_has_0_ret (a0an : Nat) (a0aa : Nat → Int) (a0ab : Nat → Int) (a1a : Int) (a1b : Int)  : VS := ⟨slotsN 16 0 [(3, AV.ptr false 1 0 0), (4, AV.ptr false 2 0 0), (8, AV.fn 57 [AV.rp [AV.rs none (F_sd_polygon_edges_0 a0an a0aa a0ab) [CF.I .i64 (F_sd_polygon_edges_1 a0an a0aa a0ab), CF.I .i64 (F_sd_polygon_edges_2 a0an a0aa a0ab)]] 0])], [.gone, .one true 25 [AV.int .i64 a1a, AV.int .i64 a1b], .one true 4 [AV.bool false]], true, 0⟩
theorem N_sd_polygon_has_0 (a0an : Nat) (a0aa : Nat → Int) (a0ab : Nat → Int) (a1a : Int) (a1b : Int) (j0 : Nat)  (Qn : VS → Prop) (Q : Exit → VS → Prop) : vwp tab (envL G_sd_polygon_has) (fun _ _ _ => False) 0 (lasn (loopAt (bodyOf Try.f70) 0)) (⟨setPs [9, 10] [AV.agg [AV.int .i64 ((F_sd_polygon_edges_1 a0an a0aa a0ab) j0), AV.int .i64 ((F_sd_polygon_edges_2 a0an a0aa a0ab) j0)], AV.agg [AV.int .i64 ((F_sd_polygon_edges_1 a0an a0aa a0ab) (nxE (F_sd_polygon_edges_0 a0an a0aa a0ab) j0)), AV.int .i64 ((F_sd_polygon_edges_2 a0an a0aa a0ab) (nxE (F_sd_polygon_edges_0 a0an a0aa a0ab) j0))]] (S_sd_polygon_has_0 a0an a0aa a0ab a1a a1b ).tmps, (S_sd_polygon_has_0 a0an a0aa a0ab a1a a1b ).mem, false, 3⟩) (eNorm fun s1 => vwp tab (envL G_sd_polygon_has) (fun _ _ _ => False) 0 (lbody (loopAt (bodyOf Try.f70) 0)) s1 (RP (S_sd_polygon_has_0 a0an a0aa a0ab a1a a1b ).tmps 0 [1, 2] 3 Qn Q)) = B_sd_polygon_has_0 a0an a0aa a0ab a1a a1b j0  (Qn (S_sd_polygon_has_0 a0an a0aa a0ab a1a a1b )) (Q .ret (X_sd_polygon_has_0_ret a0an a0aa a0ab a1a a1b ))  := by kernel_rfl
theorem L_sd_polygon_has_0 {X : Cx} (hX : Std Try.prog tab (envL G_sd_polygon_has) X) (hrho : X.ρ = none) (b : Code) (hb : b = bodyOf Try.f70) (a0an : Nat) (a0aa : Nat → Int) (a0ab : Nat → Int) (a1a : Int) (a1b : Int)  (Q : Exit → VS → Prop) (h : PP_sd_polygon_has_0 a0an a0aa a0ab a1a a1b ∧ W_sd_polygon_has_0 a0an a0aa a0ab a1a a1b (NN_sd_polygon_has_0 a0an a0aa a0ab a1a a1b) 0  (Q .normal (X_sd_polygon_has_0_normal a0an a0aa a0ab a1a a1b )) (Q .ret (X_sd_polygon_has_0_ret a0an a0aa a0ab a1a a1b ))) : TrK X b 0 (S_sd_polygon_has_0 a0an a0aa a0ab a1a a1b ) Q := by
  subst hb
  have hit : IterSpec X.P 57 gi_edges := by rw [hX.P]; exact iter_edges
  have hb2 : loopAt (bodyOf Try.f70) 0 = .rangeFunc (.tmp 8) #[9, 10] (lasn (loopAt (bodyOf Try.f70) 0)) (lbody (loopAt (bodyOf Try.f70) 0)) := by kernel_rfl
  refine rf_ok hrho hb2 (V := Unit) (fun v => S_sd_polygon_has_0 a0an a0aa a0ab a1a a1b ) (t := (S_sd_polygon_has_0 a0an a0aa a0ab a1a a1b ).tmps) (pn := 0) (nm := 3) (ms := [1, 2]) (fun v => ⟨rfl, rfl, rfl, rfl⟩) hit () rfl rfl (N := NN_sd_polygon_has_0 a0an a0aa a0ab a1a a1b) (args := fun j0 => [AV.agg [AV.int .i64 ((F_sd_polygon_edges_1 a0an a0aa a0ab) j0), AV.int .i64 ((F_sd_polygon_edges_2 a0an a0aa a0ab) j0)], AV.agg [AV.int .i64 ((F_sd_polygon_edges_1 a0an a0aa a0ab) (nxE (F_sd_polygon_edges_0 a0an a0aa a0ab) j0)), AV.int .i64 ((F_sd_polygon_edges_2 a0an a0aa a0ab) (nxE (F_sd_polygon_edges_0 a0an a0aa a0ab) j0))]]) (p := PP_sd_polygon_has_0 a0an a0aa a0ab a1a a1b) rfl h.1 (fun _ => rfl) (fun r j v => W_sd_polygon_has_0 a0an a0aa a0ab a1a a1b r j  (Q .normal (X_sd_polygon_has_0_normal a0an a0aa a0ab a1a a1b )) (Q .ret (X_sd_polygon_has_0_ret a0an a0aa a0ab a1a a1b ))) (fun r j v hv => ?_) (fun j v hv => ?_) h.2
  · refine rf_round hX (c1 := (lasn (loopAt (bodyOf Try.f70) 0))) (c2 := (lbody (loopAt (bodyOf Try.f70) 0))) rfl rfl (tr := (fun _ _ _ => False)) (fun _ _ _ _ _ h => h.elim) ?_
    refine Eq.mpr (N_sd_polygon_has_0 a0an a0aa a0ab a1a a1b j  _ _) ?_
    exact BM_sd_polygon_has_0 a0an a0aa a0ab a1a a1b j  (fun h => ⟨(), rfl, h⟩) (fun h => h) hv
  · exact hv
def T_sd_polygon_has (a0an : Nat) (a0aa : Nat → Int) (a0ab : Nat → Int) (a1a : Int) (a1b : Int) (k : Nat) (st : VS) (Q : Exit → VS → Prop) : Prop := match k with
  | 0 => TL [3, 4, 8] [1, 2] 3 (convs st []) (fun st => S_sd_polygon_has_0 a0an a0aa a0ab a1a a1b ) (fun st => PP_sd_polygon_has_0 a0an a0aa a0ab a1a a1b  ∧ W_sd_polygon_has_0 a0an a0aa a0ab a1a a1b  (NN_sd_polygon_has_0 a0an a0aa a0ab a1a a1b ) 0  (Q .normal (X_sd_polygon_has_0_normal a0an a0aa a0ab a1a a1b  )) (Q .ret (X_sd_polygon_has_0_ret a0an a0aa a0ab a1a a1b  )))
  | _ => False
theorem TS_sd_polygon_has {X : Cx} (hX : Std Try.prog tab (envL G_sd_polygon_has) X) (hrho : X.ρ = none) (b : Code) (hb : b = bodyOf Try.f70) (a0an : Nat) (a0aa : Nat → Int) (a0ab : Nat → Int) (a1a : Int) (a1b : Int) (j : Nat) (st : VS) (Q : Exit → VS → Prop) (h : T_sd_polygon_has a0an a0aa a0ab a1a a1b j st Q) : TrK X b j st Q := by
  unfold T_sd_polygon_has at h
  split at h
  · exact TL_ok h (fun h' => L_sd_polygon_has_0 hX hrho b hb a0an a0aa a0ab a1a a1b  Q h')
  · exact h.elim
def as_sd_polygon_has (a0an : Nat) (a0aa : Nat → Int) (a0ab : Nat → Int) (a1a : Int) (a1b : Int) : List AV := [AV.agg [AV.rs none a0an [CF.I .i64 a0aa, CF.I .i64 a0ab]], AV.agg [AV.int .i64 a1a, AV.int .i64 a1b]]
theorem N_sd_polygon_has (a0an : Nat) (a0aa : Nat → Int) (a0ab : Nat → Int) (a1a : Int) (a1b : Int) (K : AV → Prop) : vwp tab (envL G_sd_polygon_has) (T_sd_polygon_has a0an a0aa a0ab a1a a1b) 0 (bodyOf Try.f70) (entry (as_sd_polygon_has a0an a0aa a0ab a1a a1b) 16) (fnPost tab [.cell 4 4] fun v s => K (v.frz s.mem)) = B_sd_polygon_has a0an a0aa a0ab a1a a1b (fun r0 => K (AV.bool r0)) (fun y0 y1 => S_sd_polygon_has_0 a0an a0aa a0ab a1a a1b   = S_sd_polygon_has_0 a0an a0aa a0ab a1a a1b   ∧ PP_sd_polygon_has_0 a0an a0aa a0ab a1a a1b  ∧ W_sd_polygon_has_0 a0an a0aa a0ab a1a a1b  (NN_sd_polygon_has_0 a0an a0aa a0ab a1a a1b ) 0  y0 y1) := by kernel_rfl
theorem BL_sd_polygon_has (a0an : Nat) (a0aa : Nat → Int) (a0ab : Nat → Int) (a1a : Int) (a1b : Int) {K0 : Bool → Prop} : B_sd_polygon_has a0an a0aa a0ab a1a a1b K0 (fun y0 y1 => PP_sd_polygon_has_0 a0an a0aa a0ab a1a a1b  ∧ W_sd_polygon_has_0 a0an a0aa a0ab a1a a1b  (NN_sd_polygon_has_0 a0an a0aa a0ab a1a a1b ) 0  y0 y1) → B_sd_polygon_has a0an a0aa a0ab a1a a1b K0 (fun y0 y1 => S_sd_polygon_has_0 a0an a0aa a0ab a1a a1b   = S_sd_polygon_has_0 a0an a0aa a0ab a1a a1b   ∧ PP_sd_polygon_has_0 a0an a0aa a0ab a1a a1b  ∧ W_sd_polygon_has_0 a0an a0aa a0ab a1a a1b  (NN_sd_polygon_has_0 a0an a0aa a0ab a1a a1b ) 0  y0 y1) := by
  unfold B_sd_polygon_has
  repeat' first
    | exact id
    | refine Ts_imp ?_
    | refine cond_imp ?_ ?_
    | refine and_imp' ?_
    | refine fun h => ⟨rfl, h.1, WM_sd_polygon_has_0 _ _ _ _ _  ?_ ?_ _ _  h.2⟩
def g_sd_polygon_has : List AV → Option (Prop × RT)
  | [AV.agg [AV.rs sq0 sn0 sc0], AV.agg [AV.int .i64 a1a, AV.int .i64 a1b]] => cond (kindsOK [KC.I .i64, KC.I .i64] sc0) (some (P_sd_polygon_has (nOf sn0 sc0) (colI sc0 0) (colI sc0 1) a1a a1b, RT.leaf (AV.bool (F_sd_polygon_has_0 (nOf sn0 sc0) (colI sc0 0) (colI sc0 1) a1a a1b)))) none
  | _ => none
theorem S_sd_polygon_has : SpecOK Try.prog 70 (.pure g_sd_polygon_has) := by
  intro xs p r h hp E w vs hr hv
  unfold g_sd_polygon_has at h
  split at h
  · rename_i sq0 sn0 sc0 a1a a1b
    have hk0 : kindsOK [KC.I .i64, KC.I .i64] sc0 = true := by
      cases hh : kindsOK [KC.I .i64, KC.I .i64] sc0 with
      | true => rfl
      | false => rw [hh] at h; cases h
    rw [hk0, cond_true] at h
    simp only [Option.some.injEq, Prod.mk.injEq] at h
    obtain ⟨rfl, rfl⟩ := h
    have hG : SpecsOK Try.prog G_sd_polygon_has := ⟨S_sd_turn, S_sd_polygon_edges, trivial⟩
    have hv' : VRs E.bare (as_sd_polygon_has (nOf sn0 sc0) (colI sc0 0) (colI sc0 1) a1a a1b) vs := (AV.les.cons (AV.le.agg (AV.les.cons (AV.le.rs hk0) AV.les.nil)) (AV.les.cons (AV.le.refl _) AV.les.nil)) _ _ hv
    refine walk_pure' (f := 70) (fn := Try.f70) (c := bodyOf Try.f70) (rs := [.cell 4 4]) (ys := as_sd_polygon_has (nOf sn0 sc0) (colI sc0 0) (colI sc0 1) a1a a1b) tab_ok (envL_ok hG) Try.func70 rfl (by kernel_rfl) rfl (by decide) (fun X hX hrho => ?_) E w vs hr hv'
    rw [Try.ntmps70]
    refine vwp_std hX rfl (tr := T_sd_polygon_has (nOf sn0 sc0) (colI sc0 0) (colI sc0 1) a1a a1b) (fun j st Q h => TS_sd_polygon_has hX hrho _ rfl (nOf sn0 sc0) (colI sc0 0) (colI sc0 1) a1a a1b j st Q h) ?_
    refine Eq.mpr (N_sd_polygon_has (nOf sn0 sc0) (colI sc0 0) (colI sc0 1) a1a a1b (fun x => x = _)) ?_
    exact BL_sd_polygon_has (nOf sn0 sc0) (colI sc0 0) (colI sc0 1) a1a a1b (H_sd_polygon_has (nOf sn0 sc0) (colI sc0 0) (colI sc0 1) a1a a1b hp rfl)
  · cases h
/-! ### bagatelle/solid.dot -/
def G_sd_dot : List (Nat × Ag.Spec) := []
def as_sd_dot (a0a : Int) (a0b : Int) (a1a : Int) (a1b : Int) : List AV := [AV.agg [AV.int .i64 a0a, AV.int .i64 a0b], AV.agg [AV.int .i64 a1a, AV.int .i64 a1b]]
theorem N_sd_dot (a0a : Int) (a0b : Int) (a1a : Int) (a1b : Int) (K : AV → Prop) : vwp tab (envL G_sd_dot) (fun _ _ _ => False) 0 (bodyOf Try.f69) (entry (as_sd_dot a0a a0b a1a a1b) 16) (fnPost tab [.tmp 4] fun v s => K (v.frz s.mem)) = B_sd_dot a0a a0b a1a a1b (fun r0 => K (AV.int .i64 r0))  := by kernel_rfl
def g_sd_dot : List AV → Option (Prop × RT)
  | [AV.agg [AV.int .i64 a0a, AV.int .i64 a0b], AV.agg [AV.int .i64 a1a, AV.int .i64 a1b]] => some (P_sd_dot a0a a0b a1a a1b, RT.leaf (AV.int .i64 (F_sd_dot_0 a0a a0b a1a a1b)))
  | _ => none
theorem S_sd_dot : SpecOK Try.prog 69 (.pure g_sd_dot) := by
  intro xs p r h hp E w vs hr hv
  unfold g_sd_dot at h
  split at h
  · rename_i a0a a0b a1a a1b
    simp only [Option.some.injEq, Prod.mk.injEq] at h
    obtain ⟨rfl, rfl⟩ := h
    have hG : SpecsOK Try.prog G_sd_dot := trivial
    refine walk_pure' (f := 69) (fn := Try.f69) (c := bodyOf Try.f69) (rs := [.tmp 4]) (ys := as_sd_dot a0a a0b a1a a1b) tab_ok (envL_ok hG) Try.func69 rfl (by kernel_rfl) rfl (by decide) (fun X hX hrho => ?_) E w vs hr hv
    rw [Try.ntmps69]
    refine vwp_std hX rfl (tr := fun _ _ _ => False) (fun _ _ _ h => h.elim) ?_
    refine Eq.mpr (N_sd_dot a0a a0b a1a a1b (fun x => x = _)) ?_
    exact H_sd_dot a0a a0b a1a a1b hp rfl
  · cases h
/-! ### (bagatelle/solid.disc).has -/
def G_sd_disc_has : List (Nat × Ag.Spec) := [(56, .pure g_sd_way), (69, .pure g_sd_dot)]
def as_sd_disc_has (a0aa : Int) (a0ab : Int) (a0b : Int) (a1a : Int) (a1b : Int) : List AV := [AV.agg [AV.int .i64 a0aa, AV.int .i64 a0ab, AV.int .i64 a0b], AV.agg [AV.int .i64 a1a, AV.int .i64 a1b]]
theorem N_sd_disc_has (a0aa : Int) (a0ab : Int) (a0b : Int) (a1a : Int) (a1b : Int) (K : AV → Prop) : vwp tab (envL G_sd_disc_has) (fun _ _ _ => False) 0 (bodyOf Try.f139) (entry (as_sd_disc_has a0aa a0ab a0b a1a a1b) 19) (fnPost tab [.tmp 4] fun v s => K (v.frz s.mem)) = B_sd_disc_has a0aa a0ab a0b a1a a1b (fun r0 => K (AV.bool r0))  := by kernel_rfl
def g_sd_disc_has : List AV → Option (Prop × RT)
  | [AV.agg [AV.int .i64 a0aa, AV.int .i64 a0ab, AV.int .i64 a0b], AV.agg [AV.int .i64 a1a, AV.int .i64 a1b]] => some (P_sd_disc_has a0aa a0ab a0b a1a a1b, RT.leaf (AV.bool (F_sd_disc_has_0 a0aa a0ab a0b a1a a1b)))
  | _ => none
theorem S_sd_disc_has : SpecOK Try.prog 139 (.pure g_sd_disc_has) := by
  intro xs p r h hp E w vs hr hv
  unfold g_sd_disc_has at h
  split at h
  · rename_i a0aa a0ab a0b a1a a1b
    simp only [Option.some.injEq, Prod.mk.injEq] at h
    obtain ⟨rfl, rfl⟩ := h
    have hG : SpecsOK Try.prog G_sd_disc_has := ⟨S_sd_way, S_sd_dot, trivial⟩
    refine walk_pure' (f := 139) (fn := Try.f139) (c := bodyOf Try.f139) (rs := [.tmp 4]) (ys := as_sd_disc_has a0aa a0ab a0b a1a a1b) tab_ok (envL_ok hG) Try.func139 rfl (by kernel_rfl) rfl (by decide) (fun X hX hrho => ?_) E w vs hr hv
    rw [Try.ntmps139]
    refine vwp_std hX rfl (tr := fun _ _ _ => False) (fun _ _ _ h => h.elim) ?_
    refine Eq.mpr (N_sd_disc_has a0aa a0ab a0b a1a a1b (fun x => x = _)) ?_
    exact H_sd_disc_has a0aa a0ab a0b a1a a1b hp rfl
  · cases h
/-! ### bagatelle/solid.Holds -/
def G_sd_Holds : List (Nat × Ag.Spec) := [(39, .pure g_sd_fair), (46, .pure g_sd_figureOf), (70, .pure g_sd_polygon_has), (139, .pure g_sd_disc_has)]
def as_sd_Holds (a0a : Int) (a0ba : Int) (a0bb : Int) (a0c : Int) (a0dn : Nat) (a0da : Nat → Int) (a0db : Nat → Int) (a1a : Int) (a1b : Int) : List AV := [AV.agg [AV.int .i64 a0a, AV.int .i64 a0ba, AV.int .i64 a0bb, AV.int .i64 a0c, AV.rs none a0dn [CF.I .i64 a0da, CF.I .i64 a0db]], AV.agg [AV.int .i64 a1a, AV.int .i64 a1b]]
theorem N_sd_Holds (a0a : Int) (a0ba : Int) (a0bb : Int) (a0c : Int) (a0dn : Nat) (a0da : Nat → Int) (a0db : Nat → Int) (a1a : Int) (a1b : Int) (K : AV → Prop) : vwp tab (envL G_sd_Holds) (fun _ _ _ => False) 0 (bodyOf Try.f30) (entry (as_sd_Holds a0a a0ba a0bb a0c a0dn a0da a0db a1a a1b) 20) (fnPost tab [.tmp 4] fun v s => K (v.frz s.mem)) = B_sd_Holds a0a a0ba a0bb a0c a0dn a0da a0db a1a a1b (fun r0 => K (AV.bool r0))  := by kernel_rfl
def g_sd_Holds : List AV → Option (Prop × RT)
  | [AV.agg [AV.int .i64 a0a, AV.int .i64 a0ba, AV.int .i64 a0bb, AV.int .i64 a0c, AV.rs sq0 sn0 sc0], AV.agg [AV.int .i64 a1a, AV.int .i64 a1b]] => cond (kindsOK [KC.I .i64, KC.I .i64] sc0) (some (P_sd_Holds a0a a0ba a0bb a0c (nOf sn0 sc0) (colI sc0 0) (colI sc0 1) a1a a1b, RT.leaf (AV.bool (F_sd_Holds_0 a0a a0ba a0bb a0c (nOf sn0 sc0) (colI sc0 0) (colI sc0 1) a1a a1b)))) none
  | _ => none
theorem S_sd_Holds : SpecOK Try.prog 30 (.pure g_sd_Holds) := by
  intro xs p r h hp E w vs hr hv
  unfold g_sd_Holds at h
  split at h
  · rename_i a0a a0ba a0bb a0c sq0 sn0 sc0 a1a a1b
    have hk0 : kindsOK [KC.I .i64, KC.I .i64] sc0 = true := by
      cases hh : kindsOK [KC.I .i64, KC.I .i64] sc0 with
      | true => rfl
      | false => rw [hh] at h; cases h
    rw [hk0, cond_true] at h
    simp only [Option.some.injEq, Prod.mk.injEq] at h
    obtain ⟨rfl, rfl⟩ := h
    have hG : SpecsOK Try.prog G_sd_Holds := ⟨S_sd_fair, S_sd_figureOf, S_sd_polygon_has, S_sd_disc_has, trivial⟩
    have hv' : VRs E.bare (as_sd_Holds a0a a0ba a0bb a0c (nOf sn0 sc0) (colI sc0 0) (colI sc0 1) a1a a1b) vs := (AV.les.cons (AV.le.agg (AV.les.cons (AV.le.refl _) (AV.les.cons (AV.le.refl _) (AV.les.cons (AV.le.refl _) (AV.les.cons (AV.le.refl _) (AV.les.cons (AV.le.rs hk0) AV.les.nil)))))) (AV.les.cons (AV.le.refl _) AV.les.nil)) _ _ hv
    refine walk_pure' (f := 30) (fn := Try.f30) (c := bodyOf Try.f30) (rs := [.tmp 4]) (ys := as_sd_Holds a0a a0ba a0bb a0c (nOf sn0 sc0) (colI sc0 0) (colI sc0 1) a1a a1b) tab_ok (envL_ok hG) Try.func30 rfl (by kernel_rfl) rfl (by decide) (fun X hX hrho => ?_) E w vs hr hv'
    rw [Try.ntmps30]
    refine vwp_std hX rfl (tr := fun _ _ _ => False) (fun _ _ _ h => h.elim) ?_
    refine Eq.mpr (N_sd_Holds a0a a0ba a0bb a0c (nOf sn0 sc0) (colI sc0 0) (colI sc0 1) a1a a1b (fun x => x = _)) ?_
    exact H_sd_Holds a0a a0ba a0bb a0c (nOf sn0 sc0) (colI sc0 0) (colI sc0 1) a1a a1b hp rfl
  · cases h
/-! ### bagatelle/bagatelleref03.valid -/
def G_r3_valid : List (Nat × Ag.Spec) := []
def as_r3_valid (a0a : Int) (a0b : Int) : List AV := [AV.agg [AV.int .i64 a0a, AV.int .i64 a0b]]
theorem N_r3_valid (a0a : Int) (a0b : Int) (K : AV → Prop) : vwp tab (envL G_r3_valid) (fun _ _ _ => False) 0 (bodyOf Try.f40) (entry (as_r3_valid a0a a0b) 21) (fnPost tab [.tmp 2] fun v s => K (v.frz s.mem)) = B_r3_valid a0a a0b (fun r0 => K (AV.bool r0))  := by kernel_rfl
def g_r3_valid : List AV → Option (Prop × RT)
  | [AV.agg [AV.int .i64 a0a, AV.int .i64 a0b]] => some (P_r3_valid a0a a0b, RT.leaf (AV.bool (F_r3_valid_0 a0a a0b)))
  | _ => none
theorem S_r3_valid : SpecOK Try.prog 40 (.pure g_r3_valid) := by
  intro xs p r h hp E w vs hr hv
  unfold g_r3_valid at h
  split at h
  · rename_i a0a a0b
    simp only [Option.some.injEq, Prod.mk.injEq] at h
    obtain ⟨rfl, rfl⟩ := h
    have hG : SpecsOK Try.prog G_r3_valid := trivial
    refine walk_pure' (f := 40) (fn := Try.f40) (c := bodyOf Try.f40) (rs := [.tmp 2]) (ys := as_r3_valid a0a a0b) tab_ok (envL_ok hG) Try.func40 rfl (by kernel_rfl) rfl (by decide) (fun X hX hrho => ?_) E w vs hr hv
    rw [Try.ntmps40]
    refine vwp_std hX rfl (tr := fun _ _ _ => False) (fun _ _ _ h => h.elim) ?_
    refine Eq.mpr (N_r3_valid a0a a0b (fun x => x = _)) ?_
    exact H_r3_valid a0a a0b hp rfl
  · cases h
/-! ### bagatelle/bagatelleref03.CheckBox -/
def G_r3_CheckBox : List (Nat × Ag.Spec) := [(40, .pure g_r3_valid)]
def as_r3_CheckBox (a0a : Int) (a0b : Int) (a0c : Int) (a0d : Int) : List AV := [AV.agg [AV.int .i64 a0a, AV.int .i64 a0b, AV.int .i64 a0c, AV.int .i64 a0d]]
theorem N_r3_CheckBox (a0a : Int) (a0b : Int) (a0c : Int) (a0d : Int) (K : AV → Prop) : vwp tab (envL G_r3_CheckBox) (fun _ _ _ => False) 0 (bodyOf Try.f11) (entry (as_r3_CheckBox a0a a0b a0c a0d) 31) (fnPost tab [.tmp 2] fun v s => K (v.frz s.mem)) = B_r3_CheckBox a0a a0b a0c a0d (fun r0 => K (AV.int .i64 r0))  := by kernel_rfl
def g_r3_CheckBox : List AV → Option (Prop × RT)
  | [AV.agg [AV.int .i64 a0a, AV.int .i64 a0b, AV.int .i64 a0c, AV.int .i64 a0d]] => some (P_r3_CheckBox a0a a0b a0c a0d, RT.leaf (AV.int .i64 (F_r3_CheckBox_0 a0a a0b a0c a0d)))
  | _ => none
theorem S_r3_CheckBox : SpecOK Try.prog 11 (.pure g_r3_CheckBox) := by
  intro xs p r h hp E w vs hr hv
  unfold g_r3_CheckBox at h
  split at h
  · rename_i a0a a0b a0c a0d
    simp only [Option.some.injEq, Prod.mk.injEq] at h
    obtain ⟨rfl, rfl⟩ := h
    have hG : SpecsOK Try.prog G_r3_CheckBox := ⟨S_r3_valid, trivial⟩
    refine walk_pure' (f := 11) (fn := Try.f11) (c := bodyOf Try.f11) (rs := [.tmp 2]) (ys := as_r3_CheckBox a0a a0b a0c a0d) tab_ok (envL_ok hG) Try.func11 rfl (by kernel_rfl) rfl (by decide) (fun X hX hrho => ?_) E w vs hr hv
    rw [Try.ntmps11]
    refine vwp_std hX rfl (tr := fun _ _ _ => False) (fun _ _ _ h => h.elim) ?_
    refine Eq.mpr (N_r3_CheckBox a0a a0b a0c a0d (fun x => x = _)) ?_
    exact H_r3_CheckBox a0a a0b a0c a0d hp rfl
  · cases h
/-! ### bagatelle/bagatelleref03.cross -/
def G_r3_cross : List (Nat × Ag.Spec) := []
def as_r3_cross (a0a : Int) (a0b : Int) (a1a : Int) (a1b : Int) : List AV := [AV.agg [AV.int .i64 a0a, AV.int .i64 a0b], AV.agg [AV.int .i64 a1a, AV.int .i64 a1b]]
theorem N_r3_cross (a0a : Int) (a0b : Int) (a1a : Int) (a1b : Int) (K : AV → Prop) : vwp tab (envL G_r3_cross) (fun _ _ _ => False) 0 (bodyOf Try.f43) (entry (as_r3_cross a0a a0b a1a a1b) 16) (fnPost tab [.tmp 4] fun v s => K (v.frz s.mem)) = B_r3_cross a0a a0b a1a a1b (fun r0 => K (AV.int .i64 r0))  := by kernel_rfl
def g_r3_cross : List AV → Option (Prop × RT)
  | [AV.agg [AV.int .i64 a0a, AV.int .i64 a0b], AV.agg [AV.int .i64 a1a, AV.int .i64 a1b]] => some (P_r3_cross a0a a0b a1a a1b, RT.leaf (AV.int .i64 (F_r3_cross_0 a0a a0b a1a a1b)))
  | _ => none
theorem S_r3_cross : SpecOK Try.prog 43 (.pure g_r3_cross) := by
  intro xs p r h hp E w vs hr hv
  unfold g_r3_cross at h
  split at h
  · rename_i a0a a0b a1a a1b
    simp only [Option.some.injEq, Prod.mk.injEq] at h
    obtain ⟨rfl, rfl⟩ := h
    have hG : SpecsOK Try.prog G_r3_cross := trivial
    refine walk_pure' (f := 43) (fn := Try.f43) (c := bodyOf Try.f43) (rs := [.tmp 4]) (ys := as_r3_cross a0a a0b a1a a1b) tab_ok (envL_ok hG) Try.func43 rfl (by kernel_rfl) rfl (by decide) (fun X hX hrho => ?_) E w vs hr hv
    rw [Try.ntmps43]
    refine vwp_std hX rfl (tr := fun _ _ _ => False) (fun _ _ _ h => h.elim) ?_
    refine Eq.mpr (N_r3_cross a0a a0b a1a a1b (fun x => x = _)) ?_
    exact H_r3_cross a0a a0b a1a a1b hp rfl
  · cases h
/-! ### bagatelle/bagatelleref03.minus -/
def G_r3_minus : List (Nat × Ag.Spec) := []
def as_r3_minus (a0a : Int) (a0b : Int) (a1a : Int) (a1b : Int) : List AV := [AV.agg [AV.int .i64 a0a, AV.int .i64 a0b], AV.agg [AV.int .i64 a1a, AV.int .i64 a1b]]
theorem N_r3_minus (a0a : Int) (a0b : Int) (a1a : Int) (a1b : Int) (K : AV → Prop) : vwp tab (envL G_r3_minus) (fun _ _ _ => False) 0 (bodyOf Try.f44) (entry (as_r3_minus a0a a0b a1a a1b) 16) (fnPost tab [.cell 4 25] fun v s => K (v.frz s.mem)) = B_r3_minus a0a a0b a1a a1b (fun r0 r1 => K (AV.agg [AV.int .i64 r0, AV.int .i64 r1]))  := by kernel_rfl
def g_r3_minus : List AV → Option (Prop × RT)
  | [AV.agg [AV.int .i64 a0a, AV.int .i64 a0b], AV.agg [AV.int .i64 a1a, AV.int .i64 a1b]] => some (P_r3_minus a0a a0b a1a a1b, RT.leaf (AV.agg [AV.int .i64 (F_r3_minus_0 a0a a0b a1a a1b), AV.int .i64 (F_r3_minus_1 a0a a0b a1a a1b)]))
  | _ => none
theorem S_r3_minus : SpecOK Try.prog 44 (.pure g_r3_minus) := by
  intro xs p r h hp E w vs hr hv
  unfold g_r3_minus at h
  split at h
  · rename_i a0a a0b a1a a1b
    simp only [Option.some.injEq, Prod.mk.injEq] at h
    obtain ⟨rfl, rfl⟩ := h
    have hG : SpecsOK Try.prog G_r3_minus := trivial
    refine walk_pure' (f := 44) (fn := Try.f44) (c := bodyOf Try.f44) (rs := [.cell 4 25]) (ys := as_r3_minus a0a a0b a1a a1b) tab_ok (envL_ok hG) Try.func44 rfl (by kernel_rfl) rfl (by decide) (fun X hX hrho => ?_) E w vs hr hv
    rw [Try.ntmps44]
    refine vwp_std hX rfl (tr := fun _ _ _ => False) (fun _ _ _ h => h.elim) ?_
    refine Eq.mpr (N_r3_minus a0a a0b a1a a1b (fun x => x = _)) ?_
    exact H_r3_minus a0a a0b a1a a1b hp rfl
  · cases h
/-! ### bagatelle/bagatelleref03.Side -/
def G_r3_Side : List (Nat × Ag.Spec) := [(40, .pure g_r3_valid), (43, .pure g_r3_cross), (44, .pure g_r3_minus)]
def as_r3_Side (a0a : Int) (a0b : Int) (a1a : Int) (a1b : Int) (a2a : Int) (a2b : Int) : List AV := [AV.agg [AV.int .i64 a0a, AV.int .i64 a0b], AV.agg [AV.int .i64 a1a, AV.int .i64 a1b], AV.agg [AV.int .i64 a2a, AV.int .i64 a2b]]
theorem N_r3_Side (a0a : Int) (a0b : Int) (a1a : Int) (a1b : Int) (a2a : Int) (a2b : Int) (K : AV → Prop) : vwp tab (envL G_r3_Side) (fun _ _ _ => False) 0 (bodyOf Try.f24) (entry (as_r3_Side a0a a0b a1a a1b a2a a2b) 32) (fnPost tab [.tmp 6] fun v s => K (v.frz s.mem)) = B_r3_Side a0a a0b a1a a1b a2a a2b (fun r0 => K (AV.int .i64 r0))  := by kernel_rfl
def g_r3_Side : List AV → Option (Prop × RT)
  | [AV.agg [AV.int .i64 a0a, AV.int .i64 a0b], AV.agg [AV.int .i64 a1a, AV.int .i64 a1b], AV.agg [AV.int .i64 a2a, AV.int .i64 a2b]] => some (P_r3_Side a0a a0b a1a a1b a2a a2b, RT.leaf (AV.int .i64 (F_r3_Side_0 a0a a0b a1a a1b a2a a2b)))
  | _ => none
theorem S_r3_Side : SpecOK Try.prog 24 (.pure g_r3_Side) := by
  intro xs p r h hp E w vs hr hv
  unfold g_r3_Side at h
  split at h
  · rename_i a0a a0b a1a a1b a2a a2b
    simp only [Option.some.injEq, Prod.mk.injEq] at h
    obtain ⟨rfl, rfl⟩ := h
    have hG : SpecsOK Try.prog G_r3_Side := ⟨S_r3_valid, S_r3_cross, S_r3_minus, trivial⟩
    refine walk_pure' (f := 24) (fn := Try.f24) (c := bodyOf Try.f24) (rs := [.tmp 6]) (ys := as_r3_Side a0a a0b a1a a1b a2a a2b) tab_ok (envL_ok hG) Try.func24 rfl (by kernel_rfl) rfl (by decide) (fun X hX hrho => ?_) E w vs hr hv
    rw [Try.ntmps24]
    refine vwp_std hX rfl (tr := fun _ _ _ => False) (fun _ _ _ h => h.elim) ?_
    refine Eq.mpr (N_r3_Side a0a a0b a1a a1b a2a a2b (fun x => x = _)) ?_
    exact H_r3_Side a0a a0b a1a a1b a2a a2b hp rfl
  · cases h
/-! ### bagatelle/bagatelleref03.Convex -/
def G_r3_Convex : List (Nat × Ag.Spec) := [(24, .pure g_r3_Side), (40, .pure g_r3_valid)]
/-! loop r3_Convex_0_0 -/
def S_r3_Convex_0_0 (a0n : Nat) (a0a : Nat → Int) (a0b : Nat → Int) (v0t3 : Int) (v00t5 : Int) : VS := ⟨slotsN 58 0 [(0, AV.rs none a0n [CF.I .i64 a0a, CF.I .i64 a0b]), (2, AV.bool false), (3, AV.int .i64 v0t3), (4, AV.int .i64 (irem .i64 (iadd .i64 v0t3 1) ((a0n : Nat) : Int))), (5, AV.int .i64 v00t5), (9, AV.int .i64 v0t3), (10, AV.rs none a0n [CF.I .i64 a0a, CF.I .i64 a0b]), (11, AV.int .i64 ((a0n : Nat) : Int)), (12, AV.bool true), (15, AV.int .i64 v0t3), (16, AV.int .i64 (iadd .i64 v0t3 1)), (17, AV.rs none a0n [CF.I .i64 a0a, CF.I .i64 a0b]), (18, AV.int .i64 ((a0n : Nat) : Int)), (19, AV.int .i64 (irem .i64 (iadd .i64 v0t3 1) ((a0n : Nat) : Int)))], [], false, 0⟩
def X_r3_Convex_0_0_exit2 (a0n : Nat) (a0a : Nat → Int) (a0b : Nat → Int) (v0t3 : Int) (o0 : Int) : VS := ⟨slotsN 58 0 [(0, AV.rs none a0n [CF.I .i64 a0a, CF.I .i64 a0b]), (2, AV.bool false), (3, AV.int .i64 v0t3), (4, AV.int .i64 (irem .i64 (iadd .i64 v0t3 1) ((a0n : Nat) : Int))), (5, AV.int .i64 o0), (9, AV.int .i64 v0t3), (10, AV.rs none a0n [CF.I .i64 a0a, CF.I .i64 a0b]), (11, AV.int .i64 ((a0n : Nat) : Int)), (12, AV.bool true), (15, AV.int .i64 v0t3), (16, AV.int .i64 (iadd .i64 v0t3 1)), (17, AV.rs none a0n [CF.I .i64 a0a, CF.I .i64 a0b]), (18, AV.int .i64 ((a0n : Nat) : Int)), (19, AV.int .i64 (irem .i64 (iadd .i64 v0t3 1) ((a0n : Nat) : Int)))], [], false, 0⟩
def X_r3_Convex_0_0_ret (a0n : Nat) (a0a : Nat → Int) (a0b : Nat → Int) (v0t3 : Int) (o0 : Int) : VS := ⟨slotsN 58 0 [(0, AV.rs none a0n [CF.I .i64 a0a, CF.I .i64 a0b]), (2, AV.bool false), (3, AV.int .i64 v0t3), (4, AV.int .i64 (irem .i64 (iadd .i64 v0t3 1) ((a0n : Nat) : Int))), (5, AV.int .i64 o0), (9, AV.int .i64 v0t3), (10, AV.rs none a0n [CF.I .i64 a0a, CF.I .i64 a0b]), (11, AV.int .i64 ((a0n : Nat) : Int)), (12, AV.bool true), (15, AV.int .i64 v0t3), (16, AV.int .i64 (iadd .i64 v0t3 1)), (17, AV.rs none a0n [CF.I .i64 a0a, CF.I .i64 a0b]), (18, AV.int .i64 ((a0n : Nat) : Int)), (19, AV.int .i64 (irem .i64 (iadd .i64 v0t3 1) ((a0n : Nat) : Int)))], [], false, 0⟩
theorem N_r3_Convex_0_0 (a0n : Nat) (a0a : Nat → Int) (a0b : Nat → Int) (v0t3 : Int) (v00t5 : Int) (Q : Exit → VS → Prop) : vwp tab (envL G_r3_Convex) (fun _ _ _ => False) 0 (lbody (loopAt ((lbody (loopAt (bodyOf Try.f26) 0))) 0)) (S_r3_Convex_0_0 a0n a0a a0b v0t3 v00t5) (QM [0, 2, 3, 4, 5, 9, 10, 11, 12, 15, 16, 17, 18, 19] [] 0 Q) = B_r3_Convex_0_0 a0n a0a a0b v0t3 v00t5 (fun w0 => Q .normal (S_r3_Convex_0_0 a0n a0a a0b v0t3 w0)) (fun o0 => Q (.exit 2) (X_r3_Convex_0_0_exit2 a0n a0a a0b v0t3 o0)) (fun o0 => Q .ret (X_r3_Convex_0_0_ret a0n a0a a0b v0t3 o0))  := by kernel_rfl
theorem L_r3_Convex_0_0 {X : Cx} (hX : Std Try.prog tab (envL G_r3_Convex) X) (b : Code) (hb : b = (lbody (loopAt (bodyOf Try.f26) 0))) (a0n : Nat) (a0a : Nat → Int) (a0b : Nat → Int) (v0t3 : Int) (fu : Nat) (v00t5 : Int) (Q : Exit → VS → Prop) (h : W_r3_Convex_0_0 a0n a0a a0b v0t3 fu v00t5 (fun o0 => Q (.exit 2) (X_r3_Convex_0_0_exit2 a0n a0a a0b v0t3 o0)) (fun o0 => Q .ret (X_r3_Convex_0_0_ret a0n a0a a0b v0t3 o0))) : TrK X b 0 (S_r3_Convex_0_0 a0n a0a a0b v0t3 v00t5) Q := by
  subst hb
  refine loop_ok (V := Int) (fun v => S_r3_Convex_0_0 a0n a0a a0b v0t3 v) (fun f v => W_r3_Convex_0_0 a0n a0a a0b v0t3 f v (fun o0 => Q (.exit 2) (X_r3_Convex_0_0_exit2 a0n a0a a0b v0t3 o0)) (fun o0 => Q .ret (X_r3_Convex_0_0_ret a0n a0a a0b v0t3 o0))) (fun _ h => h) (by kernel_rfl) (fun f v hv => ?_) (fuel := fu) (v0 := (v00t5)) h
  refine QM_ok (bs := [0, 2, 3, 4, 5, 9, 10, 11, 12, 15, 16, 17, 18, 19]) (ms := []) (nm := 0) ?_
  refine vwp_std hX rfl (tr := (fun _ _ _ => False)) (fun _ _ _ h => h.elim) ?_
  refine Eq.mpr (N_r3_Convex_0_0 a0n a0a a0b v0t3 v _) ?_
  exact BM_r3_Convex_0_0 a0n a0a a0b v0t3 v (fun w0 h => ⟨w0, rfl, h⟩) (fun _ h => h) (fun _ h => h) hv
/-! loop r3_Convex_0 -/
def S_r3_Convex_0 (a0n : Nat) (a0a : Nat → Int) (a0b : Nat → Int) (v0t3 : Int) : VS := ⟨slotsN 58 0 [(0, AV.rs none a0n [CF.I .i64 a0a, CF.I .i64 a0b]), (2, AV.bool false), (3, AV.int .i64 v0t3)], [], false, 0⟩
def X_r3_Convex_0_exit0 (a0n : Nat) (a0a : Nat → Int) (a0b : Nat → Int) (o0 : Int) : VS := ⟨slotsN 58 0 [(0, AV.rs none a0n [CF.I .i64 a0a, CF.I .i64 a0b]), (2, AV.bool false), (3, AV.int .i64 o0)], [], false, 0⟩
def X_r3_Convex_0_ret (a0n : Nat) (a0a : Nat → Int) (a0b : Nat → Int) (o0 : Int) : VS := ⟨slotsN 58 0 [(0, AV.rs none a0n [CF.I .i64 a0a, CF.I .i64 a0b]), (2, AV.bool false), (3, AV.int .i64 o0)], [], false, 0⟩
def T_r3_Convex_0 (a0n : Nat) (a0a : Nat → Int) (a0b : Nat → Int) (v0t3 : Int) (k : Nat) (st : VS) (Q : Exit → VS → Prop) : Prop := match k with
  | 0 => TL [0, 2, 3, 4, 5, 9, 10, 11, 12, 15, 16, 17, 18, 19] [] 0 (convs st []) (fun st => S_r3_Convex_0_0 a0n a0a a0b v0t3 (intOf (tAt st 5))) (fun st => W_r3_Convex_0_0 a0n a0a a0b v0t3 fuel (intOf (tAt st 5)) (fun o0 => Q (.exit 2) (X_r3_Convex_0_0_exit2 a0n a0a a0b v0t3 o0)) (fun o0 => Q .ret (X_r3_Convex_0_0_ret a0n a0a a0b v0t3 o0)))
  | _ => False
theorem N_r3_Convex_0 (a0n : Nat) (a0a : Nat → Int) (a0b : Nat → Int) (v0t3 : Int) (Q : Exit → VS → Prop) : vwp tab (envL G_r3_Convex) (T_r3_Convex_0 a0n a0a a0b v0t3) 0 (lbody (loopAt (bodyOf Try.f26) 0)) (S_r3_Convex_0 a0n a0a a0b v0t3) (QM [0, 2, 3] [] 0 Q) = B_r3_Convex_0 a0n a0a a0b v0t3 (fun w0 => Q .normal (S_r3_Convex_0 a0n a0a a0b w0)) (fun o0 => Q (.exit 0) (X_r3_Convex_0_exit0 a0n a0a a0b o0)) (fun o0 => Q .ret (X_r3_Convex_0_ret a0n a0a a0b o0)) (fun p0 y0 y1 => S_r3_Convex_0_0 a0n a0a a0b v0t3 p0 = S_r3_Convex_0_0 a0n a0a a0b v0t3 p0 ∧ W_r3_Convex_0_0 a0n a0a a0b v0t3 fuel p0 y0 y1) := by kernel_rfl
theorem BL_r3_Convex_0 (a0n : Nat) (a0a : Nat → Int) (a0b : Nat → Int) (v0t3 : Int) {c c' : Int → Prop} {x0 y0 : Int → Prop} {x1 y1 : Int → Prop} (hc : ∀ w0, c w0 → c' w0) (h0 : ∀ o0, x0 o0 → y0 o0) (h1 : ∀ o0, x1 o0 → y1 o0) : B_r3_Convex_0 a0n a0a a0b v0t3 c x0 x1 (W_r3_Convex_0_0 a0n a0a a0b v0t3 fuel) → B_r3_Convex_0 a0n a0a a0b v0t3 c' y0 y1 (fun p0 y0 y1 => S_r3_Convex_0_0 a0n a0a a0b v0t3 p0 = S_r3_Convex_0_0 a0n a0a a0b v0t3 p0 ∧ W_r3_Convex_0_0 a0n a0a a0b v0t3 fuel p0 y0 y1) := by
  unfold B_r3_Convex_0
  repeat' first
    | exact hc _
    | exact h0 _
    | exact h1 _
    | refine Ts_imp ?_
    | refine cond_imp ?_ ?_
    | refine and_imp' ?_
    | refine fun h => ⟨rfl, WM_r3_Convex_0_0 _ _ _ _  (fun _ => ?_) (fun _ => ?_) _ _  h⟩
theorem TS_r3_Convex_0 {X : Cx} (hX : Std Try.prog tab (envL G_r3_Convex) X) (b : Code) (hb : b = (lbody (loopAt (bodyOf Try.f26) 0))) (a0n : Nat) (a0a : Nat → Int) (a0b : Nat → Int) (v0t3 : Int) (j : Nat) (st : VS) (Q : Exit → VS → Prop) (h : T_r3_Convex_0 a0n a0a a0b v0t3 j st Q) : TrK X b j st Q := by
  unfold T_r3_Convex_0 at h
  split at h
  · exact TL_ok h (fun h' => L_r3_Convex_0_0 hX b hb a0n a0a a0b v0t3 _ _ Q h')
  · exact h.elim
theorem L_r3_Convex_0 {X : Cx} (hX : Std Try.prog tab (envL G_r3_Convex) X) (b : Code) (hb : b = bodyOf Try.f26) (a0n : Nat) (a0a : Nat → Int) (a0b : Nat → Int) (fu : Nat) (v0t3 : Int) (Q : Exit → VS → Prop) (h : W_r3_Convex_0 a0n a0a a0b fu v0t3 (fun o0 => Q (.exit 0) (X_r3_Convex_0_exit0 a0n a0a a0b o0)) (fun o0 => Q .ret (X_r3_Convex_0_ret a0n a0a a0b o0))) : TrK X b 0 (S_r3_Convex_0 a0n a0a a0b v0t3) Q := by
  subst hb
  refine loop_ok (V := Int) (fun v => S_r3_Convex_0 a0n a0a a0b v) (fun f v => W_r3_Convex_0 a0n a0a a0b f v (fun o0 => Q (.exit 0) (X_r3_Convex_0_exit0 a0n a0a a0b o0)) (fun o0 => Q .ret (X_r3_Convex_0_ret a0n a0a a0b o0))) (fun _ h => h) (by kernel_rfl) (fun f v hv => ?_) (fuel := fu) (v0 := (v0t3)) h
  refine QM_ok (bs := [0, 2, 3]) (ms := []) (nm := 0) ?_
  refine vwp_std hX rfl (tr := T_r3_Convex_0 a0n a0a a0b v) (fun j st Q h => TS_r3_Convex_0 hX _ rfl a0n a0a a0b v j st Q h) ?_
  refine Eq.mpr (N_r3_Convex_0 a0n a0a a0b v _) ?_
  exact BL_r3_Convex_0 a0n a0a a0b v (fun w0 h => ⟨w0, rfl, h⟩) (fun _ h => h) (fun _ h => h) hv
def T_r3_Convex (a0n : Nat) (a0a : Nat → Int) (a0b : Nat → Int) (k : Nat) (st : VS) (Q : Exit → VS → Prop) : Prop := match k with
  | 0 => TL [0, 2, 3] [] 0 (convs st []) (fun st => S_r3_Convex_0 a0n a0a a0b (intOf (tAt st 3))) (fun st => W_r3_Convex_0 a0n a0a a0b fuel (intOf (tAt st 3)) (fun o0 => Q (.exit 0) (X_r3_Convex_0_exit0 a0n a0a a0b o0)) (fun o0 => Q .ret (X_r3_Convex_0_ret a0n a0a a0b o0)))
  | _ => False
theorem TS_r3_Convex {X : Cx} (hX : Std Try.prog tab (envL G_r3_Convex) X) (b : Code) (hb : b = bodyOf Try.f26) (a0n : Nat) (a0a : Nat → Int) (a0b : Nat → Int) (j : Nat) (st : VS) (Q : Exit → VS → Prop) (h : T_r3_Convex a0n a0a a0b j st Q) : TrK X b j st Q := by
  unfold T_r3_Convex at h
  split at h
  · exact TL_ok h (fun h' => L_r3_Convex_0 hX b hb a0n a0a a0b _ _ Q h')
  · exact h.elim
def as_r3_Convex (a0n : Nat) (a0a : Nat → Int) (a0b : Nat → Int) : List AV := [AV.rs none a0n [CF.I .i64 a0a, CF.I .i64 a0b]]
theorem N_r3_Convex (a0n : Nat) (a0a : Nat → Int) (a0b : Nat → Int) (K : AV → Prop) : vwp tab (envL G_r3_Convex) (T_r3_Convex a0n a0a a0b) 0 (bodyOf Try.f26) (entry (as_r3_Convex a0n a0a a0b) 58) (fnPost tab [.tmp 2] fun v s => K (v.frz s.mem)) = B_r3_Convex a0n a0a a0b (fun r0 => K (AV.bool r0)) (fun p0 y0 y1 => S_r3_Convex_0 a0n a0a a0b p0 = S_r3_Convex_0 a0n a0a a0b p0 ∧ W_r3_Convex_0 a0n a0a a0b fuel p0 y0 y1) := by kernel_rfl
theorem BL_r3_Convex (a0n : Nat) (a0a : Nat → Int) (a0b : Nat → Int) {K0 : Bool → Prop} : B_r3_Convex a0n a0a a0b K0 (W_r3_Convex_0 a0n a0a a0b fuel) → B_r3_Convex a0n a0a a0b K0 (fun p0 y0 y1 => S_r3_Convex_0 a0n a0a a0b p0 = S_r3_Convex_0 a0n a0a a0b p0 ∧ W_r3_Convex_0 a0n a0a a0b fuel p0 y0 y1) := by
  unfold B_r3_Convex
  repeat' first
    | exact id
    | refine Ts_imp ?_
    | refine cond_imp ?_ ?_
    | refine and_imp' ?_
    | refine fun h => ⟨rfl, WM_r3_Convex_0 _ _ _  (fun _ => ?_) (fun _ => ?_) _ _  h⟩
def g_r3_Convex : List AV → Option (Prop × RT)
  | [AV.rs sq0 sn0 sc0] => cond (kindsOK [KC.I .i64, KC.I .i64] sc0) (some (P_r3_Convex (nOf sn0 sc0) (colI sc0 0) (colI sc0 1), RT.leaf (AV.bool (F_r3_Convex_0 (nOf sn0 sc0) (colI sc0 0) (colI sc0 1))))) none
  | _ => none
theorem S_r3_Convex : SpecOK Try.prog 26 (.pure g_r3_Convex) := by
  intro xs p r h hp E w vs hr hv
  unfold g_r3_Convex at h
  split at h
  · rename_i sq0 sn0 sc0
    have hk0 : kindsOK [KC.I .i64, KC.I .i64] sc0 = true := by
      cases hh : kindsOK [KC.I .i64, KC.I .i64] sc0 with
      | true => rfl
      | false => rw [hh] at h; cases h
    rw [hk0, cond_true] at h
    simp only [Option.some.injEq, Prod.mk.injEq] at h
    obtain ⟨rfl, rfl⟩ := h
    have hG : SpecsOK Try.prog G_r3_Convex := ⟨S_r3_Side, S_r3_valid, trivial⟩
    have hv' : VRs E.bare (as_r3_Convex (nOf sn0 sc0) (colI sc0 0) (colI sc0 1)) vs := (AV.les.cons (AV.le.rs hk0) AV.les.nil) _ _ hv
    refine walk_pure' (f := 26) (fn := Try.f26) (c := bodyOf Try.f26) (rs := [.tmp 2]) (ys := as_r3_Convex (nOf sn0 sc0) (colI sc0 0) (colI sc0 1)) tab_ok (envL_ok hG) Try.func26 rfl (by kernel_rfl) rfl (by decide) (fun X hX hrho => ?_) E w vs hr hv'
    rw [Try.ntmps26]
    refine vwp_std hX rfl (tr := T_r3_Convex (nOf sn0 sc0) (colI sc0 0) (colI sc0 1)) (fun j st Q h => TS_r3_Convex hX _ rfl (nOf sn0 sc0) (colI sc0 0) (colI sc0 1) j st Q h) ?_
    refine Eq.mpr (N_r3_Convex (nOf sn0 sc0) (colI sc0 0) (colI sc0 1) (fun x => x = _)) ?_
    exact BL_r3_Convex (nOf sn0 sc0) (colI sc0 0) (colI sc0 1) (H_r3_Convex (nOf sn0 sc0) (colI sc0 0) (colI sc0 1) hp rfl)
  · cases h
/-! ### bagatelle/bagatelleref03.around -/
def G_r3_around : List (Nat × Ag.Spec) := []
def as_r3_around (a0a : Int) (a0b : Int) (a1 : Int) : List AV := [AV.agg [AV.int .i64 a0a, AV.int .i64 a0b], AV.int .i64 a1]
theorem N_r3_around (a0a : Int) (a0b : Int) (a1 : Int) (K : AV → Prop) : vwp tab (envL G_r3_around) (fun _ _ _ => False) 0 (bodyOf Try.f49) (entry (as_r3_around a0a a0b a1) 22) (fnPost tab [.cell 4 23] fun v s => K (v.frz s.mem)) = B_r3_around a0a a0b a1 (fun r0 r1 r2 r3 => K (AV.agg [AV.int .i64 r0, AV.int .i64 r1, AV.int .i64 r2, AV.int .i64 r3]))  := by kernel_rfl
def g_r3_around : List AV → Option (Prop × RT)
  | [AV.agg [AV.int .i64 a0a, AV.int .i64 a0b], AV.int .i64 a1] => some (P_r3_around a0a a0b a1, RT.leaf (AV.agg [AV.int .i64 (F_r3_around_0 a0a a0b a1), AV.int .i64 (F_r3_around_1 a0a a0b a1), AV.int .i64 (F_r3_around_2 a0a a0b a1), AV.int .i64 (F_r3_around_3 a0a a0b a1)]))
  | _ => none
theorem S_r3_around : SpecOK Try.prog 49 (.pure g_r3_around) := by
  intro xs p r h hp E w vs hr hv
  unfold g_r3_around at h
  split at h
  · rename_i a0a a0b a1
    simp only [Option.some.injEq, Prod.mk.injEq] at h
    obtain ⟨rfl, rfl⟩ := h
    have hG : SpecsOK Try.prog G_r3_around := trivial
    refine walk_pure' (f := 49) (fn := Try.f49) (c := bodyOf Try.f49) (rs := [.cell 4 23]) (ys := as_r3_around a0a a0b a1) tab_ok (envL_ok hG) Try.func49 rfl (by kernel_rfl) rfl (by decide) (fun X hX hrho => ?_) E w vs hr hv
    rw [Try.ntmps49]
    refine vwp_std hX rfl (tr := fun _ _ _ => False) (fun _ _ _ h => h.elim) ?_
    refine Eq.mpr (N_r3_around a0a a0b a1 (fun x => x = _)) ?_
    exact H_r3_around a0a a0b a1 hp rfl
  · cases h
/-! ### bagatelle/bagatelleref03.Check -/
def G_r3_Check : List (Nat × Ag.Spec) := [(11, .pure g_r3_CheckBox), (26, .pure g_r3_Convex), (40, .pure g_r3_valid), (49, .pure g_r3_around)]
/-! loop r3_Check_0 -/
def S_r3_Check_0 (a0a : Int) (a0ba : Int) (a0bb : Int) (a0c : Int) (a0dn : Nat) (a0da : Nat → Int) (a0db : Nat → Int) (v0t3 : Int) : VS := ⟨slotsN 80 0 [(1, AV.ptr false 0 0 0), (2, AV.int .i64 0), (3, AV.int .i64 v0t3)], [.one true 46 [AV.int .i64 a0a, AV.int .i64 a0ba, AV.int .i64 a0bb, AV.int .i64 a0c, AV.rs none a0dn [CF.I .i64 a0da, CF.I .i64 a0db]]], false, 0⟩
def X_r3_Check_0_exit0 (a0a : Int) (a0ba : Int) (a0bb : Int) (a0c : Int) (a0dn : Nat) (a0da : Nat → Int) (a0db : Nat → Int) (o0 : Int) : VS := ⟨slotsN 80 0 [(1, AV.ptr false 0 0 0), (2, AV.int .i64 0), (3, AV.int .i64 o0)], [.one true 46 [AV.int .i64 a0a, AV.int .i64 a0ba, AV.int .i64 a0bb, AV.int .i64 a0c, AV.rs none a0dn [CF.I .i64 a0da, CF.I .i64 a0db]]], false, 0⟩
def X_r3_Check_0_ret (a0a : Int) (a0ba : Int) (a0bb : Int) (a0c : Int) (a0dn : Nat) (a0da : Nat → Int) (a0db : Nat → Int) (o0 : Int) (o1 : Int) : VS := ⟨slotsN 80 0 [(1, AV.ptr false 0 0 0), (2, AV.int .i64 o0), (3, AV.int .i64 o1)], [.one true 46 [AV.int .i64 a0a, AV.int .i64 a0ba, AV.int .i64 a0bb, AV.int .i64 a0c, AV.rs none a0dn [CF.I .i64 a0da, CF.I .i64 a0db]]], false, 0⟩
theorem N_r3_Check_0 (a0a : Int) (a0ba : Int) (a0bb : Int) (a0c : Int) (a0dn : Nat) (a0da : Nat → Int) (a0db : Nat → Int) (v0t3 : Int) (Q : Exit → VS → Prop) : vwp tab (envL G_r3_Check) (fun _ _ _ => False) 0 (lbody (loopAt (bodyOf Try.f47) 0)) (S_r3_Check_0 a0a a0ba a0bb a0c a0dn a0da a0db v0t3) (QM [1, 2, 3] [0] 1 Q) = B_r3_Check_0 a0a a0ba a0bb a0c a0dn a0da a0db v0t3 (fun w0 => Q .normal (S_r3_Check_0 a0a a0ba a0bb a0c a0dn a0da a0db w0)) (fun o0 => Q (.exit 0) (X_r3_Check_0_exit0 a0a a0ba a0bb a0c a0dn a0da a0db o0)) (fun o0 o1 => Q .ret (X_r3_Check_0_ret a0a a0ba a0bb a0c a0dn a0da a0db o0 o1))  := by kernel_rfl
theorem L_r3_Check_0 {X : Cx} (hX : Std Try.prog tab (envL G_r3_Check) X) (b : Code) (hb : b = bodyOf Try.f47) (a0a : Int) (a0ba : Int) (a0bb : Int) (a0c : Int) (a0dn : Nat) (a0da : Nat → Int) (a0db : Nat → Int) (fu : Nat) (v0t3 : Int) (Q : Exit → VS → Prop) (h : W_r3_Check_0 a0a a0ba a0bb a0c a0dn a0da a0db fu v0t3 (fun o0 => Q (.exit 0) (X_r3_Check_0_exit0 a0a a0ba a0bb a0c a0dn a0da a0db o0)) (fun o0 o1 => Q .ret (X_r3_Check_0_ret a0a a0ba a0bb a0c a0dn a0da a0db o0 o1))) : TrK X b 0 (S_r3_Check_0 a0a a0ba a0bb a0c a0dn a0da a0db v0t3) Q := by
  subst hb
  refine loop_ok (V := Int) (fun v => S_r3_Check_0 a0a a0ba a0bb a0c a0dn a0da a0db v) (fun f v => W_r3_Check_0 a0a a0ba a0bb a0c a0dn a0da a0db f v (fun o0 => Q (.exit 0) (X_r3_Check_0_exit0 a0a a0ba a0bb a0c a0dn a0da a0db o0)) (fun o0 o1 => Q .ret (X_r3_Check_0_ret a0a a0ba a0bb a0c a0dn a0da a0db o0 o1))) (fun _ h => h) (by kernel_rfl) (fun f v hv => ?_) (fuel := fu) (v0 := (v0t3)) h
  refine QM_ok (bs := [1, 2, 3]) (ms := [0]) (nm := 1) ?_
  refine vwp_std hX rfl (tr := (fun _ _ _ => False)) (fun _ _ _ h => h.elim) ?_
  refine Eq.mpr (N_r3_Check_0 a0a a0ba a0bb a0c a0dn a0da a0db v _) ?_
  exact BM_r3_Check_0 a0a a0ba a0bb a0c a0dn a0da a0db v (fun w0 h => ⟨w0, rfl, h⟩) (fun _ h => h) (fun _ _ h => h) hv
def T_r3_Check (a0a : Int) (a0ba : Int) (a0bb : Int) (a0c : Int) (a0dn : Nat) (a0da : Nat → Int) (a0db : Nat → Int) (k : Nat) (st : VS) (Q : Exit → VS → Prop) : Prop := match k with
  | 0 => TL [1, 2, 3] [0] 1 (convs st []) (fun st => S_r3_Check_0 a0a a0ba a0bb a0c a0dn a0da a0db (intOf (tAt st 3))) (fun st => W_r3_Check_0 a0a a0ba a0bb a0c a0dn a0da a0db fuel (intOf (tAt st 3)) (fun o0 => Q (.exit 0) (X_r3_Check_0_exit0 a0a a0ba a0bb a0c a0dn a0da a0db o0)) (fun o0 o1 => Q .ret (X_r3_Check_0_ret a0a a0ba a0bb a0c a0dn a0da a0db o0 o1)))
  | _ => False
theorem TS_r3_Check {X : Cx} (hX : Std Try.prog tab (envL G_r3_Check) X) (b : Code) (hb : b = bodyOf Try.f47) (a0a : Int) (a0ba : Int) (a0bb : Int) (a0c : Int) (a0dn : Nat) (a0da : Nat → Int) (a0db : Nat → Int) (j : Nat) (st : VS) (Q : Exit → VS → Prop) (h : T_r3_Check a0a a0ba a0bb a0c a0dn a0da a0db j st Q) : TrK X b j st Q := by
  unfold T_r3_Check at h
  split at h
  · exact TL_ok h (fun h' => L_r3_Check_0 hX b hb a0a a0ba a0bb a0c a0dn a0da a0db _ _ Q h')
  · exact h.elim
def as_r3_Check (a0a : Int) (a0ba : Int) (a0bb : Int) (a0c : Int) (a0dn : Nat) (a0da : Nat → Int) (a0db : Nat → Int) : List AV := [AV.agg [AV.int .i64 a0a, AV.int .i64 a0ba, AV.int .i64 a0bb, AV.int .i64 a0c, AV.rs none a0dn [CF.I .i64 a0da, CF.I .i64 a0db]]]
theorem N_r3_Check (a0a : Int) (a0ba : Int) (a0bb : Int) (a0c : Int) (a0dn : Nat) (a0da : Nat → Int) (a0db : Nat → Int) (K : AV → Prop) : vwp tab (envL G_r3_Check) (T_r3_Check a0a a0ba a0bb a0c a0dn a0da a0db) 0 (bodyOf Try.f47) (entry (as_r3_Check a0a a0ba a0bb a0c a0dn a0da a0db) 80) (fnPost tab [.tmp 2] fun v s => K (v.frz s.mem)) = B_r3_Check a0a a0ba a0bb a0c a0dn a0da a0db (fun r0 => K (AV.int .i64 r0)) (fun p0 y0 y1 => S_r3_Check_0 a0a a0ba a0bb a0c a0dn a0da a0db p0 = S_r3_Check_0 a0a a0ba a0bb a0c a0dn a0da a0db p0 ∧ W_r3_Check_0 a0a a0ba a0bb a0c a0dn a0da a0db fuel p0 y0 y1) := by kernel_rfl
theorem BL_r3_Check (a0a : Int) (a0ba : Int) (a0bb : Int) (a0c : Int) (a0dn : Nat) (a0da : Nat → Int) (a0db : Nat → Int) {K0 : Int → Prop} : B_r3_Check a0a a0ba a0bb a0c a0dn a0da a0db K0 (W_r3_Check_0 a0a a0ba a0bb a0c a0dn a0da a0db fuel) → B_r3_Check a0a a0ba a0bb a0c a0dn a0da a0db K0 (fun p0 y0 y1 => S_r3_Check_0 a0a a0ba a0bb a0c a0dn a0da a0db p0 = S_r3_Check_0 a0a a0ba a0bb a0c a0dn a0da a0db p0 ∧ W_r3_Check_0 a0a a0ba a0bb a0c a0dn a0da a0db fuel p0 y0 y1) := by
  unfold B_r3_Check
  repeat' first
    | exact id
    | refine Ts_imp ?_
    | refine cond_imp ?_ ?_
    | refine and_imp' ?_
    | refine fun h => ⟨rfl, WM_r3_Check_0 _ _ _ _ _ _ _  (fun _ => ?_) (fun _ _ => ?_) _ _  h⟩
def g_r3_Check : List AV → Option (Prop × RT)
  | [AV.agg [AV.int .i64 a0a, AV.int .i64 a0ba, AV.int .i64 a0bb, AV.int .i64 a0c, AV.rs sq0 sn0 sc0]] => cond (kindsOK [KC.I .i64, KC.I .i64] sc0) (some (P_r3_Check a0a a0ba a0bb a0c (nOf sn0 sc0) (colI sc0 0) (colI sc0 1), RT.leaf (AV.int .i64 (F_r3_Check_0 a0a a0ba a0bb a0c (nOf sn0 sc0) (colI sc0 0) (colI sc0 1))))) none
  | _ => none
theorem S_r3_Check : SpecOK Try.prog 47 (.pure g_r3_Check) := by
  intro xs p r h hp E w vs hr hv
  unfold g_r3_Check at h
  split at h
  · rename_i a0a a0ba a0bb a0c sq0 sn0 sc0
    have hk0 : kindsOK [KC.I .i64, KC.I .i64] sc0 = true := by
      cases hh : kindsOK [KC.I .i64, KC.I .i64] sc0 with
      | true => rfl
      | false => rw [hh] at h; cases h
    rw [hk0, cond_true] at h
    simp only [Option.some.injEq, Prod.mk.injEq] at h
    obtain ⟨rfl, rfl⟩ := h
    have hG : SpecsOK Try.prog G_r3_Check := ⟨S_r3_CheckBox, S_r3_Convex, S_r3_valid, S_r3_around, trivial⟩
    have hv' : VRs E.bare (as_r3_Check a0a a0ba a0bb a0c (nOf sn0 sc0) (colI sc0 0) (colI sc0 1)) vs := (AV.les.cons (AV.le.agg (AV.les.cons (AV.le.refl _) (AV.les.cons (AV.le.refl _) (AV.les.cons (AV.le.refl _) (AV.les.cons (AV.le.refl _) (AV.les.cons (AV.le.rs hk0) AV.les.nil)))))) AV.les.nil) _ _ hv
    refine walk_pure' (f := 47) (fn := Try.f47) (c := bodyOf Try.f47) (rs := [.tmp 2]) (ys := as_r3_Check a0a a0ba a0bb a0c (nOf sn0 sc0) (colI sc0 0) (colI sc0 1)) tab_ok (envL_ok hG) Try.func47 rfl (by kernel_rfl) rfl (by decide) (fun X hX hrho => ?_) E w vs hr hv'
    rw [Try.ntmps47]
    refine vwp_std hX rfl (tr := T_r3_Check a0a a0ba a0bb a0c (nOf sn0 sc0) (colI sc0 0) (colI sc0 1)) (fun j st Q h => TS_r3_Check hX _ rfl a0a a0ba a0bb a0c (nOf sn0 sc0) (colI sc0 0) (colI sc0 1) j st Q h) ?_
    refine Eq.mpr (N_r3_Check a0a a0ba a0bb a0c (nOf sn0 sc0) (colI sc0 0) (colI sc0 1) (fun x => x = _)) ?_
    exact BL_r3_Check a0a a0ba a0bb a0c (nOf sn0 sc0) (colI sc0 0) (colI sc0 1) (H_r3_Check a0a a0ba a0bb a0c (nOf sn0 sc0) (colI sc0 0) (colI sc0 1) hp rfl)
  · cases h
/-! ### bagatelle/bagatelleref03.dot -/
def G_r3_dot : List (Nat × Ag.Spec) := []
def as_r3_dot (a0a : Int) (a0b : Int) (a1a : Int) (a1b : Int) : List AV := [AV.agg [AV.int .i64 a0a, AV.int .i64 a0b], AV.agg [AV.int .i64 a1a, AV.int .i64 a1b]]
theorem N_r3_dot (a0a : Int) (a0b : Int) (a1a : Int) (a1b : Int) (K : AV → Prop) : vwp tab (envL G_r3_dot) (fun _ _ _ => False) 0 (bodyOf Try.f59) (entry (as_r3_dot a0a a0b a1a a1b) 16) (fnPost tab [.tmp 4] fun v s => K (v.frz s.mem)) = B_r3_dot a0a a0b a1a a1b (fun r0 => K (AV.int .i64 r0))  := by kernel_rfl
def g_r3_dot : List AV → Option (Prop × RT)
  | [AV.agg [AV.int .i64 a0a, AV.int .i64 a0b], AV.agg [AV.int .i64 a1a, AV.int .i64 a1b]] => some (P_r3_dot a0a a0b a1a a1b, RT.leaf (AV.int .i64 (F_r3_dot_0 a0a a0b a1a a1b)))
  | _ => none
theorem S_r3_dot : SpecOK Try.prog 59 (.pure g_r3_dot) := by
  intro xs p r h hp E w vs hr hv
  unfold g_r3_dot at h
  split at h
  · rename_i a0a a0b a1a a1b
    simp only [Option.some.injEq, Prod.mk.injEq] at h
    obtain ⟨rfl, rfl⟩ := h
    have hG : SpecsOK Try.prog G_r3_dot := trivial
    refine walk_pure' (f := 59) (fn := Try.f59) (c := bodyOf Try.f59) (rs := [.tmp 4]) (ys := as_r3_dot a0a a0b a1a a1b) tab_ok (envL_ok hG) Try.func59 rfl (by kernel_rfl) rfl (by decide) (fun X hX hrho => ?_) E w vs hr hv
    rw [Try.ntmps59]
    refine vwp_std hX rfl (tr := fun _ _ _ => False) (fun _ _ _ h => h.elim) ?_
    refine Eq.mpr (N_r3_dot a0a a0b a1a a1b (fun x => x = _)) ?_
    exact H_r3_dot a0a a0b a1a a1b hp rfl
  · cases h
/-! ### bagatelle/bagatelleref03.holds -/
def G_r3_holds : List (Nat × Ag.Spec) := [(24, .pure g_r3_Side), (44, .pure g_r3_minus), (59, .pure g_r3_dot)]
/-! loop r3_holds_0 -/
def S_r3_holds_0 (a0a : Int) (a0ba : Int) (a0bb : Int) (a0c : Int) (a0dn : Nat) (a0da : Nat → Int) (a0db : Nat → Int) (a1a : Int) (a1b : Int) (v0t6 : Int) : VS := ⟨slotsN 48 0 [(2, AV.ptr false 0 0 0), (3, AV.ptr false 1 0 0), (4, AV.bool false), (6, AV.int .i64 v0t6)], [.one true 46 [AV.int .i64 a0a, AV.int .i64 a0ba, AV.int .i64 a0bb, AV.int .i64 a0c, AV.rs none a0dn [CF.I .i64 a0da, CF.I .i64 a0db]], .one true 25 [AV.int .i64 a1a, AV.int .i64 a1b]], false, 0⟩
def X_r3_holds_0_exit0 (a0a : Int) (a0ba : Int) (a0bb : Int) (a0c : Int) (a0dn : Nat) (a0da : Nat → Int) (a0db : Nat → Int) (a1a : Int) (a1b : Int) (o0 : Int) : VS := ⟨slotsN 48 0 [(2, AV.ptr false 0 0 0), (3, AV.ptr false 1 0 0), (4, AV.bool false), (6, AV.int .i64 o0)], [.one true 46 [AV.int .i64 a0a, AV.int .i64 a0ba, AV.int .i64 a0bb, AV.int .i64 a0c, AV.rs none a0dn [CF.I .i64 a0da, CF.I .i64 a0db]], .one true 25 [AV.int .i64 a1a, AV.int .i64 a1b]], false, 0⟩
def X_r3_holds_0_ret (a0a : Int) (a0ba : Int) (a0bb : Int) (a0c : Int) (a0dn : Nat) (a0da : Nat → Int) (a0db : Nat → Int) (a1a : Int) (a1b : Int) (o0 : Int) : VS := ⟨slotsN 48 0 [(2, AV.ptr false 0 0 0), (3, AV.ptr false 1 0 0), (4, AV.bool false), (6, AV.int .i64 o0)], [.one true 46 [AV.int .i64 a0a, AV.int .i64 a0ba, AV.int .i64 a0bb, AV.int .i64 a0c, AV.rs none a0dn [CF.I .i64 a0da, CF.I .i64 a0db]], .one true 25 [AV.int .i64 a1a, AV.int .i64 a1b]], false, 0⟩
theorem N_r3_holds_0 (a0a : Int) (a0ba : Int) (a0bb : Int) (a0c : Int) (a0dn : Nat) (a0da : Nat → Int) (a0db : Nat → Int) (a1a : Int) (a1b : Int) (v0t6 : Int) (Q : Exit → VS → Prop) : vwp tab (envL G_r3_holds) (fun _ _ _ => False) 0 (lbody (loopAt (bodyOf Try.f48) 0)) (S_r3_holds_0 a0a a0ba a0bb a0c a0dn a0da a0db a1a a1b v0t6) (QM [2, 3, 4, 6] [0, 1] 2 Q) = B_r3_holds_0 a0a a0ba a0bb a0c a0dn a0da a0db a1a a1b v0t6 (fun w0 => Q .normal (S_r3_holds_0 a0a a0ba a0bb a0c a0dn a0da a0db a1a a1b w0)) (fun o0 => Q (.exit 0) (X_r3_holds_0_exit0 a0a a0ba a0bb a0c a0dn a0da a0db a1a a1b o0)) (fun o0 => Q .ret (X_r3_holds_0_ret a0a a0ba a0bb a0c a0dn a0da a0db a1a a1b o0))  := by kernel_rfl
theorem L_r3_holds_0 {X : Cx} (hX : Std Try.prog tab (envL G_r3_holds) X) (b : Code) (hb : b = bodyOf Try.f48) (a0a : Int) (a0ba : Int) (a0bb : Int) (a0c : Int) (a0dn : Nat) (a0da : Nat → Int) (a0db : Nat → Int) (a1a : Int) (a1b : Int) (fu : Nat) (v0t6 : Int) (Q : Exit → VS → Prop) (h : W_r3_holds_0 a0a a0ba a0bb a0c a0dn a0da a0db a1a a1b fu v0t6 (fun o0 => Q (.exit 0) (X_r3_holds_0_exit0 a0a a0ba a0bb a0c a0dn a0da a0db a1a a1b o0)) (fun o0 => Q .ret (X_r3_holds_0_ret a0a a0ba a0bb a0c a0dn a0da a0db a1a a1b o0))) : TrK X b 0 (S_r3_holds_0 a0a a0ba a0bb a0c a0dn a0da a0db a1a a1b v0t6) Q := by
  subst hb
  refine loop_ok (V := Int) (fun v => S_r3_holds_0 a0a a0ba a0bb a0c a0dn a0da a0db a1a a1b v) (fun f v => W_r3_holds_0 a0a a0ba a0bb a0c a0dn a0da a0db a1a a1b f v (fun o0 => Q (.exit 0) (X_r3_holds_0_exit0 a0a a0ba a0bb a0c a0dn a0da a0db a1a a1b o0)) (fun o0 => Q .ret (X_r3_holds_0_ret a0a a0ba a0bb a0c a0dn a0da a0db a1a a1b o0))) (fun _ h => h) (by kernel_rfl) (fun f v hv => ?_) (fuel := fu) (v0 := (v0t6)) h
  refine QM_ok (bs := [2, 3, 4, 6]) (ms := [0, 1]) (nm := 2) ?_
  refine vwp_std hX rfl (tr := (fun _ _ _ => False)) (fun _ _ _ h => h.elim) ?_
  refine Eq.mpr (N_r3_holds_0 a0a a0ba a0bb a0c a0dn a0da a0db a1a a1b v _) ?_
  exact BM_r3_holds_0 a0a a0ba a0bb a0c a0dn a0da a0db a1a a1b v (fun w0 h => ⟨w0, rfl, h⟩) (fun _ h => h) (fun _ h => h) hv
def T_r3_holds (a0a : Int) (a0ba : Int) (a0bb : Int) (a0c : Int) (a0dn : Nat) (a0da : Nat → Int) (a0db : Nat → Int) (a1a : Int) (a1b : Int) (k : Nat) (st : VS) (Q : Exit → VS → Prop) : Prop := match k with
  | 0 => TL [2, 3, 4, 6] [0, 1] 2 (convs st []) (fun st => S_r3_holds_0 a0a a0ba a0bb a0c a0dn a0da a0db a1a a1b (intOf (tAt st 6))) (fun st => W_r3_holds_0 a0a a0ba a0bb a0c a0dn a0da a0db a1a a1b fuel (intOf (tAt st 6)) (fun o0 => Q (.exit 0) (X_r3_holds_0_exit0 a0a a0ba a0bb a0c a0dn a0da a0db a1a a1b o0)) (fun o0 => Q .ret (X_r3_holds_0_ret a0a a0ba a0bb a0c a0dn a0da a0db a1a a1b o0)))
  | _ => False
theorem TS_r3_holds {X : Cx} (hX : Std Try.prog tab (envL G_r3_holds) X) (b : Code) (hb : b = bodyOf Try.f48) (a0a : Int) (a0ba : Int) (a0bb : Int) (a0c : Int) (a0dn : Nat) (a0da : Nat → Int) (a0db : Nat → Int) (a1a : Int) (a1b : Int) (j : Nat) (st : VS) (Q : Exit → VS → Prop) (h : T_r3_holds a0a a0ba a0bb a0c a0dn a0da a0db a1a a1b j st Q) : TrK X b j st Q := by
  unfold T_r3_holds at h
  split at h
  · exact TL_ok h (fun h' => L_r3_holds_0 hX b hb a0a a0ba a0bb a0c a0dn a0da a0db a1a a1b _ _ Q h')
  · exact h.elim
def as_r3_holds (a0a : Int) (a0ba : Int) (a0bb : Int) (a0c : Int) (a0dn : Nat) (a0da : Nat → Int) (a0db : Nat → Int) (a1a : Int) (a1b : Int) : List AV := [AV.agg [AV.int .i64 a0a, AV.int .i64 a0ba, AV.int .i64 a0bb, AV.int .i64 a0c, AV.rs none a0dn [CF.I .i64 a0da, CF.I .i64 a0db]], AV.agg [AV.int .i64 a1a, AV.int .i64 a1b]]
theorem N_r3_holds (a0a : Int) (a0ba : Int) (a0bb : Int) (a0c : Int) (a0dn : Nat) (a0da : Nat → Int) (a0db : Nat → Int) (a1a : Int) (a1b : Int) (K : AV → Prop) : vwp tab (envL G_r3_holds) (T_r3_holds a0a a0ba a0bb a0c a0dn a0da a0db a1a a1b) 0 (bodyOf Try.f48) (entry (as_r3_holds a0a a0ba a0bb a0c a0dn a0da a0db a1a a1b) 48) (fnPost tab [.tmp 4] fun v s => K (v.frz s.mem)) = B_r3_holds a0a a0ba a0bb a0c a0dn a0da a0db a1a a1b (fun r0 => K (AV.bool r0)) (fun p0 y0 y1 => S_r3_holds_0 a0a a0ba a0bb a0c a0dn a0da a0db a1a a1b p0 = S_r3_holds_0 a0a a0ba a0bb a0c a0dn a0da a0db a1a a1b p0 ∧ W_r3_holds_0 a0a a0ba a0bb a0c a0dn a0da a0db a1a a1b fuel p0 y0 y1) := by kernel_rfl
theorem BL_r3_holds (a0a : Int) (a0ba : Int) (a0bb : Int) (a0c : Int) (a0dn : Nat) (a0da : Nat → Int) (a0db : Nat → Int) (a1a : Int) (a1b : Int) {K0 : Bool → Prop} : B_r3_holds a0a a0ba a0bb a0c a0dn a0da a0db a1a a1b K0 (W_r3_holds_0 a0a a0ba a0bb a0c a0dn a0da a0db a1a a1b fuel) → B_r3_holds a0a a0ba a0bb a0c a0dn a0da a0db a1a a1b K0 (fun p0 y0 y1 => S_r3_holds_0 a0a a0ba a0bb a0c a0dn a0da a0db a1a a1b p0 = S_r3_holds_0 a0a a0ba a0bb a0c a0dn a0da a0db a1a a1b p0 ∧ W_r3_holds_0 a0a a0ba a0bb a0c a0dn a0da a0db a1a a1b fuel p0 y0 y1) := by
  unfold B_r3_holds
  repeat' first
    | exact id
    | refine Ts_imp ?_
    | refine cond_imp ?_ ?_
    | refine and_imp' ?_
    | refine fun h => ⟨rfl, WM_r3_holds_0 _ _ _ _ _ _ _ _ _  (fun _ => ?_) (fun _ => ?_) _ _  h⟩
def g_r3_holds : List AV → Option (Prop × RT)
  | [AV.agg [AV.int .i64 a0a, AV.int .i64 a0ba, AV.int .i64 a0bb, AV.int .i64 a0c, AV.rs sq0 sn0 sc0], AV.agg [AV.int .i64 a1a, AV.int .i64 a1b]] => cond (kindsOK [KC.I .i64, KC.I .i64] sc0) (some (P_r3_holds a0a a0ba a0bb a0c (nOf sn0 sc0) (colI sc0 0) (colI sc0 1) a1a a1b, RT.leaf (AV.bool (F_r3_holds_0 a0a a0ba a0bb a0c (nOf sn0 sc0) (colI sc0 0) (colI sc0 1) a1a a1b)))) none
  | _ => none
theorem S_r3_holds : SpecOK Try.prog 48 (.pure g_r3_holds) := by
  intro xs p r h hp E w vs hr hv
  unfold g_r3_holds at h
  split at h
  · rename_i a0a a0ba a0bb a0c sq0 sn0 sc0 a1a a1b
    have hk0 : kindsOK [KC.I .i64, KC.I .i64] sc0 = true := by
      cases hh : kindsOK [KC.I .i64, KC.I .i64] sc0 with
      | true => rfl
      | false => rw [hh] at h; cases h
    rw [hk0, cond_true] at h
    simp only [Option.some.injEq, Prod.mk.injEq] at h
    obtain ⟨rfl, rfl⟩ := h
    have hG : SpecsOK Try.prog G_r3_holds := ⟨S_r3_Side, S_r3_minus, S_r3_dot, trivial⟩
    have hv' : VRs E.bare (as_r3_holds a0a a0ba a0bb a0c (nOf sn0 sc0) (colI sc0 0) (colI sc0 1) a1a a1b) vs := (AV.les.cons (AV.le.agg (AV.les.cons (AV.le.refl _) (AV.les.cons (AV.le.refl _) (AV.les.cons (AV.le.refl _) (AV.les.cons (AV.le.refl _) (AV.les.cons (AV.le.rs hk0) AV.les.nil)))))) (AV.les.cons (AV.le.refl _) AV.les.nil)) _ _ hv
    refine walk_pure' (f := 48) (fn := Try.f48) (c := bodyOf Try.f48) (rs := [.tmp 4]) (ys := as_r3_holds a0a a0ba a0bb a0c (nOf sn0 sc0) (colI sc0 0) (colI sc0 1) a1a a1b) tab_ok (envL_ok hG) Try.func48 rfl (by kernel_rfl) rfl (by decide) (fun X hX hrho => ?_) E w vs hr hv'
    rw [Try.ntmps48]
    refine vwp_std hX rfl (tr := T_r3_holds a0a a0ba a0bb a0c (nOf sn0 sc0) (colI sc0 0) (colI sc0 1) a1a a1b) (fun j st Q h => TS_r3_holds hX _ rfl a0a a0ba a0bb a0c (nOf sn0 sc0) (colI sc0 0) (colI sc0 1) a1a a1b j st Q h) ?_
    refine Eq.mpr (N_r3_holds a0a a0ba a0bb a0c (nOf sn0 sc0) (colI sc0 0) (colI sc0 1) a1a a1b (fun x => x = _)) ?_
    exact BL_r3_holds a0a a0ba a0bb a0c (nOf sn0 sc0) (colI sc0 0) (colI sc0 1) a1a a1b (H_r3_holds a0a a0ba a0bb a0c (nOf sn0 sc0) (colI sc0 0) (colI sc0 1) a1a a1b hp rfl)
  · cases h
/-! ### bagatelle/bagatelleref03.Holds -/
def G_r3_Holds : List (Nat × Ag.Spec) := [(40, .pure g_r3_valid), (47, .pure g_r3_Check), (48, .pure g_r3_holds)]
def as_r3_Holds (a0a : Int) (a0ba : Int) (a0bb : Int) (a0c : Int) (a0dn : Nat) (a0da : Nat → Int) (a0db : Nat → Int) (a1a : Int) (a1b : Int) : List AV := [AV.agg [AV.int .i64 a0a, AV.int .i64 a0ba, AV.int .i64 a0bb, AV.int .i64 a0c, AV.rs none a0dn [CF.I .i64 a0da, CF.I .i64 a0db]], AV.agg [AV.int .i64 a1a, AV.int .i64 a1b]]
theorem N_r3_Holds (a0a : Int) (a0ba : Int) (a0bb : Int) (a0c : Int) (a0dn : Nat) (a0da : Nat → Int) (a0db : Nat → Int) (a1a : Int) (a1b : Int) (K : AV → Prop) : vwp tab (envL G_r3_Holds) (fun _ _ _ => False) 0 (bodyOf Try.f31) (entry (as_r3_Holds a0a a0ba a0bb a0c a0dn a0da a0db a1a a1b) 17) (fnPost tab [.tmp 4] fun v s => K (v.frz s.mem)) = B_r3_Holds a0a a0ba a0bb a0c a0dn a0da a0db a1a a1b (fun r0 => K (AV.bool r0))  := by kernel_rfl
def g_r3_Holds : List AV → Option (Prop × RT)
  | [AV.agg [AV.int .i64 a0a, AV.int .i64 a0ba, AV.int .i64 a0bb, AV.int .i64 a0c, AV.rs sq0 sn0 sc0], AV.agg [AV.int .i64 a1a, AV.int .i64 a1b]] => cond (kindsOK [KC.I .i64, KC.I .i64] sc0) (some (P_r3_Holds a0a a0ba a0bb a0c (nOf sn0 sc0) (colI sc0 0) (colI sc0 1) a1a a1b, RT.leaf (AV.bool (F_r3_Holds_0 a0a a0ba a0bb a0c (nOf sn0 sc0) (colI sc0 0) (colI sc0 1) a1a a1b)))) none
  | _ => none
theorem S_r3_Holds : SpecOK Try.prog 31 (.pure g_r3_Holds) := by
  intro xs p r h hp E w vs hr hv
  unfold g_r3_Holds at h
  split at h
  · rename_i a0a a0ba a0bb a0c sq0 sn0 sc0 a1a a1b
    have hk0 : kindsOK [KC.I .i64, KC.I .i64] sc0 = true := by
      cases hh : kindsOK [KC.I .i64, KC.I .i64] sc0 with
      | true => rfl
      | false => rw [hh] at h; cases h
    rw [hk0, cond_true] at h
    simp only [Option.some.injEq, Prod.mk.injEq] at h
    obtain ⟨rfl, rfl⟩ := h
    have hG : SpecsOK Try.prog G_r3_Holds := ⟨S_r3_valid, S_r3_Check, S_r3_holds, trivial⟩
    have hv' : VRs E.bare (as_r3_Holds a0a a0ba a0bb a0c (nOf sn0 sc0) (colI sc0 0) (colI sc0 1) a1a a1b) vs := (AV.les.cons (AV.le.agg (AV.les.cons (AV.le.refl _) (AV.les.cons (AV.le.refl _) (AV.les.cons (AV.le.refl _) (AV.les.cons (AV.le.refl _) (AV.les.cons (AV.le.rs hk0) AV.les.nil)))))) (AV.les.cons (AV.le.refl _) AV.les.nil)) _ _ hv
    refine walk_pure' (f := 31) (fn := Try.f31) (c := bodyOf Try.f31) (rs := [.tmp 4]) (ys := as_r3_Holds a0a a0ba a0bb a0c (nOf sn0 sc0) (colI sc0 0) (colI sc0 1) a1a a1b) tab_ok (envL_ok hG) Try.func31 rfl (by kernel_rfl) rfl (by decide) (fun X hX hrho => ?_) E w vs hr hv'
    rw [Try.ntmps31]
    refine vwp_std hX rfl (tr := fun _ _ _ => False) (fun _ _ _ h => h.elim) ?_
    refine Eq.mpr (N_r3_Holds a0a a0ba a0bb a0c (nOf sn0 sc0) (colI sc0 0) (colI sc0 1) a1a a1b (fun x => x = _)) ?_
    exact H_r3_Holds a0a a0ba a0bb a0c (nOf sn0 sc0) (colI sc0 0) (colI sc0 1) a1a a1b hp rfl
  · cases h
/-! ### bagatelle/solid.Join -/
def G_sd_Join : List (Nat × Ag.Spec) := [(10, .pure g_sd_CheckBox)]
/-! loop sd_Join_0 -/
def S_sd_Join_0 (a0n : Nat) (a0a : Nat → Int) (a0b : Nat → Int) (a0c : Nat → Int) (a0d : Nat → Int) (v0t8 : Int) (v0m10 : Int) (v0m11 : Int) (v0m12 : Int) (v0m13 : Int) : VS := ⟨slotsN 46 0 [(2, AV.ptr false 0 0 0), (3, AV.ptr false 1 0 0), (6, AV.rs none a0n [CF.I .i64 a0a, CF.I .i64 a0b, CF.I .i64 a0c, CF.I .i64 a0d]), (7, AV.int .i64 ((a0n : Nat) : Int)), (8, AV.int .i64 v0t8)], [.one true 23 [AV.int .i64 0, AV.int .i64 0, AV.int .i64 0, AV.int .i64 0], .one true 23 [AV.int .i64 v0m10, AV.int .i64 v0m11, AV.int .i64 v0m12, AV.int .i64 v0m13]], false, 0⟩
def X_sd_Join_0_exit0 (a0n : Nat) (a0a : Nat → Int) (a0b : Nat → Int) (a0c : Nat → Int) (a0d : Nat → Int) (o0 : Int) (o1 : Int) (o2 : Int) (o3 : Int) (o4 : Int) : VS := ⟨slotsN 46 0 [(2, AV.ptr false 0 0 0), (3, AV.ptr false 1 0 0), (6, AV.rs none a0n [CF.I .i64 a0a, CF.I .i64 a0b, CF.I .i64 a0c, CF.I .i64 a0d]), (7, AV.int .i64 ((a0n : Nat) : Int)), (8, AV.int .i64 o0)], [.one true 23 [AV.int .i64 0, AV.int .i64 0, AV.int .i64 0, AV.int .i64 0], .one true 23 [AV.int .i64 o1, AV.int .i64 o2, AV.int .i64 o3, AV.int .i64 o4]], false, 0⟩
def X_sd_Join_0_ret (a0n : Nat) (a0a : Nat → Int) (a0b : Nat → Int) (a0c : Nat → Int) (a0d : Nat → Int) (o0 : Int) (o1 : Int) (o2 : Int) (o3 : Int) (o4 : Int) : VS := ⟨slotsN 46 0 [(2, AV.ptr false 0 0 0), (3, AV.ptr false 1 0 0), (6, AV.rs none a0n [CF.I .i64 a0a, CF.I .i64 a0b, CF.I .i64 a0c, CF.I .i64 a0d]), (7, AV.int .i64 ((a0n : Nat) : Int)), (8, AV.int .i64 o0)], [.one true 23 [AV.int .i64 0, AV.int .i64 0, AV.int .i64 0, AV.int .i64 0], .one true 23 [AV.int .i64 o1, AV.int .i64 o2, AV.int .i64 o3, AV.int .i64 o4]], false, 0⟩
theorem N_sd_Join_0 (a0n : Nat) (a0a : Nat → Int) (a0b : Nat → Int) (a0c : Nat → Int) (a0d : Nat → Int) (v0t8 : Int) (v0m10 : Int) (v0m11 : Int) (v0m12 : Int) (v0m13 : Int) (Q : Exit → VS → Prop) : vwp tab (envL G_sd_Join) (fun _ _ _ => False) 0 (lbody (loopAt (bodyOf Try.f16) 0)) (S_sd_Join_0 a0n a0a a0b a0c a0d v0t8 v0m10 v0m11 v0m12 v0m13) (QM [2, 3, 6, 7, 8] [0, 1] 2 Q) = B_sd_Join_0 a0n a0a a0b a0c a0d v0t8 v0m10 v0m11 v0m12 v0m13 (fun w0 w1 w2 w3 w4 => Q .normal (S_sd_Join_0 a0n a0a a0b a0c a0d w0 w1 w2 w3 w4)) (fun o0 o1 o2 o3 o4 => Q (.exit 0) (X_sd_Join_0_exit0 a0n a0a a0b a0c a0d o0 o1 o2 o3 o4)) (fun o0 o1 o2 o3 o4 => Q .ret (X_sd_Join_0_ret a0n a0a a0b a0c a0d o0 o1 o2 o3 o4))  := by kernel_rfl
theorem L_sd_Join_0 {X : Cx} (hX : Std Try.prog tab (envL G_sd_Join) X) (b : Code) (hb : b = bodyOf Try.f16) (a0n : Nat) (a0a : Nat → Int) (a0b : Nat → Int) (a0c : Nat → Int) (a0d : Nat → Int) (fu : Nat) (v0t8 : Int) (v0m10 : Int) (v0m11 : Int) (v0m12 : Int) (v0m13 : Int) (Q : Exit → VS → Prop) (h : W_sd_Join_0 a0n a0a a0b a0c a0d fu v0t8 v0m10 v0m11 v0m12 v0m13 (fun o0 o1 o2 o3 o4 => Q (.exit 0) (X_sd_Join_0_exit0 a0n a0a a0b a0c a0d o0 o1 o2 o3 o4)) (fun o0 o1 o2 o3 o4 => Q .ret (X_sd_Join_0_ret a0n a0a a0b a0c a0d o0 o1 o2 o3 o4))) : TrK X b 0 (S_sd_Join_0 a0n a0a a0b a0c a0d v0t8 v0m10 v0m11 v0m12 v0m13) Q := by
  subst hb
  refine loop_ok (V := Int × Int × Int × Int × Int) (fun v => S_sd_Join_0 a0n a0a a0b a0c a0d v.1 v.2.1 v.2.2.1 v.2.2.2.1 v.2.2.2.2) (fun f v => W_sd_Join_0 a0n a0a a0b a0c a0d f v.1 v.2.1 v.2.2.1 v.2.2.2.1 v.2.2.2.2 (fun o0 o1 o2 o3 o4 => Q (.exit 0) (X_sd_Join_0_exit0 a0n a0a a0b a0c a0d o0 o1 o2 o3 o4)) (fun o0 o1 o2 o3 o4 => Q .ret (X_sd_Join_0_ret a0n a0a a0b a0c a0d o0 o1 o2 o3 o4))) (fun _ h => h) (by kernel_rfl) (fun f v hv => ?_) (fuel := fu) (v0 := (v0t8, v0m10, v0m11, v0m12, v0m13)) h
  refine QM_ok (bs := [2, 3, 6, 7, 8]) (ms := [0, 1]) (nm := 2) ?_
  refine vwp_std hX rfl (tr := (fun _ _ _ => False)) (fun _ _ _ h => h.elim) ?_
  refine Eq.mpr (N_sd_Join_0 a0n a0a a0b a0c a0d v.1 v.2.1 v.2.2.1 v.2.2.2.1 v.2.2.2.2 _) ?_
  exact BM_sd_Join_0 a0n a0a a0b a0c a0d v.1 v.2.1 v.2.2.1 v.2.2.2.1 v.2.2.2.2 (fun w0 w1 w2 w3 w4 h => ⟨(w0, w1, w2, w3, w4), rfl, h⟩) (fun _ _ _ _ _ h => h) (fun _ _ _ _ _ h => h) hv
def T_sd_Join (a0n : Nat) (a0a : Nat → Int) (a0b : Nat → Int) (a0c : Nat → Int) (a0d : Nat → Int) (k : Nat) (st : VS) (Q : Exit → VS → Prop) : Prop := match k with
  | 0 => TL [2, 3, 6, 7, 8] [0, 1] 2 (convs st []) (fun st => S_sd_Join_0 a0n a0a a0b a0c a0d (intOf (tAt st 8)) (intOf (mAt st 1 0)) (intOf (mAt st 1 1)) (intOf (mAt st 1 2)) (intOf (mAt st 1 3))) (fun st => W_sd_Join_0 a0n a0a a0b a0c a0d fuel (intOf (tAt st 8)) (intOf (mAt st 1 0)) (intOf (mAt st 1 1)) (intOf (mAt st 1 2)) (intOf (mAt st 1 3)) (fun o0 o1 o2 o3 o4 => Q (.exit 0) (X_sd_Join_0_exit0 a0n a0a a0b a0c a0d o0 o1 o2 o3 o4)) (fun o0 o1 o2 o3 o4 => Q .ret (X_sd_Join_0_ret a0n a0a a0b a0c a0d o0 o1 o2 o3 o4)))
  | _ => False
theorem TS_sd_Join {X : Cx} (hX : Std Try.prog tab (envL G_sd_Join) X) (b : Code) (hb : b = bodyOf Try.f16) (a0n : Nat) (a0a : Nat → Int) (a0b : Nat → Int) (a0c : Nat → Int) (a0d : Nat → Int) (j : Nat) (st : VS) (Q : Exit → VS → Prop) (h : T_sd_Join a0n a0a a0b a0c a0d j st Q) : TrK X b j st Q := by
  unfold T_sd_Join at h
  split at h
  · exact TL_ok h (fun h' => L_sd_Join_0 hX b hb a0n a0a a0b a0c a0d _ _ _ _ _ _ Q h')
  · exact h.elim
def as_sd_Join (a0n : Nat) (a0a : Nat → Int) (a0b : Nat → Int) (a0c : Nat → Int) (a0d : Nat → Int) : List AV := [AV.rs none a0n [CF.I .i64 a0a, CF.I .i64 a0b, CF.I .i64 a0c, CF.I .i64 a0d]]
theorem N_sd_Join (a0n : Nat) (a0a : Nat → Int) (a0b : Nat → Int) (a0c : Nat → Int) (a0d : Nat → Int) (K : AV → Prop) : vwp tab (envL G_sd_Join) (T_sd_Join a0n a0a a0b a0c a0d) 0 (bodyOf Try.f16) (entry (as_sd_Join a0n a0a a0b a0c a0d) 46) (fnPost tab [.cell 2 23] fun v s => K (v.frz s.mem)) = B_sd_Join a0n a0a a0b a0c a0d (fun r0 r1 r2 r3 => K (AV.agg [AV.int .i64 r0, AV.int .i64 r1, AV.int .i64 r2, AV.int .i64 r3])) (fun p0 p1 p2 p3 p4 y0 y1 => S_sd_Join_0 a0n a0a a0b a0c a0d p0 p1 p2 p3 p4 = S_sd_Join_0 a0n a0a a0b a0c a0d p0 p1 p2 p3 p4 ∧ W_sd_Join_0 a0n a0a a0b a0c a0d fuel p0 p1 p2 p3 p4 y0 y1) := by kernel_rfl
theorem BL_sd_Join (a0n : Nat) (a0a : Nat → Int) (a0b : Nat → Int) (a0c : Nat → Int) (a0d : Nat → Int) {K0 : Int → Int → Int → Int → Prop} : B_sd_Join a0n a0a a0b a0c a0d K0 (W_sd_Join_0 a0n a0a a0b a0c a0d fuel) → B_sd_Join a0n a0a a0b a0c a0d K0 (fun p0 p1 p2 p3 p4 y0 y1 => S_sd_Join_0 a0n a0a a0b a0c a0d p0 p1 p2 p3 p4 = S_sd_Join_0 a0n a0a a0b a0c a0d p0 p1 p2 p3 p4 ∧ W_sd_Join_0 a0n a0a a0b a0c a0d fuel p0 p1 p2 p3 p4 y0 y1) := by
  unfold B_sd_Join
  repeat' first
    | exact id
    | refine Ts_imp ?_
    | refine cond_imp ?_ ?_
    | refine and_imp' ?_
    | refine fun h => ⟨rfl, WM_sd_Join_0 _ _ _ _ _  (fun _ _ _ _ _ => ?_) (fun _ _ _ _ _ => ?_) _ _ _ _ _ _  h⟩
def g_sd_Join : List AV → Option (Prop × RT)
  | [AV.rs sq0 sn0 sc0] => cond (kindsOK [KC.I .i64, KC.I .i64, KC.I .i64, KC.I .i64] sc0) (some (P_sd_Join (nOf sn0 sc0) (colI sc0 0) (colI sc0 1) (colI sc0 2) (colI sc0 3), RT.leaf (AV.agg [AV.int .i64 (F_sd_Join_0 (nOf sn0 sc0) (colI sc0 0) (colI sc0 1) (colI sc0 2) (colI sc0 3)), AV.int .i64 (F_sd_Join_1 (nOf sn0 sc0) (colI sc0 0) (colI sc0 1) (colI sc0 2) (colI sc0 3)), AV.int .i64 (F_sd_Join_2 (nOf sn0 sc0) (colI sc0 0) (colI sc0 1) (colI sc0 2) (colI sc0 3)), AV.int .i64 (F_sd_Join_3 (nOf sn0 sc0) (colI sc0 0) (colI sc0 1) (colI sc0 2) (colI sc0 3))]))) none
  | _ => none
theorem S_sd_Join : SpecOK Try.prog 16 (.pure g_sd_Join) := by
  intro xs p r h hp E w vs hr hv
  unfold g_sd_Join at h
  split at h
  · rename_i sq0 sn0 sc0
    have hk0 : kindsOK [KC.I .i64, KC.I .i64, KC.I .i64, KC.I .i64] sc0 = true := by
      cases hh : kindsOK [KC.I .i64, KC.I .i64, KC.I .i64, KC.I .i64] sc0 with
      | true => rfl
      | false => rw [hh] at h; cases h
    rw [hk0, cond_true] at h
    simp only [Option.some.injEq, Prod.mk.injEq] at h
    obtain ⟨rfl, rfl⟩ := h
    have hG : SpecsOK Try.prog G_sd_Join := ⟨S_sd_CheckBox, trivial⟩
    have hv' : VRs E.bare (as_sd_Join (nOf sn0 sc0) (colI sc0 0) (colI sc0 1) (colI sc0 2) (colI sc0 3)) vs := (AV.les.cons (AV.le.rs hk0) AV.les.nil) _ _ hv
    refine walk_pure' (f := 16) (fn := Try.f16) (c := bodyOf Try.f16) (rs := [.cell 2 23]) (ys := as_sd_Join (nOf sn0 sc0) (colI sc0 0) (colI sc0 1) (colI sc0 2) (colI sc0 3)) tab_ok (envL_ok hG) Try.func16 rfl (by kernel_rfl) rfl (by decide) (fun X hX hrho => ?_) E w vs hr hv'
    rw [Try.ntmps16]
    refine vwp_std hX rfl (tr := T_sd_Join (nOf sn0 sc0) (colI sc0 0) (colI sc0 1) (colI sc0 2) (colI sc0 3)) (fun j st Q h => TS_sd_Join hX _ rfl (nOf sn0 sc0) (colI sc0 0) (colI sc0 1) (colI sc0 2) (colI sc0 3) j st Q h) ?_
    refine Eq.mpr (N_sd_Join (nOf sn0 sc0) (colI sc0 0) (colI sc0 1) (colI sc0 2) (colI sc0 3) (fun x => x = _)) ?_
    exact BL_sd_Join (nOf sn0 sc0) (colI sc0 0) (colI sc0 1) (colI sc0 2) (colI sc0 3) (H_sd_Join (nOf sn0 sc0) (colI sc0 0) (colI sc0 1) (colI sc0 2) (colI sc0 3) hp rfl)
  · cases h
/-! ### (bagatelle/solid.polygon).box -/
def G_sd_polygon_box : List (Nat × Ag.Spec) := [(16, .pure g_sd_Join), (41, .pure g_sd_grown)]
/-! loop sd_polygon_box_0 -/
def S_sd_polygon_box_0 (a0an : Nat) (a0aa : Nat → Int) (a0ab : Nat → Int) (v0t13 : Int) (v0b2c0 : (Nat → Int)) (v0b2c1 : (Nat → Int)) (v0b2c2 : (Nat → Int)) (v0b2c3 : (Nat → Int)) : VS := ⟨slotsN 26 0 [(2, AV.ptr false 1 0 0), (3, AV.sl (some false) 2 (Int.toNat ((a0an : Nat) : Int)) 4), (11, AV.rs none a0an [CF.I .i64 a0aa, CF.I .i64 a0ab]), (12, AV.int .i64 ((a0an : Nat) : Int)), (13, AV.int .i64 v0t13)], [.gone, .one true 23 [AV.int .i64 0, AV.int .i64 0, AV.int .i64 0, AV.int .i64 0], .many true 23 (Int.toNat ((a0an : Nat) : Int)) [CF.I .i64 v0b2c0, CF.I .i64 v0b2c1, CF.I .i64 v0b2c2, CF.I .i64 v0b2c3]], false, 0⟩
def X_sd_polygon_box_0_exit0 (a0an : Nat) (a0aa : Nat → Int) (a0ab : Nat → Int) (o0 : Int) (o1 : (Nat → Int)) (o2 : (Nat → Int)) (o3 : (Nat → Int)) (o4 : (Nat → Int)) : VS := ⟨slotsN 26 0 [(2, AV.ptr false 1 0 0), (3, AV.sl (some false) 2 (Int.toNat ((a0an : Nat) : Int)) 4), (11, AV.rs none a0an [CF.I .i64 a0aa, CF.I .i64 a0ab]), (12, AV.int .i64 ((a0an : Nat) : Int)), (13, AV.int .i64 o0)], [.gone, .one true 23 [AV.int .i64 0, AV.int .i64 0, AV.int .i64 0, AV.int .i64 0], .many true 23 (Int.toNat ((a0an : Nat) : Int)) [CF.I .i64 o1, CF.I .i64 o2, CF.I .i64 o3, CF.I .i64 o4]], false, 0⟩
theorem N_sd_polygon_box_0 (a0an : Nat) (a0aa : Nat → Int) (a0ab : Nat → Int) (v0t13 : Int) (v0b2c0 : (Nat → Int)) (v0b2c1 : (Nat → Int)) (v0b2c2 : (Nat → Int)) (v0b2c3 : (Nat → Int)) (Q : Exit → VS → Prop) : vwp tab (envL G_sd_polygon_box) (fun _ _ _ => False) 0 (lbody (loopAt (bodyOf Try.f137) 0)) (S_sd_polygon_box_0 a0an a0aa a0ab v0t13 v0b2c0 v0b2c1 v0b2c2 v0b2c3) (QM [2, 3, 11, 12, 13] [1, 2] 3 Q) = B_sd_polygon_box_0 a0an a0aa a0ab v0t13 v0b2c0 v0b2c1 v0b2c2 v0b2c3 (fun w0 w1 w2 w3 w4 => Q .normal (S_sd_polygon_box_0 a0an a0aa a0ab w0 w1 w2 w3 w4)) (fun o0 o1 o2 o3 o4 => Q (.exit 0) (X_sd_polygon_box_0_exit0 a0an a0aa a0ab o0 o1 o2 o3 o4))  := by kernel_rfl
theorem L_sd_polygon_box_0 {X : Cx} (hX : Std Try.prog tab (envL G_sd_polygon_box) X) (b : Code) (hb : b = bodyOf Try.f137) (a0an : Nat) (a0aa : Nat → Int) (a0ab : Nat → Int) (fu : Nat) (v0t13 : Int) (v0b2c0 : (Nat → Int)) (v0b2c1 : (Nat → Int)) (v0b2c2 : (Nat → Int)) (v0b2c3 : (Nat → Int)) (Q : Exit → VS → Prop) (h : W_sd_polygon_box_0 a0an a0aa a0ab fu v0t13 v0b2c0 v0b2c1 v0b2c2 v0b2c3 (fun o0 o1 o2 o3 o4 => Q (.exit 0) (X_sd_polygon_box_0_exit0 a0an a0aa a0ab o0 o1 o2 o3 o4))) : TrK X b 0 (S_sd_polygon_box_0 a0an a0aa a0ab v0t13 v0b2c0 v0b2c1 v0b2c2 v0b2c3) Q := by
  subst hb
  refine loop_ok (V := Int × (Nat → Int) × (Nat → Int) × (Nat → Int) × (Nat → Int)) (fun v => S_sd_polygon_box_0 a0an a0aa a0ab v.1 v.2.1 v.2.2.1 v.2.2.2.1 v.2.2.2.2) (fun f v => W_sd_polygon_box_0 a0an a0aa a0ab f v.1 v.2.1 v.2.2.1 v.2.2.2.1 v.2.2.2.2 (fun o0 o1 o2 o3 o4 => Q (.exit 0) (X_sd_polygon_box_0_exit0 a0an a0aa a0ab o0 o1 o2 o3 o4))) (fun _ h => h) (by kernel_rfl) (fun f v hv => ?_) (fuel := fu) (v0 := (v0t13, v0b2c0, v0b2c1, v0b2c2, v0b2c3)) h
  refine QM_ok (bs := [2, 3, 11, 12, 13]) (ms := [1, 2]) (nm := 3) ?_
  refine vwp_std hX rfl (tr := (fun _ _ _ => False)) (fun _ _ _ h => h.elim) ?_
  refine Eq.mpr (N_sd_polygon_box_0 a0an a0aa a0ab v.1 v.2.1 v.2.2.1 v.2.2.2.1 v.2.2.2.2 _) ?_
  exact BM_sd_polygon_box_0 a0an a0aa a0ab v.1 v.2.1 v.2.2.1 v.2.2.2.1 v.2.2.2.2 (fun w0 w1 w2 w3 w4 h => ⟨(w0, w1, w2, w3, w4), rfl, h⟩) (fun _ _ _ _ _ h => h) hv
def T_sd_polygon_box (a0an : Nat) (a0aa : Nat → Int) (a0ab : Nat → Int) (k : Nat) (st : VS) (Q : Exit → VS → Prop) : Prop := match k with
  | 0 => TL [2, 3, 11, 12, 13] [1, 2] 3 (convs st []) (fun st => S_sd_polygon_box_0 a0an a0aa a0ab (intOf (tAt st 13)) (colI (cAB (blkAt st 2)) 0) (colI (cAB (blkAt st 2)) 1) (colI (cAB (blkAt st 2)) 2) (colI (cAB (blkAt st 2)) 3)) (fun st => W_sd_polygon_box_0 a0an a0aa a0ab fuel (intOf (tAt st 13)) (colI (cAB (blkAt st 2)) 0) (colI (cAB (blkAt st 2)) 1) (colI (cAB (blkAt st 2)) 2) (colI (cAB (blkAt st 2)) 3) (fun o0 o1 o2 o3 o4 => Q (.exit 0) (X_sd_polygon_box_0_exit0 a0an a0aa a0ab o0 o1 o2 o3 o4)))
  | _ => False
theorem TS_sd_polygon_box {X : Cx} (hX : Std Try.prog tab (envL G_sd_polygon_box) X) (b : Code) (hb : b = bodyOf Try.f137) (a0an : Nat) (a0aa : Nat → Int) (a0ab : Nat → Int) (j : Nat) (st : VS) (Q : Exit → VS → Prop) (h : T_sd_polygon_box a0an a0aa a0ab j st Q) : TrK X b j st Q := by
  unfold T_sd_polygon_box at h
  split at h
  · exact TL_ok h (fun h' => L_sd_polygon_box_0 hX b hb a0an a0aa a0ab _ _ _ _ _ _ Q h')
  · exact h.elim
def as_sd_polygon_box (a0an : Nat) (a0aa : Nat → Int) (a0ab : Nat → Int) : List AV := [AV.agg [AV.rs none a0an [CF.I .i64 a0aa, CF.I .i64 a0ab]]]
theorem N_sd_polygon_box (a0an : Nat) (a0aa : Nat → Int) (a0ab : Nat → Int) (K : AV → Prop) : vwp tab (envL G_sd_polygon_box) (T_sd_polygon_box a0an a0aa a0ab) 0 (bodyOf Try.f137) (entry (as_sd_polygon_box a0an a0aa a0ab) 26) (fnPost tab [.cell 2 23] fun v s => K (v.frz s.mem)) = B_sd_polygon_box a0an a0aa a0ab (fun r0 r1 r2 r3 => K (AV.agg [AV.int .i64 r0, AV.int .i64 r1, AV.int .i64 r2, AV.int .i64 r3])) (fun p0 p1 p2 p3 p4 y0 => S_sd_polygon_box_0 a0an a0aa a0ab p0 p1 p2 p3 p4 = S_sd_polygon_box_0 a0an a0aa a0ab p0 p1 p2 p3 p4 ∧ W_sd_polygon_box_0 a0an a0aa a0ab fuel p0 p1 p2 p3 p4 y0) := by kernel_rfl
theorem BL_sd_polygon_box (a0an : Nat) (a0aa : Nat → Int) (a0ab : Nat → Int) {K0 : Int → Int → Int → Int → Prop} : B_sd_polygon_box a0an a0aa a0ab K0 (W_sd_polygon_box_0 a0an a0aa a0ab fuel) → B_sd_polygon_box a0an a0aa a0ab K0 (fun p0 p1 p2 p3 p4 y0 => S_sd_polygon_box_0 a0an a0aa a0ab p0 p1 p2 p3 p4 = S_sd_polygon_box_0 a0an a0aa a0ab p0 p1 p2 p3 p4 ∧ W_sd_polygon_box_0 a0an a0aa a0ab fuel p0 p1 p2 p3 p4 y0) := by
  unfold B_sd_polygon_box
  repeat' first
    | exact id
    | refine Ts_imp ?_
    | refine cond_imp ?_ ?_
    | refine and_imp' ?_
    | refine fun h => ⟨rfl, WM_sd_polygon_box_0 _ _ _  (fun _ _ _ _ _ => ?_) _ _ _ _ _ _  h⟩
def g_sd_polygon_box : List AV → Option (Prop × RT)
  | [AV.agg [AV.rs sq0 sn0 sc0]] => cond (kindsOK [KC.I .i64, KC.I .i64] sc0) (some (P_sd_polygon_box (nOf sn0 sc0) (colI sc0 0) (colI sc0 1), RT.leaf (AV.agg [AV.int .i64 (F_sd_polygon_box_0 (nOf sn0 sc0) (colI sc0 0) (colI sc0 1)), AV.int .i64 (F_sd_polygon_box_1 (nOf sn0 sc0) (colI sc0 0) (colI sc0 1)), AV.int .i64 (F_sd_polygon_box_2 (nOf sn0 sc0) (colI sc0 0) (colI sc0 1)), AV.int .i64 (F_sd_polygon_box_3 (nOf sn0 sc0) (colI sc0 0) (colI sc0 1))]))) none
  | _ => none
theorem S_sd_polygon_box : SpecOK Try.prog 137 (.pure g_sd_polygon_box) := by
  intro xs p r h hp E w vs hr hv
  unfold g_sd_polygon_box at h
  split at h
  · rename_i sq0 sn0 sc0
    have hk0 : kindsOK [KC.I .i64, KC.I .i64] sc0 = true := by
      cases hh : kindsOK [KC.I .i64, KC.I .i64] sc0 with
      | true => rfl
      | false => rw [hh] at h; cases h
    rw [hk0, cond_true] at h
    simp only [Option.some.injEq, Prod.mk.injEq] at h
    obtain ⟨rfl, rfl⟩ := h
    have hG : SpecsOK Try.prog G_sd_polygon_box := ⟨S_sd_Join, S_sd_grown, trivial⟩
    have hv' : VRs E.bare (as_sd_polygon_box (nOf sn0 sc0) (colI sc0 0) (colI sc0 1)) vs := (AV.les.cons (AV.le.agg (AV.les.cons (AV.le.rs hk0) AV.les.nil)) AV.les.nil) _ _ hv
    refine walk_pure' (f := 137) (fn := Try.f137) (c := bodyOf Try.f137) (rs := [.cell 2 23]) (ys := as_sd_polygon_box (nOf sn0 sc0) (colI sc0 0) (colI sc0 1)) tab_ok (envL_ok hG) Try.func137 rfl (by kernel_rfl) rfl (by decide) (fun X hX hrho => ?_) E w vs hr hv'
    rw [Try.ntmps137]
    refine vwp_std hX rfl (tr := T_sd_polygon_box (nOf sn0 sc0) (colI sc0 0) (colI sc0 1)) (fun j st Q h => TS_sd_polygon_box hX _ rfl (nOf sn0 sc0) (colI sc0 0) (colI sc0 1) j st Q h) ?_
    refine Eq.mpr (N_sd_polygon_box (nOf sn0 sc0) (colI sc0 0) (colI sc0 1) (fun x => x = _)) ?_
    exact BL_sd_polygon_box (nOf sn0 sc0) (colI sc0 0) (colI sc0 1) (H_sd_polygon_box (nOf sn0 sc0) (colI sc0 0) (colI sc0 1) hp rfl)
  · cases h
/-! ### (bagatelle/solid.disc).box -/
def G_sd_disc_box : List (Nat × Ag.Spec) := [(41, .pure g_sd_grown)]
def as_sd_disc_box (a0aa : Int) (a0ab : Int) (a0b : Int) : List AV := [AV.agg [AV.int .i64 a0aa, AV.int .i64 a0ab, AV.int .i64 a0b]]
theorem N_sd_disc_box (a0aa : Int) (a0ab : Int) (a0b : Int) (K : AV → Prop) : vwp tab (envL G_sd_disc_box) (fun _ _ _ => False) 0 (bodyOf Try.f138) (entry (as_sd_disc_box a0aa a0ab a0b) 8) (fnPost tab [.cell 2 23] fun v s => K (v.frz s.mem)) = B_sd_disc_box a0aa a0ab a0b (fun r0 r1 r2 r3 => K (AV.agg [AV.int .i64 r0, AV.int .i64 r1, AV.int .i64 r2, AV.int .i64 r3]))  := by kernel_rfl
def g_sd_disc_box : List AV → Option (Prop × RT)
  | [AV.agg [AV.int .i64 a0aa, AV.int .i64 a0ab, AV.int .i64 a0b]] => some (P_sd_disc_box a0aa a0ab a0b, RT.leaf (AV.agg [AV.int .i64 (F_sd_disc_box_0 a0aa a0ab a0b), AV.int .i64 (F_sd_disc_box_1 a0aa a0ab a0b), AV.int .i64 (F_sd_disc_box_2 a0aa a0ab a0b), AV.int .i64 (F_sd_disc_box_3 a0aa a0ab a0b)]))
  | _ => none
theorem S_sd_disc_box : SpecOK Try.prog 138 (.pure g_sd_disc_box) := by
  intro xs p r h hp E w vs hr hv
  unfold g_sd_disc_box at h
  split at h
  · rename_i a0aa a0ab a0b
    simp only [Option.some.injEq, Prod.mk.injEq] at h
    obtain ⟨rfl, rfl⟩ := h
    have hG : SpecsOK Try.prog G_sd_disc_box := ⟨S_sd_grown, trivial⟩
    refine walk_pure' (f := 138) (fn := Try.f138) (c := bodyOf Try.f138) (rs := [.cell 2 23]) (ys := as_sd_disc_box a0aa a0ab a0b) tab_ok (envL_ok hG) Try.func138 rfl (by kernel_rfl) rfl (by decide) (fun X hX hrho => ?_) E w vs hr hv
    rw [Try.ntmps138]
    refine vwp_std hX rfl (tr := fun _ _ _ => False) (fun _ _ _ h => h.elim) ?_
    refine Eq.mpr (N_sd_disc_box a0aa a0ab a0b (fun x => x = _)) ?_
    exact H_sd_disc_box a0aa a0ab a0b hp rfl
  · cases h
/-! ### bagatelle/solid.BoxOf -/
def G_sd_BoxOf : List (Nat × Ag.Spec) := [(46, .pure g_sd_figureOf), (137, .pure g_sd_polygon_box), (138, .pure g_sd_disc_box)]
def as_sd_BoxOf (a0a : Int) (a0ba : Int) (a0bb : Int) (a0c : Int) (a0dn : Nat) (a0da : Nat → Int) (a0db : Nat → Int) : List AV := [AV.agg [AV.int .i64 a0a, AV.int .i64 a0ba, AV.int .i64 a0bb, AV.int .i64 a0c, AV.rs none a0dn [CF.I .i64 a0da, CF.I .i64 a0db]]]
theorem N_sd_BoxOf (a0a : Int) (a0ba : Int) (a0bb : Int) (a0c : Int) (a0dn : Nat) (a0da : Nat → Int) (a0db : Nat → Int) (K : AV → Prop) : vwp tab (envL G_sd_BoxOf) (fun _ _ _ => False) 0 (bodyOf Try.f32) (entry (as_sd_BoxOf a0a a0ba a0bb a0c a0dn a0da a0db) 11) (fnPost tab [.cell 2 23] fun v s => K (v.frz s.mem)) = B_sd_BoxOf a0a a0ba a0bb a0c a0dn a0da a0db (fun r0 r1 r2 r3 => K (AV.agg [AV.int .i64 r0, AV.int .i64 r1, AV.int .i64 r2, AV.int .i64 r3]))  := by kernel_rfl
def g_sd_BoxOf : List AV → Option (Prop × RT)
  | [AV.agg [AV.int .i64 a0a, AV.int .i64 a0ba, AV.int .i64 a0bb, AV.int .i64 a0c, AV.rs sq0 sn0 sc0]] => cond (kindsOK [KC.I .i64, KC.I .i64] sc0) (some (P_sd_BoxOf a0a a0ba a0bb a0c (nOf sn0 sc0) (colI sc0 0) (colI sc0 1), RT.leaf (AV.agg [AV.int .i64 (F_sd_BoxOf_0 a0a a0ba a0bb a0c (nOf sn0 sc0) (colI sc0 0) (colI sc0 1)), AV.int .i64 (F_sd_BoxOf_1 a0a a0ba a0bb a0c (nOf sn0 sc0) (colI sc0 0) (colI sc0 1)), AV.int .i64 (F_sd_BoxOf_2 a0a a0ba a0bb a0c (nOf sn0 sc0) (colI sc0 0) (colI sc0 1)), AV.int .i64 (F_sd_BoxOf_3 a0a a0ba a0bb a0c (nOf sn0 sc0) (colI sc0 0) (colI sc0 1))]))) none
  | _ => none
theorem S_sd_BoxOf : SpecOK Try.prog 32 (.pure g_sd_BoxOf) := by
  intro xs p r h hp E w vs hr hv
  unfold g_sd_BoxOf at h
  split at h
  · rename_i a0a a0ba a0bb a0c sq0 sn0 sc0
    have hk0 : kindsOK [KC.I .i64, KC.I .i64] sc0 = true := by
      cases hh : kindsOK [KC.I .i64, KC.I .i64] sc0 with
      | true => rfl
      | false => rw [hh] at h; cases h
    rw [hk0, cond_true] at h
    simp only [Option.some.injEq, Prod.mk.injEq] at h
    obtain ⟨rfl, rfl⟩ := h
    have hG : SpecsOK Try.prog G_sd_BoxOf := ⟨S_sd_figureOf, S_sd_polygon_box, S_sd_disc_box, trivial⟩
    have hv' : VRs E.bare (as_sd_BoxOf a0a a0ba a0bb a0c (nOf sn0 sc0) (colI sc0 0) (colI sc0 1)) vs := (AV.les.cons (AV.le.agg (AV.les.cons (AV.le.refl _) (AV.les.cons (AV.le.refl _) (AV.les.cons (AV.le.refl _) (AV.les.cons (AV.le.refl _) (AV.les.cons (AV.le.rs hk0) AV.les.nil)))))) AV.les.nil) _ _ hv
    refine walk_pure' (f := 32) (fn := Try.f32) (c := bodyOf Try.f32) (rs := [.cell 2 23]) (ys := as_sd_BoxOf a0a a0ba a0bb a0c (nOf sn0 sc0) (colI sc0 0) (colI sc0 1)) tab_ok (envL_ok hG) Try.func32 rfl (by kernel_rfl) rfl (by decide) (fun X hX hrho => ?_) E w vs hr hv'
    rw [Try.ntmps32]
    refine vwp_std hX rfl (tr := fun _ _ _ => False) (fun _ _ _ h => h.elim) ?_
    refine Eq.mpr (N_sd_BoxOf a0a a0ba a0bb a0c (nOf sn0 sc0) (colI sc0 0) (colI sc0 1) (fun x => x = _)) ?_
    exact H_sd_BoxOf a0a a0ba a0bb a0c (nOf sn0 sc0) (colI sc0 0) (colI sc0 1) hp rfl
  · cases h
/-! ### bagatelle/bagatelleref03.Join -/
def G_r3_Join : List (Nat × Ag.Spec) := [(11, .pure g_r3_CheckBox)]
/-! loop r3_Join_0 -/
def S_r3_Join_0 (a0n : Nat) (a0a : Nat → Int) (a0b : Nat → Int) (a0c : Nat → Int) (a0d : Nat → Int) (v0t4 : Int) (v0m10 : Int) (v0m11 : Int) (v0m12 : Int) (v0m13 : Int) : VS := ⟨slotsN 58 0 [(0, AV.rs none a0n [CF.I .i64 a0a, CF.I .i64 a0b, CF.I .i64 a0c, CF.I .i64 a0d]), (2, AV.ptr false 0 0 0), (3, AV.ptr false 1 0 0), (4, AV.int .i64 v0t4)], [.one true 23 [AV.int .i64 0, AV.int .i64 0, AV.int .i64 0, AV.int .i64 0], .one true 23 [AV.int .i64 v0m10, AV.int .i64 v0m11, AV.int .i64 v0m12, AV.int .i64 v0m13]], false, 0⟩
def X_r3_Join_0_exit0 (a0n : Nat) (a0a : Nat → Int) (a0b : Nat → Int) (a0c : Nat → Int) (a0d : Nat → Int) (o0 : Int) (o1 : Int) (o2 : Int) (o3 : Int) (o4 : Int) : VS := ⟨slotsN 58 0 [(0, AV.rs none a0n [CF.I .i64 a0a, CF.I .i64 a0b, CF.I .i64 a0c, CF.I .i64 a0d]), (2, AV.ptr false 0 0 0), (3, AV.ptr false 1 0 0), (4, AV.int .i64 o0)], [.one true 23 [AV.int .i64 0, AV.int .i64 0, AV.int .i64 0, AV.int .i64 0], .one true 23 [AV.int .i64 o1, AV.int .i64 o2, AV.int .i64 o3, AV.int .i64 o4]], false, 0⟩
def X_r3_Join_0_ret (a0n : Nat) (a0a : Nat → Int) (a0b : Nat → Int) (a0c : Nat → Int) (a0d : Nat → Int) (o0 : Int) (o1 : Int) (o2 : Int) (o3 : Int) (o4 : Int) : VS := ⟨slotsN 58 0 [(0, AV.rs none a0n [CF.I .i64 a0a, CF.I .i64 a0b, CF.I .i64 a0c, CF.I .i64 a0d]), (2, AV.ptr false 0 0 0), (3, AV.ptr false 1 0 0), (4, AV.int .i64 o0)], [.one true 23 [AV.int .i64 0, AV.int .i64 0, AV.int .i64 0, AV.int .i64 0], .one true 23 [AV.int .i64 o1, AV.int .i64 o2, AV.int .i64 o3, AV.int .i64 o4]], false, 0⟩
theorem N_r3_Join_0 (a0n : Nat) (a0a : Nat → Int) (a0b : Nat → Int) (a0c : Nat → Int) (a0d : Nat → Int) (v0t4 : Int) (v0m10 : Int) (v0m11 : Int) (v0m12 : Int) (v0m13 : Int) (Q : Exit → VS → Prop) : vwp tab (envL G_r3_Join) (fun _ _ _ => False) 0 (lbody (loopAt (bodyOf Try.f17) 0)) (S_r3_Join_0 a0n a0a a0b a0c a0d v0t4 v0m10 v0m11 v0m12 v0m13) (QM [0, 2, 3, 4] [0, 1] 2 Q) = B_r3_Join_0 a0n a0a a0b a0c a0d v0t4 v0m10 v0m11 v0m12 v0m13 (fun w0 w1 w2 w3 w4 => Q .normal (S_r3_Join_0 a0n a0a a0b a0c a0d w0 w1 w2 w3 w4)) (fun o0 o1 o2 o3 o4 => Q (.exit 0) (X_r3_Join_0_exit0 a0n a0a a0b a0c a0d o0 o1 o2 o3 o4)) (fun o0 o1 o2 o3 o4 => Q .ret (X_r3_Join_0_ret a0n a0a a0b a0c a0d o0 o1 o2 o3 o4))  := by kernel_rfl
theorem L_r3_Join_0 {X : Cx} (hX : Std Try.prog tab (envL G_r3_Join) X) (b : Code) (hb : b = bodyOf Try.f17) (a0n : Nat) (a0a : Nat → Int) (a0b : Nat → Int) (a0c : Nat → Int) (a0d : Nat → Int) (fu : Nat) (v0t4 : Int) (v0m10 : Int) (v0m11 : Int) (v0m12 : Int) (v0m13 : Int) (Q : Exit → VS → Prop) (h : W_r3_Join_0 a0n a0a a0b a0c a0d fu v0t4 v0m10 v0m11 v0m12 v0m13 (fun o0 o1 o2 o3 o4 => Q (.exit 0) (X_r3_Join_0_exit0 a0n a0a a0b a0c a0d o0 o1 o2 o3 o4)) (fun o0 o1 o2 o3 o4 => Q .ret (X_r3_Join_0_ret a0n a0a a0b a0c a0d o0 o1 o2 o3 o4))) : TrK X b 0 (S_r3_Join_0 a0n a0a a0b a0c a0d v0t4 v0m10 v0m11 v0m12 v0m13) Q := by
  subst hb
  refine loop_ok (V := Int × Int × Int × Int × Int) (fun v => S_r3_Join_0 a0n a0a a0b a0c a0d v.1 v.2.1 v.2.2.1 v.2.2.2.1 v.2.2.2.2) (fun f v => W_r3_Join_0 a0n a0a a0b a0c a0d f v.1 v.2.1 v.2.2.1 v.2.2.2.1 v.2.2.2.2 (fun o0 o1 o2 o3 o4 => Q (.exit 0) (X_r3_Join_0_exit0 a0n a0a a0b a0c a0d o0 o1 o2 o3 o4)) (fun o0 o1 o2 o3 o4 => Q .ret (X_r3_Join_0_ret a0n a0a a0b a0c a0d o0 o1 o2 o3 o4))) (fun _ h => h) (by kernel_rfl) (fun f v hv => ?_) (fuel := fu) (v0 := (v0t4, v0m10, v0m11, v0m12, v0m13)) h
  refine QM_ok (bs := [0, 2, 3, 4]) (ms := [0, 1]) (nm := 2) ?_
  refine vwp_std hX rfl (tr := (fun _ _ _ => False)) (fun _ _ _ h => h.elim) ?_
  refine Eq.mpr (N_r3_Join_0 a0n a0a a0b a0c a0d v.1 v.2.1 v.2.2.1 v.2.2.2.1 v.2.2.2.2 _) ?_
  exact BM_r3_Join_0 a0n a0a a0b a0c a0d v.1 v.2.1 v.2.2.1 v.2.2.2.1 v.2.2.2.2 (fun w0 w1 w2 w3 w4 h => ⟨(w0, w1, w2, w3, w4), rfl, h⟩) (fun _ _ _ _ _ h => h) (fun _ _ _ _ _ h => h) hv
def T_r3_Join (a0n : Nat) (a0a : Nat → Int) (a0b : Nat → Int) (a0c : Nat → Int) (a0d : Nat → Int) (k : Nat) (st : VS) (Q : Exit → VS → Prop) : Prop := match k with
  | 0 => TL [0, 2, 3, 4] [0, 1] 2 (convs st []) (fun st => S_r3_Join_0 a0n a0a a0b a0c a0d (intOf (tAt st 4)) (intOf (mAt st 1 0)) (intOf (mAt st 1 1)) (intOf (mAt st 1 2)) (intOf (mAt st 1 3))) (fun st => W_r3_Join_0 a0n a0a a0b a0c a0d fuel (intOf (tAt st 4)) (intOf (mAt st 1 0)) (intOf (mAt st 1 1)) (intOf (mAt st 1 2)) (intOf (mAt st 1 3)) (fun o0 o1 o2 o3 o4 => Q (.exit 0) (X_r3_Join_0_exit0 a0n a0a a0b a0c a0d o0 o1 o2 o3 o4)) (fun o0 o1 o2 o3 o4 => Q .ret (X_r3_Join_0_ret a0n a0a a0b a0c a0d o0 o1 o2 o3 o4)))
  | _ => False
theorem TS_r3_Join {X : Cx} (hX : Std Try.prog tab (envL G_r3_Join) X) (b : Code) (hb : b = bodyOf Try.f17) (a0n : Nat) (a0a : Nat → Int) (a0b : Nat → Int) (a0c : Nat → Int) (a0d : Nat → Int) (j : Nat) (st : VS) (Q : Exit → VS → Prop) (h : T_r3_Join a0n a0a a0b a0c a0d j st Q) : TrK X b j st Q := by
  unfold T_r3_Join at h
  split at h
  · exact TL_ok h (fun h' => L_r3_Join_0 hX b hb a0n a0a a0b a0c a0d _ _ _ _ _ _ Q h')
  · exact h.elim
def as_r3_Join (a0n : Nat) (a0a : Nat → Int) (a0b : Nat → Int) (a0c : Nat → Int) (a0d : Nat → Int) : List AV := [AV.rs none a0n [CF.I .i64 a0a, CF.I .i64 a0b, CF.I .i64 a0c, CF.I .i64 a0d]]
theorem N_r3_Join (a0n : Nat) (a0a : Nat → Int) (a0b : Nat → Int) (a0c : Nat → Int) (a0d : Nat → Int) (K : AV → Prop) : vwp tab (envL G_r3_Join) (T_r3_Join a0n a0a a0b a0c a0d) 0 (bodyOf Try.f17) (entry (as_r3_Join a0n a0a a0b a0c a0d) 58) (fnPost tab [.cell 2 23] fun v s => K (v.frz s.mem)) = B_r3_Join a0n a0a a0b a0c a0d (fun r0 r1 r2 r3 => K (AV.agg [AV.int .i64 r0, AV.int .i64 r1, AV.int .i64 r2, AV.int .i64 r3])) (fun p0 p1 p2 p3 p4 y0 y1 => S_r3_Join_0 a0n a0a a0b a0c a0d p0 p1 p2 p3 p4 = S_r3_Join_0 a0n a0a a0b a0c a0d p0 p1 p2 p3 p4 ∧ W_r3_Join_0 a0n a0a a0b a0c a0d fuel p0 p1 p2 p3 p4 y0 y1) := by kernel_rfl
theorem BL_r3_Join (a0n : Nat) (a0a : Nat → Int) (a0b : Nat → Int) (a0c : Nat → Int) (a0d : Nat → Int) {K0 : Int → Int → Int → Int → Prop} : B_r3_Join a0n a0a a0b a0c a0d K0 (W_r3_Join_0 a0n a0a a0b a0c a0d fuel) → B_r3_Join a0n a0a a0b a0c a0d K0 (fun p0 p1 p2 p3 p4 y0 y1 => S_r3_Join_0 a0n a0a a0b a0c a0d p0 p1 p2 p3 p4 = S_r3_Join_0 a0n a0a a0b a0c a0d p0 p1 p2 p3 p4 ∧ W_r3_Join_0 a0n a0a a0b a0c a0d fuel p0 p1 p2 p3 p4 y0 y1) := by
  unfold B_r3_Join
  repeat' first
    | exact id
    | refine Ts_imp ?_
    | refine cond_imp ?_ ?_
    | refine and_imp' ?_
    | refine fun h => ⟨rfl, WM_r3_Join_0 _ _ _ _ _  (fun _ _ _ _ _ => ?_) (fun _ _ _ _ _ => ?_) _ _ _ _ _ _  h⟩
def g_r3_Join : List AV → Option (Prop × RT)
  | [AV.rs sq0 sn0 sc0] => cond (kindsOK [KC.I .i64, KC.I .i64, KC.I .i64, KC.I .i64] sc0) (some (P_r3_Join (nOf sn0 sc0) (colI sc0 0) (colI sc0 1) (colI sc0 2) (colI sc0 3), RT.leaf (AV.agg [AV.int .i64 (F_r3_Join_0 (nOf sn0 sc0) (colI sc0 0) (colI sc0 1) (colI sc0 2) (colI sc0 3)), AV.int .i64 (F_r3_Join_1 (nOf sn0 sc0) (colI sc0 0) (colI sc0 1) (colI sc0 2) (colI sc0 3)), AV.int .i64 (F_r3_Join_2 (nOf sn0 sc0) (colI sc0 0) (colI sc0 1) (colI sc0 2) (colI sc0 3)), AV.int .i64 (F_r3_Join_3 (nOf sn0 sc0) (colI sc0 0) (colI sc0 1) (colI sc0 2) (colI sc0 3))]))) none
  | _ => none
theorem S_r3_Join : SpecOK Try.prog 17 (.pure g_r3_Join) := by
  intro xs p r h hp E w vs hr hv
  unfold g_r3_Join at h
  split at h
  · rename_i sq0 sn0 sc0
    have hk0 : kindsOK [KC.I .i64, KC.I .i64, KC.I .i64, KC.I .i64] sc0 = true := by
      cases hh : kindsOK [KC.I .i64, KC.I .i64, KC.I .i64, KC.I .i64] sc0 with
      | true => rfl
      | false => rw [hh] at h; cases h
    rw [hk0, cond_true] at h
    simp only [Option.some.injEq, Prod.mk.injEq] at h
    obtain ⟨rfl, rfl⟩ := h
    have hG : SpecsOK Try.prog G_r3_Join := ⟨S_r3_CheckBox, trivial⟩
    have hv' : VRs E.bare (as_r3_Join (nOf sn0 sc0) (colI sc0 0) (colI sc0 1) (colI sc0 2) (colI sc0 3)) vs := (AV.les.cons (AV.le.rs hk0) AV.les.nil) _ _ hv
    refine walk_pure' (f := 17) (fn := Try.f17) (c := bodyOf Try.f17) (rs := [.cell 2 23]) (ys := as_r3_Join (nOf sn0 sc0) (colI sc0 0) (colI sc0 1) (colI sc0 2) (colI sc0 3)) tab_ok (envL_ok hG) Try.func17 rfl (by kernel_rfl) rfl (by decide) (fun X hX hrho => ?_) E w vs hr hv'
    rw [Try.ntmps17]
    refine vwp_std hX rfl (tr := T_r3_Join (nOf sn0 sc0) (colI sc0 0) (colI sc0 1) (colI sc0 2) (colI sc0 3)) (fun j st Q h => TS_r3_Join hX _ rfl (nOf sn0 sc0) (colI sc0 0) (colI sc0 1) (colI sc0 2) (colI sc0 3) j st Q h) ?_
    refine Eq.mpr (N_r3_Join (nOf sn0 sc0) (colI sc0 0) (colI sc0 1) (colI sc0 2) (colI sc0 3) (fun x => x = _)) ?_
    exact BL_r3_Join (nOf sn0 sc0) (colI sc0 0) (colI sc0 1) (colI sc0 2) (colI sc0 3) (H_r3_Join (nOf sn0 sc0) (colI sc0 0) (colI sc0 1) (colI sc0 2) (colI sc0 3) hp rfl)
  · cases h
/-! ### bagatelle/bagatelleref03.BoxOf -/
def G_r3_BoxOf : List (Nat × Ag.Spec) := [(17, .pure g_r3_Join), (47, .pure g_r3_Check), (49, .pure g_r3_around)]
/-! loop r3_BoxOf_0 -/
def S_r3_BoxOf_0 (a0a : Int) (a0ba : Int) (a0bb : Int) (a0c : Int) (a0dn : Nat) (a0da : Nat → Int) (a0db : Nat → Int) (v0t4 : Int) (v0m20 : Int) (v0m21 : Int) (v0m22 : Int) (v0m23 : Int) : VS := ⟨slotsN 39 0 [(1, AV.ptr false 0 0 0), (2, AV.ptr false 1 0 0), (3, AV.ptr false 2 0 0), (4, AV.int .i64 v0t4)], [.one true 46 [AV.int .i64 a0a, AV.int .i64 a0ba, AV.int .i64 a0bb, AV.int .i64 a0c, AV.rs none a0dn [CF.I .i64 a0da, CF.I .i64 a0db]], .one true 23 [AV.int .i64 0, AV.int .i64 0, AV.int .i64 0, AV.int .i64 0], .one true 23 [AV.int .i64 v0m20, AV.int .i64 v0m21, AV.int .i64 v0m22, AV.int .i64 v0m23]], false, 0⟩
def X_r3_BoxOf_0_exit0 (a0a : Int) (a0ba : Int) (a0bb : Int) (a0c : Int) (a0dn : Nat) (a0da : Nat → Int) (a0db : Nat → Int) (o0 : Int) (o1 : Int) (o2 : Int) (o3 : Int) (o4 : Int) : VS := ⟨slotsN 39 0 [(1, AV.ptr false 0 0 0), (2, AV.ptr false 1 0 0), (3, AV.ptr false 2 0 0), (4, AV.int .i64 o0)], [.one true 46 [AV.int .i64 a0a, AV.int .i64 a0ba, AV.int .i64 a0bb, AV.int .i64 a0c, AV.rs none a0dn [CF.I .i64 a0da, CF.I .i64 a0db]], .one true 23 [AV.int .i64 0, AV.int .i64 0, AV.int .i64 0, AV.int .i64 0], .one true 23 [AV.int .i64 o1, AV.int .i64 o2, AV.int .i64 o3, AV.int .i64 o4]], false, 0⟩
theorem N_r3_BoxOf_0 (a0a : Int) (a0ba : Int) (a0bb : Int) (a0c : Int) (a0dn : Nat) (a0da : Nat → Int) (a0db : Nat → Int) (v0t4 : Int) (v0m20 : Int) (v0m21 : Int) (v0m22 : Int) (v0m23 : Int) (Q : Exit → VS → Prop) : vwp tab (envL G_r3_BoxOf) (fun _ _ _ => False) 0 (lbody (loopAt (bodyOf Try.f33) 0)) (S_r3_BoxOf_0 a0a a0ba a0bb a0c a0dn a0da a0db v0t4 v0m20 v0m21 v0m22 v0m23) (QM [1, 2, 3, 4] [0, 1, 2] 3 Q) = B_r3_BoxOf_0 a0a a0ba a0bb a0c a0dn a0da a0db v0t4 v0m20 v0m21 v0m22 v0m23 (fun w0 w1 w2 w3 w4 => Q .normal (S_r3_BoxOf_0 a0a a0ba a0bb a0c a0dn a0da a0db w0 w1 w2 w3 w4)) (fun o0 o1 o2 o3 o4 => Q (.exit 0) (X_r3_BoxOf_0_exit0 a0a a0ba a0bb a0c a0dn a0da a0db o0 o1 o2 o3 o4))  := by kernel_rfl
theorem L_r3_BoxOf_0 {X : Cx} (hX : Std Try.prog tab (envL G_r3_BoxOf) X) (b : Code) (hb : b = bodyOf Try.f33) (a0a : Int) (a0ba : Int) (a0bb : Int) (a0c : Int) (a0dn : Nat) (a0da : Nat → Int) (a0db : Nat → Int) (fu : Nat) (v0t4 : Int) (v0m20 : Int) (v0m21 : Int) (v0m22 : Int) (v0m23 : Int) (Q : Exit → VS → Prop) (h : W_r3_BoxOf_0 a0a a0ba a0bb a0c a0dn a0da a0db fu v0t4 v0m20 v0m21 v0m22 v0m23 (fun o0 o1 o2 o3 o4 => Q (.exit 0) (X_r3_BoxOf_0_exit0 a0a a0ba a0bb a0c a0dn a0da a0db o0 o1 o2 o3 o4))) : TrK X b 0 (S_r3_BoxOf_0 a0a a0ba a0bb a0c a0dn a0da a0db v0t4 v0m20 v0m21 v0m22 v0m23) Q := by
  subst hb
  refine loop_ok (V := Int × Int × Int × Int × Int) (fun v => S_r3_BoxOf_0 a0a a0ba a0bb a0c a0dn a0da a0db v.1 v.2.1 v.2.2.1 v.2.2.2.1 v.2.2.2.2) (fun f v => W_r3_BoxOf_0 a0a a0ba a0bb a0c a0dn a0da a0db f v.1 v.2.1 v.2.2.1 v.2.2.2.1 v.2.2.2.2 (fun o0 o1 o2 o3 o4 => Q (.exit 0) (X_r3_BoxOf_0_exit0 a0a a0ba a0bb a0c a0dn a0da a0db o0 o1 o2 o3 o4))) (fun _ h => h) (by kernel_rfl) (fun f v hv => ?_) (fuel := fu) (v0 := (v0t4, v0m20, v0m21, v0m22, v0m23)) h
  refine QM_ok (bs := [1, 2, 3, 4]) (ms := [0, 1, 2]) (nm := 3) ?_
  refine vwp_std hX rfl (tr := (fun _ _ _ => False)) (fun _ _ _ h => h.elim) ?_
  refine Eq.mpr (N_r3_BoxOf_0 a0a a0ba a0bb a0c a0dn a0da a0db v.1 v.2.1 v.2.2.1 v.2.2.2.1 v.2.2.2.2 _) ?_
  exact BM_r3_BoxOf_0 a0a a0ba a0bb a0c a0dn a0da a0db v.1 v.2.1 v.2.2.1 v.2.2.2.1 v.2.2.2.2 (fun w0 w1 w2 w3 w4 h => ⟨(w0, w1, w2, w3, w4), rfl, h⟩) (fun _ _ _ _ _ h => h) hv
def T_r3_BoxOf (a0a : Int) (a0ba : Int) (a0bb : Int) (a0c : Int) (a0dn : Nat) (a0da : Nat → Int) (a0db : Nat → Int) (k : Nat) (st : VS) (Q : Exit → VS → Prop) : Prop := match k with
  | 0 => TL [1, 2, 3, 4] [0, 1, 2] 3 (convs st []) (fun st => S_r3_BoxOf_0 a0a a0ba a0bb a0c a0dn a0da a0db (intOf (tAt st 4)) (intOf (mAt st 2 0)) (intOf (mAt st 2 1)) (intOf (mAt st 2 2)) (intOf (mAt st 2 3))) (fun st => W_r3_BoxOf_0 a0a a0ba a0bb a0c a0dn a0da a0db fuel (intOf (tAt st 4)) (intOf (mAt st 2 0)) (intOf (mAt st 2 1)) (intOf (mAt st 2 2)) (intOf (mAt st 2 3)) (fun o0 o1 o2 o3 o4 => Q (.exit 0) (X_r3_BoxOf_0_exit0 a0a a0ba a0bb a0c a0dn a0da a0db o0 o1 o2 o3 o4)))
  | _ => False
theorem TS_r3_BoxOf {X : Cx} (hX : Std Try.prog tab (envL G_r3_BoxOf) X) (b : Code) (hb : b = bodyOf Try.f33) (a0a : Int) (a0ba : Int) (a0bb : Int) (a0c : Int) (a0dn : Nat) (a0da : Nat → Int) (a0db : Nat → Int) (j : Nat) (st : VS) (Q : Exit → VS → Prop) (h : T_r3_BoxOf a0a a0ba a0bb a0c a0dn a0da a0db j st Q) : TrK X b j st Q := by
  unfold T_r3_BoxOf at h
  split at h
  · exact TL_ok h (fun h' => L_r3_BoxOf_0 hX b hb a0a a0ba a0bb a0c a0dn a0da a0db _ _ _ _ _ _ Q h')
  · exact h.elim
def as_r3_BoxOf (a0a : Int) (a0ba : Int) (a0bb : Int) (a0c : Int) (a0dn : Nat) (a0da : Nat → Int) (a0db : Nat → Int) : List AV := [AV.agg [AV.int .i64 a0a, AV.int .i64 a0ba, AV.int .i64 a0bb, AV.int .i64 a0c, AV.rs none a0dn [CF.I .i64 a0da, CF.I .i64 a0db]]]
theorem N_r3_BoxOf (a0a : Int) (a0ba : Int) (a0bb : Int) (a0c : Int) (a0dn : Nat) (a0da : Nat → Int) (a0db : Nat → Int) (K : AV → Prop) : vwp tab (envL G_r3_BoxOf) (T_r3_BoxOf a0a a0ba a0bb a0c a0dn a0da a0db) 0 (bodyOf Try.f33) (entry (as_r3_BoxOf a0a a0ba a0bb a0c a0dn a0da a0db) 39) (fnPost tab [.cell 2 23] fun v s => K (v.frz s.mem)) = B_r3_BoxOf a0a a0ba a0bb a0c a0dn a0da a0db (fun r0 r1 r2 r3 => K (AV.agg [AV.int .i64 r0, AV.int .i64 r1, AV.int .i64 r2, AV.int .i64 r3])) (fun p0 p1 p2 p3 p4 y0 => S_r3_BoxOf_0 a0a a0ba a0bb a0c a0dn a0da a0db p0 p1 p2 p3 p4 = S_r3_BoxOf_0 a0a a0ba a0bb a0c a0dn a0da a0db p0 p1 p2 p3 p4 ∧ W_r3_BoxOf_0 a0a a0ba a0bb a0c a0dn a0da a0db fuel p0 p1 p2 p3 p4 y0) := by kernel_rfl
theorem BL_r3_BoxOf (a0a : Int) (a0ba : Int) (a0bb : Int) (a0c : Int) (a0dn : Nat) (a0da : Nat → Int) (a0db : Nat → Int) {K0 : Int → Int → Int → Int → Prop} : B_r3_BoxOf a0a a0ba a0bb a0c a0dn a0da a0db K0 (W_r3_BoxOf_0 a0a a0ba a0bb a0c a0dn a0da a0db fuel) → B_r3_BoxOf a0a a0ba a0bb a0c a0dn a0da a0db K0 (fun p0 p1 p2 p3 p4 y0 => S_r3_BoxOf_0 a0a a0ba a0bb a0c a0dn a0da a0db p0 p1 p2 p3 p4 = S_r3_BoxOf_0 a0a a0ba a0bb a0c a0dn a0da a0db p0 p1 p2 p3 p4 ∧ W_r3_BoxOf_0 a0a a0ba a0bb a0c a0dn a0da a0db fuel p0 p1 p2 p3 p4 y0) := by
  unfold B_r3_BoxOf
  repeat' first
    | exact id
    | refine Ts_imp ?_
    | refine cond_imp ?_ ?_
    | refine and_imp' ?_
    | refine fun h => ⟨rfl, WM_r3_BoxOf_0 _ _ _ _ _ _ _  (fun _ _ _ _ _ => ?_) _ _ _ _ _ _  h⟩
def g_r3_BoxOf : List AV → Option (Prop × RT)
  | [AV.agg [AV.int .i64 a0a, AV.int .i64 a0ba, AV.int .i64 a0bb, AV.int .i64 a0c, AV.rs sq0 sn0 sc0]] => cond (kindsOK [KC.I .i64, KC.I .i64] sc0) (some (P_r3_BoxOf a0a a0ba a0bb a0c (nOf sn0 sc0) (colI sc0 0) (colI sc0 1), RT.leaf (AV.agg [AV.int .i64 (F_r3_BoxOf_0 a0a a0ba a0bb a0c (nOf sn0 sc0) (colI sc0 0) (colI sc0 1)), AV.int .i64 (F_r3_BoxOf_1 a0a a0ba a0bb a0c (nOf sn0 sc0) (colI sc0 0) (colI sc0 1)), AV.int .i64 (F_r3_BoxOf_2 a0a a0ba a0bb a0c (nOf sn0 sc0) (colI sc0 0) (colI sc0 1)), AV.int .i64 (F_r3_BoxOf_3 a0a a0ba a0bb a0c (nOf sn0 sc0) (colI sc0 0) (colI sc0 1))]))) none
  | _ => none
theorem S_r3_BoxOf : SpecOK Try.prog 33 (.pure g_r3_BoxOf) := by
  intro xs p r h hp E w vs hr hv
  unfold g_r3_BoxOf at h
  split at h
  · rename_i a0a a0ba a0bb a0c sq0 sn0 sc0
    have hk0 : kindsOK [KC.I .i64, KC.I .i64] sc0 = true := by
      cases hh : kindsOK [KC.I .i64, KC.I .i64] sc0 with
      | true => rfl
      | false => rw [hh] at h; cases h
    rw [hk0, cond_true] at h
    simp only [Option.some.injEq, Prod.mk.injEq] at h
    obtain ⟨rfl, rfl⟩ := h
    have hG : SpecsOK Try.prog G_r3_BoxOf := ⟨S_r3_Join, S_r3_Check, S_r3_around, trivial⟩
    have hv' : VRs E.bare (as_r3_BoxOf a0a a0ba a0bb a0c (nOf sn0 sc0) (colI sc0 0) (colI sc0 1)) vs := (AV.les.cons (AV.le.agg (AV.les.cons (AV.le.refl _) (AV.les.cons (AV.le.refl _) (AV.les.cons (AV.le.refl _) (AV.les.cons (AV.le.refl _) (AV.les.cons (AV.le.rs hk0) AV.les.nil)))))) AV.les.nil) _ _ hv
    refine walk_pure' (f := 33) (fn := Try.f33) (c := bodyOf Try.f33) (rs := [.cell 2 23]) (ys := as_r3_BoxOf a0a a0ba a0bb a0c (nOf sn0 sc0) (colI sc0 0) (colI sc0 1)) tab_ok (envL_ok hG) Try.func33 rfl (by kernel_rfl) rfl (by decide) (fun X hX hrho => ?_) E w vs hr hv'
    rw [Try.ntmps33]
    refine vwp_std hX rfl (tr := T_r3_BoxOf a0a a0ba a0bb a0c (nOf sn0 sc0) (colI sc0 0) (colI sc0 1)) (fun j st Q h => TS_r3_BoxOf hX _ rfl a0a a0ba a0bb a0c (nOf sn0 sc0) (colI sc0 0) (colI sc0 1) j st Q h) ?_
    refine Eq.mpr (N_r3_BoxOf a0a a0ba a0bb a0c (nOf sn0 sc0) (colI sc0 0) (colI sc0 1) (fun x => x = _)) ?_
    exact BL_r3_BoxOf a0a a0ba a0bb a0c (nOf sn0 sc0) (colI sc0 0) (colI sc0 1) (H_r3_BoxOf a0a a0ba a0bb a0c (nOf sn0 sc0) (colI sc0 0) (colI sc0 1) hp rfl)
  · cases h
/-! ### bagatelle/bagatellekit.SameSpots -/
def G_kt_SameSpots : List (Nat × Ag.Spec) := []
/-! loop kt_SameSpots_0 -/
def S_kt_SameSpots_0 (a0n : Nat) (a0a : Nat → Int) (a0b : Nat → Int) (a1n : Nat) (a1a : Nat → Int) (a1b : Nat → Int) (v0t5 : Int) : VS := ⟨slotsN 26 0 [(0, AV.rs none a0n [CF.I .i64 a0a, CF.I .i64 a0b]), (1, AV.rs none a1n [CF.I .i64 a1a, CF.I .i64 a1b]), (4, AV.bool false), (5, AV.int .i64 v0t5)], [], false, 0⟩
def X_kt_SameSpots_0_exit0 (a0n : Nat) (a0a : Nat → Int) (a0b : Nat → Int) (a1n : Nat) (a1a : Nat → Int) (a1b : Nat → Int) (o0 : Int) : VS := ⟨slotsN 26 0 [(0, AV.rs none a0n [CF.I .i64 a0a, CF.I .i64 a0b]), (1, AV.rs none a1n [CF.I .i64 a1a, CF.I .i64 a1b]), (4, AV.bool false), (5, AV.int .i64 o0)], [], false, 0⟩
def X_kt_SameSpots_0_ret (a0n : Nat) (a0a : Nat → Int) (a0b : Nat → Int) (a1n : Nat) (a1a : Nat → Int) (a1b : Nat → Int) (o0 : Int) : VS := ⟨slotsN 26 0 [(0, AV.rs none a0n [CF.I .i64 a0a, CF.I .i64 a0b]), (1, AV.rs none a1n [CF.I .i64 a1a, CF.I .i64 a1b]), (4, AV.bool false), (5, AV.int .i64 o0)], [], false, 0⟩
theorem N_kt_SameSpots_0 (a0n : Nat) (a0a : Nat → Int) (a0b : Nat → Int) (a1n : Nat) (a1a : Nat → Int) (a1b : Nat → Int) (v0t5 : Int) (Q : Exit → VS → Prop) : vwp tab (envL G_kt_SameSpots) (fun _ _ _ => False) 0 (lbody (loopAt (bodyOf Try.f27) 0)) (S_kt_SameSpots_0 a0n a0a a0b a1n a1a a1b v0t5) (QM [0, 1, 4, 5] [] 0 Q) = B_kt_SameSpots_0 a0n a0a a0b a1n a1a a1b v0t5 (fun w0 => Q .normal (S_kt_SameSpots_0 a0n a0a a0b a1n a1a a1b w0)) (fun o0 => Q (.exit 0) (X_kt_SameSpots_0_exit0 a0n a0a a0b a1n a1a a1b o0)) (fun o0 => Q .ret (X_kt_SameSpots_0_ret a0n a0a a0b a1n a1a a1b o0))  := by kernel_rfl
theorem L_kt_SameSpots_0 {X : Cx} (hX : Std Try.prog tab (envL G_kt_SameSpots) X) (b : Code) (hb : b = bodyOf Try.f27) (a0n : Nat) (a0a : Nat → Int) (a0b : Nat → Int) (a1n : Nat) (a1a : Nat → Int) (a1b : Nat → Int) (fu : Nat) (v0t5 : Int) (Q : Exit → VS → Prop) (h : W_kt_SameSpots_0 a0n a0a a0b a1n a1a a1b fu v0t5 (fun o0 => Q (.exit 0) (X_kt_SameSpots_0_exit0 a0n a0a a0b a1n a1a a1b o0)) (fun o0 => Q .ret (X_kt_SameSpots_0_ret a0n a0a a0b a1n a1a a1b o0))) : TrK X b 0 (S_kt_SameSpots_0 a0n a0a a0b a1n a1a a1b v0t5) Q := by
  subst hb
  refine loop_ok (V := Int) (fun v => S_kt_SameSpots_0 a0n a0a a0b a1n a1a a1b v) (fun f v => W_kt_SameSpots_0 a0n a0a a0b a1n a1a a1b f v (fun o0 => Q (.exit 0) (X_kt_SameSpots_0_exit0 a0n a0a a0b a1n a1a a1b o0)) (fun o0 => Q .ret (X_kt_SameSpots_0_ret a0n a0a a0b a1n a1a a1b o0))) (fun _ h => h) (by kernel_rfl) (fun f v hv => ?_) (fuel := fu) (v0 := (v0t5)) h
  refine QM_ok (bs := [0, 1, 4, 5]) (ms := []) (nm := 0) ?_
  refine vwp_std hX rfl (tr := (fun _ _ _ => False)) (fun _ _ _ h => h.elim) ?_
  refine Eq.mpr (N_kt_SameSpots_0 a0n a0a a0b a1n a1a a1b v _) ?_
  exact BM_kt_SameSpots_0 a0n a0a a0b a1n a1a a1b v (fun w0 h => ⟨w0, rfl, h⟩) (fun _ h => h) (fun _ h => h) hv
def T_kt_SameSpots (a0n : Nat) (a0a : Nat → Int) (a0b : Nat → Int) (a1n : Nat) (a1a : Nat → Int) (a1b : Nat → Int) (k : Nat) (st : VS) (Q : Exit → VS → Prop) : Prop := match k with
  | 0 => TL [0, 1, 4, 5] [] 0 (convs st []) (fun st => S_kt_SameSpots_0 a0n a0a a0b a1n a1a a1b (intOf (tAt st 5))) (fun st => W_kt_SameSpots_0 a0n a0a a0b a1n a1a a1b fuel (intOf (tAt st 5)) (fun o0 => Q (.exit 0) (X_kt_SameSpots_0_exit0 a0n a0a a0b a1n a1a a1b o0)) (fun o0 => Q .ret (X_kt_SameSpots_0_ret a0n a0a a0b a1n a1a a1b o0)))
  | _ => False
theorem TS_kt_SameSpots {X : Cx} (hX : Std Try.prog tab (envL G_kt_SameSpots) X) (b : Code) (hb : b = bodyOf Try.f27) (a0n : Nat) (a0a : Nat → Int) (a0b : Nat → Int) (a1n : Nat) (a1a : Nat → Int) (a1b : Nat → Int) (j : Nat) (st : VS) (Q : Exit → VS → Prop) (h : T_kt_SameSpots a0n a0a a0b a1n a1a a1b j st Q) : TrK X b j st Q := by
  unfold T_kt_SameSpots at h
  split at h
  · exact TL_ok h (fun h' => L_kt_SameSpots_0 hX b hb a0n a0a a0b a1n a1a a1b _ _ Q h')
  · exact h.elim
def as_kt_SameSpots (a0n : Nat) (a0a : Nat → Int) (a0b : Nat → Int) (a1n : Nat) (a1a : Nat → Int) (a1b : Nat → Int) : List AV := [AV.rs none a0n [CF.I .i64 a0a, CF.I .i64 a0b], AV.rs none a1n [CF.I .i64 a1a, CF.I .i64 a1b]]
theorem N_kt_SameSpots (a0n : Nat) (a0a : Nat → Int) (a0b : Nat → Int) (a1n : Nat) (a1a : Nat → Int) (a1b : Nat → Int) (K : AV → Prop) : vwp tab (envL G_kt_SameSpots) (T_kt_SameSpots a0n a0a a0b a1n a1a a1b) 0 (bodyOf Try.f27) (entry (as_kt_SameSpots a0n a0a a0b a1n a1a a1b) 26) (fnPost tab [.tmp 4] fun v s => K (v.frz s.mem)) = B_kt_SameSpots a0n a0a a0b a1n a1a a1b (fun r0 => K (AV.bool r0)) (fun p0 y0 y1 => S_kt_SameSpots_0 a0n a0a a0b a1n a1a a1b p0 = S_kt_SameSpots_0 a0n a0a a0b a1n a1a a1b p0 ∧ W_kt_SameSpots_0 a0n a0a a0b a1n a1a a1b fuel p0 y0 y1) := by kernel_rfl
theorem BL_kt_SameSpots (a0n : Nat) (a0a : Nat → Int) (a0b : Nat → Int) (a1n : Nat) (a1a : Nat → Int) (a1b : Nat → Int) {K0 : Bool → Prop} : B_kt_SameSpots a0n a0a a0b a1n a1a a1b K0 (W_kt_SameSpots_0 a0n a0a a0b a1n a1a a1b fuel) → B_kt_SameSpots a0n a0a a0b a1n a1a a1b K0 (fun p0 y0 y1 => S_kt_SameSpots_0 a0n a0a a0b a1n a1a a1b p0 = S_kt_SameSpots_0 a0n a0a a0b a1n a1a a1b p0 ∧ W_kt_SameSpots_0 a0n a0a a0b a1n a1a a1b fuel p0 y0 y1) := by
  unfold B_kt_SameSpots
  repeat' first
    | exact id
    | refine Ts_imp ?_
    | refine cond_imp ?_ ?_
    | refine and_imp' ?_
    | refine fun h => ⟨rfl, WM_kt_SameSpots_0 _ _ _ _ _ _  (fun _ => ?_) (fun _ => ?_) _ _  h⟩
def g_kt_SameSpots : List AV → Option (Prop × RT)
  | [AV.rs sq0 sn0 sc0, AV.rs sq1 sn1 sc1] => cond (kindsOK [KC.I .i64, KC.I .i64] sc0) (cond (kindsOK [KC.I .i64, KC.I .i64] sc1) (some (P_kt_SameSpots (nOf sn0 sc0) (colI sc0 0) (colI sc0 1) (nOf sn1 sc1) (colI sc1 0) (colI sc1 1), RT.leaf (AV.bool (F_kt_SameSpots_0 (nOf sn0 sc0) (colI sc0 0) (colI sc0 1) (nOf sn1 sc1) (colI sc1 0) (colI sc1 1))))) none) none
  | _ => none
theorem S_kt_SameSpots : SpecOK Try.prog 27 (.pure g_kt_SameSpots) := by
  intro xs p r h hp E w vs hr hv
  unfold g_kt_SameSpots at h
  split at h
  · rename_i sq0 sn0 sc0 sq1 sn1 sc1
    have hk0 : kindsOK [KC.I .i64, KC.I .i64] sc0 = true := by
      cases hh : kindsOK [KC.I .i64, KC.I .i64] sc0 with
      | true => rfl
      | false => rw [hh] at h; cases h
    rw [hk0, cond_true] at h
    have hk1 : kindsOK [KC.I .i64, KC.I .i64] sc1 = true := by
      cases hh : kindsOK [KC.I .i64, KC.I .i64] sc1 with
      | true => rfl
      | false => rw [hh] at h; cases h
    rw [hk1, cond_true] at h
    simp only [Option.some.injEq, Prod.mk.injEq] at h
    obtain ⟨rfl, rfl⟩ := h
    have hG : SpecsOK Try.prog G_kt_SameSpots := trivial
    have hv' : VRs E.bare (as_kt_SameSpots (nOf sn0 sc0) (colI sc0 0) (colI sc0 1) (nOf sn1 sc1) (colI sc1 0) (colI sc1 1)) vs := (AV.les.cons (AV.le.rs hk0) (AV.les.cons (AV.le.rs hk1) AV.les.nil)) _ _ hv
    refine walk_pure' (f := 27) (fn := Try.f27) (c := bodyOf Try.f27) (rs := [.tmp 4]) (ys := as_kt_SameSpots (nOf sn0 sc0) (colI sc0 0) (colI sc0 1) (nOf sn1 sc1) (colI sc1 0) (colI sc1 1)) tab_ok (envL_ok hG) Try.func27 rfl (by kernel_rfl) rfl (by decide) (fun X hX hrho => ?_) E w vs hr hv'
    rw [Try.ntmps27]
    refine vwp_std hX rfl (tr := T_kt_SameSpots (nOf sn0 sc0) (colI sc0 0) (colI sc0 1) (nOf sn1 sc1) (colI sc1 0) (colI sc1 1)) (fun j st Q h => TS_kt_SameSpots hX _ rfl (nOf sn0 sc0) (colI sc0 0) (colI sc0 1) (nOf sn1 sc1) (colI sc1 0) (colI sc1 1) j st Q h) ?_
    refine Eq.mpr (N_kt_SameSpots (nOf sn0 sc0) (colI sc0 0) (colI sc0 1) (nOf sn1 sc1) (colI sc1 0) (colI sc1 1) (fun x => x = _)) ?_
    exact BL_kt_SameSpots (nOf sn0 sc0) (colI sc0 0) (colI sc0 1) (nOf sn1 sc1) (colI sc1 0) (colI sc1 1) (H_kt_SameSpots (nOf sn0 sc0) (colI sc0 0) (colI sc0 1) (nOf sn1 sc1) (colI sc1 0) (colI sc1 1) hp rfl)
  · cases h
/-! ### bagatelle/bagatellekit.SameForm -/
def G_kt_SameForm : List (Nat × Ag.Spec) := [(27, .pure g_kt_SameSpots)]
def as_kt_SameForm (a0a : Int) (a0ba : Int) (a0bb : Int) (a0c : Int) (a0dn : Nat) (a0da : Nat → Int) (a0db : Nat → Int) (a1a : Int) (a1ba : Int) (a1bb : Int) (a1c : Int) (a1dn : Nat) (a1da : Nat → Int) (a1db : Nat → Int) : List AV := [AV.agg [AV.int .i64 a0a, AV.int .i64 a0ba, AV.int .i64 a0bb, AV.int .i64 a0c, AV.rs none a0dn [CF.I .i64 a0da, CF.I .i64 a0db]], AV.agg [AV.int .i64 a1a, AV.int .i64 a1ba, AV.int .i64 a1bb, AV.int .i64 a1c, AV.rs none a1dn [CF.I .i64 a1da, CF.I .i64 a1db]]]
theorem N_kt_SameForm (a0a : Int) (a0ba : Int) (a0bb : Int) (a0c : Int) (a0dn : Nat) (a0da : Nat → Int) (a0db : Nat → Int) (a1a : Int) (a1ba : Int) (a1bb : Int) (a1c : Int) (a1dn : Nat) (a1da : Nat → Int) (a1db : Nat → Int) (K : AV → Prop) : vwp tab (envL G_kt_SameForm) (fun _ _ _ => False) 0 (bodyOf Try.f34) (entry (as_kt_SameForm a0a a0ba a0bb a0c a0dn a0da a0db a1a a1ba a1bb a1c a1dn a1da a1db) 31) (fnPost tab [.tmp 4] fun v s => K (v.frz s.mem)) = B_kt_SameForm a0a a0ba a0bb a0c a0dn a0da a0db a1a a1ba a1bb a1c a1dn a1da a1db (fun r0 => K (AV.bool r0))  := by kernel_rfl
def g_kt_SameForm : List AV → Option (Prop × RT)
  | [AV.agg [AV.int .i64 a0a, AV.int .i64 a0ba, AV.int .i64 a0bb, AV.int .i64 a0c, AV.rs sq0 sn0 sc0], AV.agg [AV.int .i64 a1a, AV.int .i64 a1ba, AV.int .i64 a1bb, AV.int .i64 a1c, AV.rs sq1 sn1 sc1]] => cond (kindsOK [KC.I .i64, KC.I .i64] sc0) (cond (kindsOK [KC.I .i64, KC.I .i64] sc1) (some (P_kt_SameForm a0a a0ba a0bb a0c (nOf sn0 sc0) (colI sc0 0) (colI sc0 1) a1a a1ba a1bb a1c (nOf sn1 sc1) (colI sc1 0) (colI sc1 1), RT.leaf (AV.bool (F_kt_SameForm_0 a0a a0ba a0bb a0c (nOf sn0 sc0) (colI sc0 0) (colI sc0 1) a1a a1ba a1bb a1c (nOf sn1 sc1) (colI sc1 0) (colI sc1 1))))) none) none
  | _ => none
theorem S_kt_SameForm : SpecOK Try.prog 34 (.pure g_kt_SameForm) := by
  intro xs p r h hp E w vs hr hv
  unfold g_kt_SameForm at h
  split at h
  · rename_i a0a a0ba a0bb a0c sq0 sn0 sc0 a1a a1ba a1bb a1c sq1 sn1 sc1
    have hk0 : kindsOK [KC.I .i64, KC.I .i64] sc0 = true := by
      cases hh : kindsOK [KC.I .i64, KC.I .i64] sc0 with
      | true => rfl
      | false => rw [hh] at h; cases h
    rw [hk0, cond_true] at h
    have hk1 : kindsOK [KC.I .i64, KC.I .i64] sc1 = true := by
      cases hh : kindsOK [KC.I .i64, KC.I .i64] sc1 with
      | true => rfl
      | false => rw [hh] at h; cases h
    rw [hk1, cond_true] at h
    simp only [Option.some.injEq, Prod.mk.injEq] at h
    obtain ⟨rfl, rfl⟩ := h
    have hG : SpecsOK Try.prog G_kt_SameForm := ⟨S_kt_SameSpots, trivial⟩
    have hv' : VRs E.bare (as_kt_SameForm a0a a0ba a0bb a0c (nOf sn0 sc0) (colI sc0 0) (colI sc0 1) a1a a1ba a1bb a1c (nOf sn1 sc1) (colI sc1 0) (colI sc1 1)) vs := (AV.les.cons (AV.le.agg (AV.les.cons (AV.le.refl _) (AV.les.cons (AV.le.refl _) (AV.les.cons (AV.le.refl _) (AV.les.cons (AV.le.refl _) (AV.les.cons (AV.le.rs hk0) AV.les.nil)))))) (AV.les.cons (AV.le.agg (AV.les.cons (AV.le.refl _) (AV.les.cons (AV.le.refl _) (AV.les.cons (AV.le.refl _) (AV.les.cons (AV.le.refl _) (AV.les.cons (AV.le.rs hk1) AV.les.nil)))))) AV.les.nil)) _ _ hv
    refine walk_pure' (f := 34) (fn := Try.f34) (c := bodyOf Try.f34) (rs := [.tmp 4]) (ys := as_kt_SameForm a0a a0ba a0bb a0c (nOf sn0 sc0) (colI sc0 0) (colI sc0 1) a1a a1ba a1bb a1c (nOf sn1 sc1) (colI sc1 0) (colI sc1 1)) tab_ok (envL_ok hG) Try.func34 rfl (by kernel_rfl) rfl (by decide) (fun X hX hrho => ?_) E w vs hr hv'
    rw [Try.ntmps34]
    refine vwp_std hX rfl (tr := fun _ _ _ => False) (fun _ _ _ h => h.elim) ?_
    refine Eq.mpr (N_kt_SameForm a0a a0ba a0bb a0c (nOf sn0 sc0) (colI sc0 0) (colI sc0 1) a1a a1ba a1bb a1c (nOf sn1 sc1) (colI sc1 0) (colI sc1 1) (fun x => x = _)) ?_
    exact H_kt_SameForm a0a a0ba a0bb a0c (nOf sn0 sc0) (colI sc0 0) (colI sc0 1) a1a a1ba a1bb a1c (nOf sn1 sc1) (colI sc1 0) (colI sc1 1) hp rfl
  · cases h
/-! ### bagatelle/bagatellelaw03.SolidHolds -/
def G_lw_SolidHolds : List (Nat × Ag.Spec) := [(9, .pure g_lw_awake), (28, .pure g_lw_light), (29, .pure g_kt_OwnForm), (30, .pure g_sd_Holds), (31, .pure g_r3_Holds), (32, .pure g_sd_BoxOf), (33, .pure g_r3_BoxOf), (34, .pure g_kt_SameForm)]
def as_lw_SolidHolds (a0a : Int) (a0ba : Int) (a0bb : Int) (a0c : Int) (a0dn : Nat) (a0da : Nat → Int) (a0db : Nat → Int) (a1a : Int) (a1b : Int) : List AV := [AV.agg [AV.int .i64 a0a, AV.int .i64 a0ba, AV.int .i64 a0bb, AV.int .i64 a0c, AV.rs none a0dn [CF.I .i64 a0da, CF.I .i64 a0db]], AV.agg [AV.int .i64 a1a, AV.int .i64 a1b]]
theorem N_lw_SolidHolds (a0a : Int) (a0ba : Int) (a0bb : Int) (a0c : Int) (a0dn : Nat) (a0da : Nat → Int) (a0db : Nat → Int) (a1a : Int) (a1b : Int) (K : AV → Prop) : vwp tab (envL G_lw_SolidHolds) (fun _ _ _ => False) 0 (bodyOf Try.f6) (entry (as_lw_SolidHolds a0a a0ba a0bb a0c a0dn a0da a0db a1a a1b) 34) (fnPost tab [.tmp 4] fun v s => K (v.frz s.mem)) = B_lw_SolidHolds a0a a0ba a0bb a0c a0dn a0da a0db a1a a1b (fun r0 => K (AV.bool r0))  := by kernel_rfl
def g_lw_SolidHolds : List AV → Option (Prop × RT)
  | [AV.agg [AV.int .i64 a0a, AV.int .i64 a0ba, AV.int .i64 a0bb, AV.int .i64 a0c, AV.rs sq0 sn0 sc0], AV.agg [AV.int .i64 a1a, AV.int .i64 a1b]] => cond (kindsOK [KC.I .i64, KC.I .i64] sc0) (some (P_lw_SolidHolds a0a a0ba a0bb a0c (nOf sn0 sc0) (colI sc0 0) (colI sc0 1) a1a a1b, RT.leaf (AV.bool (F_lw_SolidHolds_0 a0a a0ba a0bb a0c (nOf sn0 sc0) (colI sc0 0) (colI sc0 1) a1a a1b)))) none
  | _ => none
theorem S_lw_SolidHolds : SpecOK Try.prog 6 (.pure g_lw_SolidHolds) := by
  intro xs p r h hp E w vs hr hv
  unfold g_lw_SolidHolds at h
  split at h
  · rename_i a0a a0ba a0bb a0c sq0 sn0 sc0 a1a a1b
    have hk0 : kindsOK [KC.I .i64, KC.I .i64] sc0 = true := by
      cases hh : kindsOK [KC.I .i64, KC.I .i64] sc0 with
      | true => rfl
      | false => rw [hh] at h; cases h
    rw [hk0, cond_true] at h
    simp only [Option.some.injEq, Prod.mk.injEq] at h
    obtain ⟨rfl, rfl⟩ := h
    have hG : SpecsOK Try.prog G_lw_SolidHolds := ⟨S_lw_awake, S_lw_light, S_kt_OwnForm, S_sd_Holds, S_r3_Holds, S_sd_BoxOf, S_r3_BoxOf, S_kt_SameForm, trivial⟩
    have hv' : VRs E.bare (as_lw_SolidHolds a0a a0ba a0bb a0c (nOf sn0 sc0) (colI sc0 0) (colI sc0 1) a1a a1b) vs := (AV.les.cons (AV.le.agg (AV.les.cons (AV.le.refl _) (AV.les.cons (AV.le.refl _) (AV.les.cons (AV.le.refl _) (AV.les.cons (AV.le.refl _) (AV.les.cons (AV.le.rs hk0) AV.les.nil)))))) (AV.les.cons (AV.le.refl _) AV.les.nil)) _ _ hv
    refine walk_pure' (f := 6) (fn := Try.f6) (c := bodyOf Try.f6) (rs := [.tmp 4]) (ys := as_lw_SolidHolds a0a a0ba a0bb a0c (nOf sn0 sc0) (colI sc0 0) (colI sc0 1) a1a a1b) tab_ok (envL_ok hG) Try.func6 rfl (by kernel_rfl) rfl (by decide) (fun X hX hrho => ?_) E w vs hr hv'
    rw [Try.ntmps6]
    refine vwp_std hX rfl (tr := fun _ _ _ => False) (fun _ _ _ h => h.elim) ?_
    refine Eq.mpr (N_lw_SolidHolds a0a a0ba a0bb a0c (nOf sn0 sc0) (colI sc0 0) (colI sc0 1) a1a a1b (fun x => x = _)) ?_
    exact H_lw_SolidHolds a0a a0ba a0bb a0c (nOf sn0 sc0) (colI sc0 0) (colI sc0 1) a1a a1b hp rfl
  · cases h
end
end Go.Proofs.Ytbcegholicnflaa
