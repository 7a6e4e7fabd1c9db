import Derived.Test.YtbcegholicnflaaBoxP
import Derived.Test.YtbcegholicnflaaTabB
set_option linter.unusedVariables false
set_option linter.unusedSimpArgs false
set_option maxRecDepth 100000
namespace Go.Proofs.Ytbcegholicnflaa
open Go.RowKit Go.Ag
noncomputable section
/-! ### bagatelle/solid.fair -/
def G_sd_fair : List (Nat × Ag.Spec) := []
/-! loop sd_fair_0 -/
def S_sd_fair_0 (a0n : Nat) (a0a : Nat → Int) (a0b : Nat → Int) (v0t7 : Int) : VS := ⟨slotsN 34 0 [(2, AV.bool false), (5, AV.rs none a0n [CF.I .i64 a0a, CF.I .i64 a0b]), (6, AV.int .i64 ((a0n : Nat) : Int)), (7, AV.int .i64 v0t7)], [], false⟩
def X_sd_fair_0_exit0 (a0n : Nat) (a0a : Nat → Int) (a0b : Nat → Int) (o0 : Int) : VS := ⟨slotsN 34 0 [(2, AV.bool false), (5, AV.rs none a0n [CF.I .i64 a0a, CF.I .i64 a0b]), (6, AV.int .i64 ((a0n : Nat) : Int)), (7, AV.int .i64 o0)], [], false⟩
def X_sd_fair_0_ret (a0n : Nat) (a0a : Nat → Int) (a0b : Nat → Int) (o0 : Int) : VS := ⟨slotsN 34 0 [(2, AV.bool false), (5, AV.rs none a0n [CF.I .i64 a0a, CF.I .i64 a0b]), (6, AV.int .i64 ((a0n : Nat) : Int)), (7, AV.int .i64 o0)], [], false⟩
theorem N_sd_fair_0 (a0n : Nat) (a0a : Nat → Int) (a0b : Nat → Int) (v0t7 : Int) (Q : Exit → VS → Prop) : vwp tab (envL G_sd_fair) (fun _ _ _ => False) 0 (lbody (loopAt (bodyOf Try.f39) 0)) (S_sd_fair_0 a0n a0a a0b v0t7) (QM [2, 5, 6, 7] [] 0 Q) = B_sd_fair_0 a0n a0a a0b v0t7 (fun w0 => Q .normal (S_sd_fair_0 a0n a0a a0b w0)) (fun o0 => Q (.exit 0) (X_sd_fair_0_exit0 a0n a0a a0b o0)) (fun o0 => Q .ret (X_sd_fair_0_ret a0n a0a a0b o0))  := by kernel_rfl
theorem L_sd_fair_0 {X : Cx} (hX : Std Try.prog tab (envL G_sd_fair) X) (b : Code) (hb : b = bodyOf Try.f39) (a0n : Nat) (a0a : Nat → Int) (a0b : Nat → Int) (fu : Nat) (v0t7 : Int) (Q : Exit → VS → Prop) (h : W_sd_fair_0 a0n a0a a0b fu v0t7 (fun o0 => Q (.exit 0) (X_sd_fair_0_exit0 a0n a0a a0b o0)) (fun o0 => Q .ret (X_sd_fair_0_ret a0n a0a a0b o0))) : TrK X b 0 (S_sd_fair_0 a0n a0a a0b v0t7) Q := by
  subst hb
  refine loop_ok (V := Int) (fun v => S_sd_fair_0 a0n a0a a0b v) (fun f v => W_sd_fair_0 a0n a0a a0b f v (fun o0 => Q (.exit 0) (X_sd_fair_0_exit0 a0n a0a a0b o0)) (fun o0 => Q .ret (X_sd_fair_0_ret a0n a0a a0b o0))) (fun _ h => h) (by kernel_rfl) (fun f v hv => ?_) (fuel := fu) (v0 := (v0t7)) h
  refine QM_ok (bs := [2, 5, 6, 7]) (ms := []) (nm := 0) ?_
  refine vwp_std hX rfl (tr := (fun _ _ _ => False)) (fun _ _ _ h => h.elim) ?_
  refine Eq.mpr (N_sd_fair_0 a0n a0a a0b v _) ?_
  exact BM_sd_fair_0 a0n a0a a0b v (fun w0 h => ⟨w0, rfl, h⟩) (fun _ h => h) (fun _ h => h) hv
def T_sd_fair (a0n : Nat) (a0a : Nat → Int) (a0b : Nat → Int) (k : Nat) (st : VS) (Q : Exit → VS → Prop) : Prop := match k with
  | 0 => TL [2, 5, 6, 7] [] 0 (convs st []) (fun st => S_sd_fair_0 a0n a0a a0b (intOf (tAt st 7))) (fun st => W_sd_fair_0 a0n a0a a0b fuel (intOf (tAt st 7)) (fun o0 => Q (.exit 0) (X_sd_fair_0_exit0 a0n a0a a0b o0)) (fun o0 => Q .ret (X_sd_fair_0_ret a0n a0a a0b o0)))
  | _ => False
theorem TS_sd_fair {X : Cx} (hX : Std Try.prog tab (envL G_sd_fair) X) (b : Code) (hb : b = bodyOf Try.f39) (a0n : Nat) (a0a : Nat → Int) (a0b : Nat → Int) (j : Nat) (st : VS) (Q : Exit → VS → Prop) (h : T_sd_fair a0n a0a a0b j st Q) : TrK X b j st Q := by
  unfold T_sd_fair at h
  split at h
  · exact TL_ok h (fun h' => L_sd_fair_0 hX b hb a0n a0a a0b _ _ Q h')
  · exact h.elim
def as_sd_fair (a0n : Nat) (a0a : Nat → Int) (a0b : Nat → Int) : List AV := [AV.rs none a0n [CF.I .i64 a0a, CF.I .i64 a0b]]
theorem N_sd_fair (a0n : Nat) (a0a : Nat → Int) (a0b : Nat → Int) (K : AV → Prop) : vwp tab (envL G_sd_fair) (T_sd_fair a0n a0a a0b) 0 (bodyOf Try.f39) (entry (as_sd_fair a0n a0a a0b) 34) (fnPost tab [.tmp 2] fun v s => K (v.frz s.mem)) = B_sd_fair a0n a0a a0b (fun r0 => K (AV.bool r0)) (fun p0 y0 y1 => S_sd_fair_0 a0n a0a a0b p0 = S_sd_fair_0 a0n a0a a0b p0 ∧ W_sd_fair_0 a0n a0a a0b fuel p0 y0 y1) := by kernel_rfl
theorem BL_sd_fair (a0n : Nat) (a0a : Nat → Int) (a0b : Nat → Int) {K0 : Bool → Prop} : B_sd_fair a0n a0a a0b K0 (W_sd_fair_0 a0n a0a a0b fuel) → B_sd_fair a0n a0a a0b K0 (fun p0 y0 y1 => S_sd_fair_0 a0n a0a a0b p0 = S_sd_fair_0 a0n a0a a0b p0 ∧ W_sd_fair_0 a0n a0a a0b fuel p0 y0 y1) := by
  unfold B_sd_fair
  repeat' first
    | exact id
    | refine Ts_imp ?_
    | refine cond_imp ?_ ?_
    | refine and_imp' ?_
    | refine fun h => ⟨rfl, WM_sd_fair_0 _ _ _  (fun _ => ?_) (fun _ => ?_) _ _  h⟩
def g_sd_fair : List AV → Option (Prop × RT)
  | [AV.rs sq0 sn0 sc0] => cond (kindsOK [KC.I .i64, KC.I .i64] sc0) (some (P_sd_fair (nOf sn0 sc0) (colI sc0 0) (colI sc0 1), RT.leaf (AV.bool (F_sd_fair_0 (nOf sn0 sc0) (colI sc0 0) (colI sc0 1))))) none
  | _ => none
theorem S_sd_fair : SpecOK Try.prog 39 (.pure g_sd_fair) := by
  intro xs p r h hp E w vs hr hv
  unfold g_sd_fair at h
  split at h
  · rename_i sq0 sn0 sc0
    have hk0 : kindsOK [KC.I .i64, KC.I .i64] sc0 = true := by
      cases hh : kindsOK [KC.I .i64, KC.I .i64] sc0 with
      | true => rfl
      | false => rw [hh] at h; cases h
    rw [hk0, cond_true] at h
    simp only [Option.some.injEq, Prod.mk.injEq] at h
    obtain ⟨rfl, rfl⟩ := h
    have hG : SpecsOK Try.prog G_sd_fair := trivial
    have hv' : VRs E.bare (as_sd_fair (nOf sn0 sc0) (colI sc0 0) (colI sc0 1)) vs := (AV.les.cons (AV.le.rs hk0) AV.les.nil) _ _ hv
    refine walk_pure' (f := 39) (fn := Try.f39) (c := bodyOf Try.f39) (rs := [.tmp 2]) (ys := as_sd_fair (nOf sn0 sc0) (colI sc0 0) (colI sc0 1)) tab_ok (envL_ok hG) Try.func39 rfl (by kernel_rfl) rfl (by decide) (fun X hX => ?_) E w vs hr hv'
    rw [Try.ntmps39]
    refine vwp_std hX rfl (tr := T_sd_fair (nOf sn0 sc0) (colI sc0 0) (colI sc0 1)) (fun j st Q h => TS_sd_fair hX _ rfl (nOf sn0 sc0) (colI sc0 0) (colI sc0 1) j st Q h) ?_
    refine Eq.mpr (N_sd_fair (nOf sn0 sc0) (colI sc0 0) (colI sc0 1) (fun x => x = _)) ?_
    exact BL_sd_fair (nOf sn0 sc0) (colI sc0 0) (colI sc0 1) (H_sd_fair (nOf sn0 sc0) (colI sc0 0) (colI sc0 1) hp rfl)
  · cases h
/-! ### bagatelle/solid.CheckBox -/
def G_sd_CheckBox : List (Nat × Ag.Spec) := [(39, .pure g_sd_fair)]
def as_sd_CheckBox (a0a : Int) (a0b : Int) (a0c : Int) (a0d : Int) : List AV := [AV.agg [AV.int .i64 a0a, AV.int .i64 a0b, AV.int .i64 a0c, AV.int .i64 a0d]]
theorem N_sd_CheckBox (a0a : Int) (a0b : Int) (a0c : Int) (a0d : Int) (K : AV → Prop) : vwp tab (envL G_sd_CheckBox) (fun _ _ _ => False) 0 (bodyOf Try.f10) (entry (as_sd_CheckBox a0a a0b a0c a0d) 34) (fnPost tab [.tmp 2] fun v s => K (v.frz s.mem)) = B_sd_CheckBox a0a a0b a0c a0d (fun r0 => K (AV.int .i64 r0))  := by kernel_rfl
def g_sd_CheckBox : List AV → Option (Prop × RT)
  | [AV.agg [AV.int .i64 a0a, AV.int .i64 a0b, AV.int .i64 a0c, AV.int .i64 a0d]] => some (P_sd_CheckBox a0a a0b a0c a0d, RT.leaf (AV.int .i64 (F_sd_CheckBox_0 a0a a0b a0c a0d)))
  | _ => none
theorem S_sd_CheckBox : SpecOK Try.prog 10 (.pure g_sd_CheckBox) := by
  intro xs p r h hp E w vs hr hv
  unfold g_sd_CheckBox at h
  split at h
  · rename_i a0a a0b a0c a0d
    simp only [Option.some.injEq, Prod.mk.injEq] at h
    obtain ⟨rfl, rfl⟩ := h
    have hG : SpecsOK Try.prog G_sd_CheckBox := ⟨S_sd_fair, trivial⟩
    refine walk_pure' (f := 10) (fn := Try.f10) (c := bodyOf Try.f10) (rs := [.tmp 2]) (ys := as_sd_CheckBox a0a a0b a0c a0d) tab_ok (envL_ok hG) Try.func10 rfl (by kernel_rfl) rfl (by decide) (fun X hX => ?_) E w vs hr hv
    rw [Try.ntmps10]
    refine vwp_std hX rfl (tr := fun _ _ _ => False) (fun _ _ _ h => h.elim) ?_
    refine Eq.mpr (N_sd_CheckBox a0a a0b a0c a0d (fun x => x = _)) ?_
    exact H_sd_CheckBox a0a a0b a0c a0d hp rfl
  · cases h
/-! ### bagatelle/solid.Grow -/
def G_sd_Grow : List (Nat × Ag.Spec) := [(10, .pure g_sd_CheckBox)]
def as_sd_Grow (a0a : Int) (a0b : Int) (a0c : Int) (a0d : Int) (a1 : Int) : List AV := [AV.agg [AV.int .i64 a0a, AV.int .i64 a0b, AV.int .i64 a0c, AV.int .i64 a0d], AV.int .i64 a1]
theorem N_sd_Grow (a0a : Int) (a0b : Int) (a0c : Int) (a0d : Int) (a1 : Int) (K : AV → Prop) : vwp tab (envL G_sd_Grow) (fun _ _ _ => False) 0 (bodyOf Try.f18) (entry (as_sd_Grow a0a a0b a0c a0d a1) 37) (fnPost tab [.cell 4 23] fun v s => K (v.frz s.mem)) = B_sd_Grow a0a a0b a0c a0d a1 (fun r0 r1 r2 r3 => K (AV.agg [AV.int .i64 r0, AV.int .i64 r1, AV.int .i64 r2, AV.int .i64 r3]))  := by kernel_rfl
def g_sd_Grow : List AV → Option (Prop × RT)
  | [AV.agg [AV.int .i64 a0a, AV.int .i64 a0b, AV.int .i64 a0c, AV.int .i64 a0d], AV.int .i64 a1] => some (P_sd_Grow a0a a0b a0c a0d a1, RT.leaf (AV.agg [AV.int .i64 (F_sd_Grow_0 a0a a0b a0c a0d a1), AV.int .i64 (F_sd_Grow_1 a0a a0b a0c a0d a1), AV.int .i64 (F_sd_Grow_2 a0a a0b a0c a0d a1), AV.int .i64 (F_sd_Grow_3 a0a a0b a0c a0d a1)]))
  | _ => none
theorem S_sd_Grow : SpecOK Try.prog 18 (.pure g_sd_Grow) := by
  intro xs p r h hp E w vs hr hv
  unfold g_sd_Grow at h
  split at h
  · rename_i a0a a0b a0c a0d a1
    simp only [Option.some.injEq, Prod.mk.injEq] at h
    obtain ⟨rfl, rfl⟩ := h
    have hG : SpecsOK Try.prog G_sd_Grow := ⟨S_sd_CheckBox, trivial⟩
    refine walk_pure' (f := 18) (fn := Try.f18) (c := bodyOf Try.f18) (rs := [.cell 4 23]) (ys := as_sd_Grow a0a a0b a0c a0d a1) tab_ok (envL_ok hG) Try.func18 rfl (by kernel_rfl) rfl (by decide) (fun X hX => ?_) E w vs hr hv
    rw [Try.ntmps18]
    refine vwp_std hX rfl (tr := fun _ _ _ => False) (fun _ _ _ h => h.elim) ?_
    refine Eq.mpr (N_sd_Grow a0a a0b a0c a0d a1 (fun x => x = _)) ?_
    exact H_sd_Grow a0a a0b a0c a0d a1 hp rfl
  · cases h
/-! ### bagatelle/solid.cross -/
def G_sd_cross : List (Nat × Ag.Spec) := []
def as_sd_cross (a0a : Int) (a0b : Int) (a1a : Int) (a1b : Int) : List AV := [AV.agg [AV.int .i64 a0a, AV.int .i64 a0b], AV.agg [AV.int .i64 a1a, AV.int .i64 a1b]]
theorem N_sd_cross (a0a : Int) (a0b : Int) (a1a : Int) (a1b : Int) (K : AV → Prop) : vwp tab (envL G_sd_cross) (fun _ _ _ => False) 0 (bodyOf Try.f55) (entry (as_sd_cross a0a a0b a1a a1b) 16) (fnPost tab [.tmp 4] fun v s => K (v.frz s.mem)) = B_sd_cross a0a a0b a1a a1b (fun r0 => K (AV.int .i64 r0))  := by kernel_rfl
def g_sd_cross : List AV → Option (Prop × RT)
  | [AV.agg [AV.int .i64 a0a, AV.int .i64 a0b], AV.agg [AV.int .i64 a1a, AV.int .i64 a1b]] => some (P_sd_cross a0a a0b a1a a1b, RT.leaf (AV.int .i64 (F_sd_cross_0 a0a a0b a1a a1b)))
  | _ => none
theorem S_sd_cross : SpecOK Try.prog 55 (.pure g_sd_cross) := by
  intro xs p r h hp E w vs hr hv
  unfold g_sd_cross at h
  split at h
  · rename_i a0a a0b a1a a1b
    simp only [Option.some.injEq, Prod.mk.injEq] at h
    obtain ⟨rfl, rfl⟩ := h
    have hG : SpecsOK Try.prog G_sd_cross := trivial
    refine walk_pure' (f := 55) (fn := Try.f55) (c := bodyOf Try.f55) (rs := [.tmp 4]) (ys := as_sd_cross a0a a0b a1a a1b) tab_ok (envL_ok hG) Try.func55 rfl (by kernel_rfl) rfl (by decide) (fun X hX => ?_) E w vs hr hv
    rw [Try.ntmps55]
    refine vwp_std hX rfl (tr := fun _ _ _ => False) (fun _ _ _ h => h.elim) ?_
    refine Eq.mpr (N_sd_cross a0a a0b a1a a1b (fun x => x = _)) ?_
    exact H_sd_cross a0a a0b a1a a1b hp rfl
  · cases h
/-! ### bagatelle/solid.way -/
def G_sd_way : List (Nat × Ag.Spec) := []
def as_sd_way (a0a : Int) (a0b : Int) (a1a : Int) (a1b : Int) : List AV := [AV.agg [AV.int .i64 a0a, AV.int .i64 a0b], AV.agg [AV.int .i64 a1a, AV.int .i64 a1b]]
theorem N_sd_way (a0a : Int) (a0b : Int) (a1a : Int) (a1b : Int) (K : AV → Prop) : vwp tab (envL G_sd_way) (fun _ _ _ => False) 0 (bodyOf Try.f56) (entry (as_sd_way a0a a0b a1a a1b) 16) (fnPost tab [.cell 4 25] fun v s => K (v.frz s.mem)) = B_sd_way a0a a0b a1a a1b (fun r0 r1 => K (AV.agg [AV.int .i64 r0, AV.int .i64 r1]))  := by kernel_rfl
def g_sd_way : List AV → Option (Prop × RT)
  | [AV.agg [AV.int .i64 a0a, AV.int .i64 a0b], AV.agg [AV.int .i64 a1a, AV.int .i64 a1b]] => some (P_sd_way a0a a0b a1a a1b, RT.leaf (AV.agg [AV.int .i64 (F_sd_way_0 a0a a0b a1a a1b), AV.int .i64 (F_sd_way_1 a0a a0b a1a a1b)]))
  | _ => none
theorem S_sd_way : SpecOK Try.prog 56 (.pure g_sd_way) := by
  intro xs p r h hp E w vs hr hv
  unfold g_sd_way at h
  split at h
  · rename_i a0a a0b a1a a1b
    simp only [Option.some.injEq, Prod.mk.injEq] at h
    obtain ⟨rfl, rfl⟩ := h
    have hG : SpecsOK Try.prog G_sd_way := trivial
    refine walk_pure' (f := 56) (fn := Try.f56) (c := bodyOf Try.f56) (rs := [.cell 4 25]) (ys := as_sd_way a0a a0b a1a a1b) tab_ok (envL_ok hG) Try.func56 rfl (by kernel_rfl) rfl (by decide) (fun X hX => ?_) E w vs hr hv
    rw [Try.ntmps56]
    refine vwp_std hX rfl (tr := fun _ _ _ => False) (fun _ _ _ h => h.elim) ?_
    refine Eq.mpr (N_sd_way a0a a0b a1a a1b (fun x => x = _)) ?_
    exact H_sd_way a0a a0b a1a a1b hp rfl
  · cases h
/-! ### bagatelle/solid.turn -/
def G_sd_turn : List (Nat × Ag.Spec) := [(55, .pure g_sd_cross), (56, .pure g_sd_way)]
def as_sd_turn (a0a : Int) (a0b : Int) (a1a : Int) (a1b : Int) (a2a : Int) (a2b : Int) : List AV := [AV.agg [AV.int .i64 a0a, AV.int .i64 a0b], AV.agg [AV.int .i64 a1a, AV.int .i64 a1b], AV.agg [AV.int .i64 a2a, AV.int .i64 a2b]]
theorem N_sd_turn (a0a : Int) (a0b : Int) (a1a : Int) (a1b : Int) (a2a : Int) (a2b : Int) (K : AV → Prop) : vwp tab (envL G_sd_turn) (fun _ _ _ => False) 0 (bodyOf Try.f42) (entry (as_sd_turn a0a a0b a1a a1b a2a a2b) 14) (fnPost tab [.tmp 6] fun v s => K (v.frz s.mem)) = B_sd_turn a0a a0b a1a a1b a2a a2b (fun r0 => K (AV.int .i64 r0))  := by kernel_rfl
def g_sd_turn : List AV → Option (Prop × RT)
  | [AV.agg [AV.int .i64 a0a, AV.int .i64 a0b], AV.agg [AV.int .i64 a1a, AV.int .i64 a1b], AV.agg [AV.int .i64 a2a, AV.int .i64 a2b]] => some (P_sd_turn a0a a0b a1a a1b a2a a2b, RT.leaf (AV.int .i64 (F_sd_turn_0 a0a a0b a1a a1b a2a a2b)))
  | _ => none
theorem S_sd_turn : SpecOK Try.prog 42 (.pure g_sd_turn) := by
  intro xs p r h hp E w vs hr hv
  unfold g_sd_turn at h
  split at h
  · rename_i a0a a0b a1a a1b a2a a2b
    simp only [Option.some.injEq, Prod.mk.injEq] at h
    obtain ⟨rfl, rfl⟩ := h
    have hG : SpecsOK Try.prog G_sd_turn := ⟨S_sd_cross, S_sd_way, trivial⟩
    refine walk_pure' (f := 42) (fn := Try.f42) (c := bodyOf Try.f42) (rs := [.tmp 6]) (ys := as_sd_turn a0a a0b a1a a1b a2a a2b) tab_ok (envL_ok hG) Try.func42 rfl (by kernel_rfl) rfl (by decide) (fun X hX => ?_) E w vs hr hv
    rw [Try.ntmps42]
    refine vwp_std hX rfl (tr := fun _ _ _ => False) (fun _ _ _ h => h.elim) ?_
    refine Eq.mpr (N_sd_turn a0a a0b a1a a1b a2a a2b (fun x => x = _)) ?_
    exact H_sd_turn a0a a0b a1a a1b a2a a2b hp rfl
  · cases h
/-! ### bagatelle/solid.Side -/
def G_sd_Side : List (Nat × Ag.Spec) := [(39, .pure g_sd_fair), (42, .pure g_sd_turn)]
def as_sd_Side (a0a : Int) (a0b : Int) (a1a : Int) (a1b : Int) (a2a : Int) (a2b : Int) : List AV := [AV.agg [AV.int .i64 a0a, AV.int .i64 a0b], AV.agg [AV.int .i64 a1a, AV.int .i64 a1b], AV.agg [AV.int .i64 a2a, AV.int .i64 a2b]]
theorem N_sd_Side (a0a : Int) (a0b : Int) (a1a : Int) (a1b : Int) (a2a : Int) (a2b : Int) (K : AV → Prop) : vwp tab (envL G_sd_Side) (fun _ _ _ => False) 0 (bodyOf Try.f23) (entry (as_sd_Side a0a a0b a1a a1b a2a a2b) 23) (fnPost tab [.tmp 6] fun v s => K (v.frz s.mem)) = B_sd_Side a0a a0b a1a a1b a2a a2b (fun r0 => K (AV.int .i64 r0))  := by kernel_rfl
def g_sd_Side : List AV → Option (Prop × RT)
  | [AV.agg [AV.int .i64 a0a, AV.int .i64 a0b], AV.agg [AV.int .i64 a1a, AV.int .i64 a1b], AV.agg [AV.int .i64 a2a, AV.int .i64 a2b]] => some (P_sd_Side a0a a0b a1a a1b a2a a2b, RT.leaf (AV.int .i64 (F_sd_Side_0 a0a a0b a1a a1b a2a a2b)))
  | _ => none
theorem S_sd_Side : SpecOK Try.prog 23 (.pure g_sd_Side) := by
  intro xs p r h hp E w vs hr hv
  unfold g_sd_Side at h
  split at h
  · rename_i a0a a0b a1a a1b a2a a2b
    simp only [Option.some.injEq, Prod.mk.injEq] at h
    obtain ⟨rfl, rfl⟩ := h
    have hG : SpecsOK Try.prog G_sd_Side := ⟨S_sd_fair, S_sd_turn, trivial⟩
    refine walk_pure' (f := 23) (fn := Try.f23) (c := bodyOf Try.f23) (rs := [.tmp 6]) (ys := as_sd_Side a0a a0b a1a a1b a2a a2b) tab_ok (envL_ok hG) Try.func23 rfl (by kernel_rfl) rfl (by decide) (fun X hX => ?_) E w vs hr hv
    rw [Try.ntmps23]
    refine vwp_std hX rfl (tr := fun _ _ _ => False) (fun _ _ _ h => h.elim) ?_
    refine Eq.mpr (N_sd_Side a0a a0b a1a a1b a2a a2b (fun x => x = _)) ?_
    exact H_sd_Side a0a a0b a1a a1b a2a a2b hp rfl
  · cases h
/-! ### bagatelle/bagatellelaw03.awake -/
def G_lw_awake : List (Nat × Ag.Spec) := [(18, .pure g_sd_Grow), (23, .pure g_sd_Side)]
def as_lw_awake  : List AV := []
theorem N_lw_awake  (K : AV → Prop) : vwp tab (envL G_lw_awake) (fun _ _ _ => False) 0 (bodyOf Try.f9) (entry (as_lw_awake ) 12) (fnPost tab [.tmp 0] fun v s => K (v.frz s.mem)) = B_lw_awake  (fun r0 => K (AV.bool r0))  := by kernel_rfl
def g_lw_awake : List AV → Option (Prop × RT)
  | [] => some (P_lw_awake , RT.leaf (AV.bool F_lw_awake_0))
  | _ => none
theorem S_lw_awake : SpecOK Try.prog 9 (.pure g_lw_awake) := by
  intro xs p r h hp E w vs hr hv
  unfold g_lw_awake at h
  split at h
  · skip
    simp only [Option.some.injEq, Prod.mk.injEq] at h
    obtain ⟨rfl, rfl⟩ := h
    have hG : SpecsOK Try.prog G_lw_awake := ⟨S_sd_Grow, S_sd_Side, trivial⟩
    refine walk_pure' (f := 9) (fn := Try.f9) (c := bodyOf Try.f9) (rs := [.tmp 0]) (ys := as_lw_awake ) tab_ok (envL_ok hG) Try.func9 rfl (by kernel_rfl) rfl (by decide) (fun X hX => ?_) E w vs hr hv
    rw [Try.ntmps9]
    refine vwp_std hX rfl (tr := fun _ _ _ => False) (fun _ _ _ h => h.elim) ?_
    refine Eq.mpr (N_lw_awake  (fun x => x = _)) ?_
    exact H_lw_awake  hp rfl
  · cases h
/-! ### bagatelle/bagatelleref03.valid -/
def G_r3_valid : List (Nat × Ag.Spec) := []
def as_r3_valid (a0a : Int) (a0b : Int) : List AV := [AV.agg [AV.int .i64 a0a, AV.int .i64 a0b]]
theorem N_r3_valid (a0a : Int) (a0b : Int) (K : AV → Prop) : vwp tab (envL G_r3_valid) (fun _ _ _ => False) 0 (bodyOf Try.f40) (entry (as_r3_valid a0a a0b) 21) (fnPost tab [.tmp 2] fun v s => K (v.frz s.mem)) = B_r3_valid a0a a0b (fun r0 => K (AV.bool r0))  := by kernel_rfl
def g_r3_valid : List AV → Option (Prop × RT)
  | [AV.agg [AV.int .i64 a0a, AV.int .i64 a0b]] => some (P_r3_valid a0a a0b, RT.leaf (AV.bool (F_r3_valid_0 a0a a0b)))
  | _ => none
theorem S_r3_valid : SpecOK Try.prog 40 (.pure g_r3_valid) := by
  intro xs p r h hp E w vs hr hv
  unfold g_r3_valid at h
  split at h
  · rename_i a0a a0b
    simp only [Option.some.injEq, Prod.mk.injEq] at h
    obtain ⟨rfl, rfl⟩ := h
    have hG : SpecsOK Try.prog G_r3_valid := trivial
    refine walk_pure' (f := 40) (fn := Try.f40) (c := bodyOf Try.f40) (rs := [.tmp 2]) (ys := as_r3_valid a0a a0b) tab_ok (envL_ok hG) Try.func40 rfl (by kernel_rfl) rfl (by decide) (fun X hX => ?_) E w vs hr hv
    rw [Try.ntmps40]
    refine vwp_std hX rfl (tr := fun _ _ _ => False) (fun _ _ _ h => h.elim) ?_
    refine Eq.mpr (N_r3_valid a0a a0b (fun x => x = _)) ?_
    exact H_r3_valid a0a a0b hp rfl
  · cases h
/-! ### bagatelle/bagatelleref03.CheckBox -/
def G_r3_CheckBox : List (Nat × Ag.Spec) := [(40, .pure g_r3_valid)]
def as_r3_CheckBox (a0a : Int) (a0b : Int) (a0c : Int) (a0d : Int) : List AV := [AV.agg [AV.int .i64 a0a, AV.int .i64 a0b, AV.int .i64 a0c, AV.int .i64 a0d]]
theorem N_r3_CheckBox (a0a : Int) (a0b : Int) (a0c : Int) (a0d : Int) (K : AV → Prop) : vwp tab (envL G_r3_CheckBox) (fun _ _ _ => False) 0 (bodyOf Try.f11) (entry (as_r3_CheckBox a0a a0b a0c a0d) 31) (fnPost tab [.tmp 2] fun v s => K (v.frz s.mem)) = B_r3_CheckBox a0a a0b a0c a0d (fun r0 => K (AV.int .i64 r0))  := by kernel_rfl
def g_r3_CheckBox : List AV → Option (Prop × RT)
  | [AV.agg [AV.int .i64 a0a, AV.int .i64 a0b, AV.int .i64 a0c, AV.int .i64 a0d]] => some (P_r3_CheckBox a0a a0b a0c a0d, RT.leaf (AV.int .i64 (F_r3_CheckBox_0 a0a a0b a0c a0d)))
  | _ => none
theorem S_r3_CheckBox : SpecOK Try.prog 11 (.pure g_r3_CheckBox) := by
  intro xs p r h hp E w vs hr hv
  unfold g_r3_CheckBox at h
  split at h
  · rename_i a0a a0b a0c a0d
    simp only [Option.some.injEq, Prod.mk.injEq] at h
    obtain ⟨rfl, rfl⟩ := h
    have hG : SpecsOK Try.prog G_r3_CheckBox := ⟨S_r3_valid, trivial⟩
    refine walk_pure' (f := 11) (fn := Try.f11) (c := bodyOf Try.f11) (rs := [.tmp 2]) (ys := as_r3_CheckBox a0a a0b a0c a0d) tab_ok (envL_ok hG) Try.func11 rfl (by kernel_rfl) rfl (by decide) (fun X hX => ?_) E w vs hr hv
    rw [Try.ntmps11]
    refine vwp_std hX rfl (tr := fun _ _ _ => False) (fun _ _ _ h => h.elim) ?_
    refine Eq.mpr (N_r3_CheckBox a0a a0b a0c a0d (fun x => x = _)) ?_
    exact H_r3_CheckBox a0a a0b a0c a0d hp rfl
  · cases h
/-! ### bagatelle/solid.Meets -/
def G_sd_Meets : List (Nat × Ag.Spec) := [(10, .pure g_sd_CheckBox)]
def as_sd_Meets (a0a : Int) (a0b : Int) (a0c : Int) (a0d : Int) (a1a : Int) (a1b : Int) (a1c : Int) (a1d : Int) : List AV := [AV.agg [AV.int .i64 a0a, AV.int .i64 a0b, AV.int .i64 a0c, AV.int .i64 a0d], AV.agg [AV.int .i64 a1a, AV.int .i64 a1b, AV.int .i64 a1c, AV.int .i64 a1d]]
theorem N_sd_Meets (a0a : Int) (a0b : Int) (a0c : Int) (a0d : Int) (a1a : Int) (a1b : Int) (a1c : Int) (a1d : Int) (K : AV → Prop) : vwp tab (envL G_sd_Meets) (fun _ _ _ => False) 0 (bodyOf Try.f12) (entry (as_sd_Meets a0a a0b a0c a0d a1a a1b a1c a1d) 37) (fnPost tab [.tmp 4] fun v s => K (v.frz s.mem)) = B_sd_Meets a0a a0b a0c a0d a1a a1b a1c a1d (fun r0 => K (AV.bool r0))  := by kernel_rfl
def g_sd_Meets : List AV → Option (Prop × RT)
  | [AV.agg [AV.int .i64 a0a, AV.int .i64 a0b, AV.int .i64 a0c, AV.int .i64 a0d], AV.agg [AV.int .i64 a1a, AV.int .i64 a1b, AV.int .i64 a1c, AV.int .i64 a1d]] => some (P_sd_Meets a0a a0b a0c a0d a1a a1b a1c a1d, RT.leaf (AV.bool (F_sd_Meets_0 a0a a0b a0c a0d a1a a1b a1c a1d)))
  | _ => none
theorem S_sd_Meets : SpecOK Try.prog 12 (.pure g_sd_Meets) := by
  intro xs p r h hp E w vs hr hv
  unfold g_sd_Meets at h
  split at h
  · rename_i a0a a0b a0c a0d a1a a1b a1c a1d
    simp only [Option.some.injEq, Prod.mk.injEq] at h
    obtain ⟨rfl, rfl⟩ := h
    have hG : SpecsOK Try.prog G_sd_Meets := ⟨S_sd_CheckBox, trivial⟩
    refine walk_pure' (f := 12) (fn := Try.f12) (c := bodyOf Try.f12) (rs := [.tmp 4]) (ys := as_sd_Meets a0a a0b a0c a0d a1a a1b a1c a1d) tab_ok (envL_ok hG) Try.func12 rfl (by kernel_rfl) rfl (by decide) (fun X hX => ?_) E w vs hr hv
    rw [Try.ntmps12]
    refine vwp_std hX rfl (tr := fun _ _ _ => False) (fun _ _ _ h => h.elim) ?_
    refine Eq.mpr (N_sd_Meets a0a a0b a0c a0d a1a a1b a1c a1d (fun x => x = _)) ?_
    exact H_sd_Meets a0a a0b a0c a0d a1a a1b a1c a1d hp rfl
  · cases h
/-! ### bagatelle/bagatelleref03.Meets -/
def G_r3_Meets : List (Nat × Ag.Spec) := [(11, .pure g_r3_CheckBox)]
def as_r3_Meets (a0a : Int) (a0b : Int) (a0c : Int) (a0d : Int) (a1a : Int) (a1b : Int) (a1c : Int) (a1d : Int) : List AV := [AV.agg [AV.int .i64 a0a, AV.int .i64 a0b, AV.int .i64 a0c, AV.int .i64 a0d], AV.agg [AV.int .i64 a1a, AV.int .i64 a1b, AV.int .i64 a1c, AV.int .i64 a1d]]
theorem N_r3_Meets (a0a : Int) (a0b : Int) (a0c : Int) (a0d : Int) (a1a : Int) (a1b : Int) (a1c : Int) (a1d : Int) (K : AV → Prop) : vwp tab (envL G_r3_Meets) (fun _ _ _ => False) 0 (bodyOf Try.f13) (entry (as_r3_Meets a0a a0b a0c a0d a1a a1b a1c a1d) 41) (fnPost tab [.tmp 4] fun v s => K (v.frz s.mem)) = B_r3_Meets a0a a0b a0c a0d a1a a1b a1c a1d (fun r0 => K (AV.bool r0))  := by kernel_rfl
def g_r3_Meets : List AV → Option (Prop × RT)
  | [AV.agg [AV.int .i64 a0a, AV.int .i64 a0b, AV.int .i64 a0c, AV.int .i64 a0d], AV.agg [AV.int .i64 a1a, AV.int .i64 a1b, AV.int .i64 a1c, AV.int .i64 a1d]] => some (P_r3_Meets a0a a0b a0c a0d a1a a1b a1c a1d, RT.leaf (AV.bool (F_r3_Meets_0 a0a a0b a0c a0d a1a a1b a1c a1d)))
  | _ => none
theorem S_r3_Meets : SpecOK Try.prog 13 (.pure g_r3_Meets) := by
  intro xs p r h hp E w vs hr hv
  unfold g_r3_Meets at h
  split at h
  · rename_i a0a a0b a0c a0d a1a a1b a1c a1d
    simp only [Option.some.injEq, Prod.mk.injEq] at h
    obtain ⟨rfl, rfl⟩ := h
    have hG : SpecsOK Try.prog G_r3_Meets := ⟨S_r3_CheckBox, trivial⟩
    refine walk_pure' (f := 13) (fn := Try.f13) (c := bodyOf Try.f13) (rs := [.tmp 4]) (ys := as_r3_Meets a0a a0b a0c a0d a1a a1b a1c a1d) tab_ok (envL_ok hG) Try.func13 rfl (by kernel_rfl) rfl (by decide) (fun X hX => ?_) E w vs hr hv
    rw [Try.ntmps13]
    refine vwp_std hX rfl (tr := fun _ _ _ => False) (fun _ _ _ h => h.elim) ?_
    refine Eq.mpr (N_r3_Meets a0a a0b a0c a0d a1a a1b a1c a1d (fun x => x = _)) ?_
    exact H_r3_Meets a0a a0b a0c a0d a1a a1b a1c a1d hp rfl
  · cases h
/-! ### bagatelle/solid.grown -/
def G_sd_grown : List (Nat × Ag.Spec) := []
def as_sd_grown (a0a : Int) (a0b : Int) (a1 : Int) : List AV := [AV.agg [AV.int .i64 a0a, AV.int .i64 a0b], AV.int .i64 a1]
theorem N_sd_grown (a0a : Int) (a0b : Int) (a1 : Int) (K : AV → Prop) : vwp tab (envL G_sd_grown) (fun _ _ _ => False) 0 (bodyOf Try.f41) (entry (as_sd_grown a0a a0b a1) 22) (fnPost tab [.cell 4 23] fun v s => K (v.frz s.mem)) = B_sd_grown a0a a0b a1 (fun r0 r1 r2 r3 => K (AV.agg [AV.int .i64 r0, AV.int .i64 r1, AV.int .i64 r2, AV.int .i64 r3]))  := by kernel_rfl
def g_sd_grown : List AV → Option (Prop × RT)
  | [AV.agg [AV.int .i64 a0a, AV.int .i64 a0b], AV.int .i64 a1] => some (P_sd_grown a0a a0b a1, RT.leaf (AV.agg [AV.int .i64 (F_sd_grown_0 a0a a0b a1), AV.int .i64 (F_sd_grown_1 a0a a0b a1), AV.int .i64 (F_sd_grown_2 a0a a0b a1), AV.int .i64 (F_sd_grown_3 a0a a0b a1)]))
  | _ => none
theorem S_sd_grown : SpecOK Try.prog 41 (.pure g_sd_grown) := by
  intro xs p r h hp E w vs hr hv
  unfold g_sd_grown at h
  split at h
  · rename_i a0a a0b a1
    simp only [Option.some.injEq, Prod.mk.injEq] at h
    obtain ⟨rfl, rfl⟩ := h
    have hG : SpecsOK Try.prog G_sd_grown := trivial
    refine walk_pure' (f := 41) (fn := Try.f41) (c := bodyOf Try.f41) (rs := [.cell 4 23]) (ys := as_sd_grown a0a a0b a1) tab_ok (envL_ok hG) Try.func41 rfl (by kernel_rfl) rfl (by decide) (fun X hX => ?_) E w vs hr hv
    rw [Try.ntmps41]
    refine vwp_std hX rfl (tr := fun _ _ _ => False) (fun _ _ _ h => h.elim) ?_
    refine Eq.mpr (N_sd_grown a0a a0b a1 (fun x => x = _)) ?_
    exact H_sd_grown a0a a0b a1 hp rfl
  · cases h
/-! ### bagatelle/solid.Within -/
def G_sd_Within : List (Nat × Ag.Spec) := [(12, .pure g_sd_Meets), (41, .pure g_sd_grown)]
def as_sd_Within (a0a : Int) (a0b : Int) (a0c : Int) (a0d : Int) (a1a : Int) (a1b : Int) : List AV := [AV.agg [AV.int .i64 a0a, AV.int .i64 a0b, AV.int .i64 a0c, AV.int .i64 a0d], AV.agg [AV.int .i64 a1a, AV.int .i64 a1b]]
theorem N_sd_Within (a0a : Int) (a0b : Int) (a0c : Int) (a0d : Int) (a1a : Int) (a1b : Int) (K : AV → Prop) : vwp tab (envL G_sd_Within) (fun _ _ _ => False) 0 (bodyOf Try.f14) (entry (as_sd_Within a0a a0b a0c a0d a1a a1b) 9) (fnPost tab [.tmp 4] fun v s => K (v.frz s.mem)) = B_sd_Within a0a a0b a0c a0d a1a a1b (fun r0 => K (AV.bool r0))  := by kernel_rfl
def g_sd_Within : List AV → Option (Prop × RT)
  | [AV.agg [AV.int .i64 a0a, AV.int .i64 a0b, AV.int .i64 a0c, AV.int .i64 a0d], AV.agg [AV.int .i64 a1a, AV.int .i64 a1b]] => some (P_sd_Within a0a a0b a0c a0d a1a a1b, RT.leaf (AV.bool (F_sd_Within_0 a0a a0b a0c a0d a1a a1b)))
  | _ => none
theorem S_sd_Within : SpecOK Try.prog 14 (.pure g_sd_Within) := by
  intro xs p r h hp E w vs hr hv
  unfold g_sd_Within at h
  split at h
  · rename_i a0a a0b a0c a0d a1a a1b
    simp only [Option.some.injEq, Prod.mk.injEq] at h
    obtain ⟨rfl, rfl⟩ := h
    have hG : SpecsOK Try.prog G_sd_Within := ⟨S_sd_Meets, S_sd_grown, trivial⟩
    refine walk_pure' (f := 14) (fn := Try.f14) (c := bodyOf Try.f14) (rs := [.tmp 4]) (ys := as_sd_Within a0a a0b a0c a0d a1a a1b) tab_ok (envL_ok hG) Try.func14 rfl (by kernel_rfl) rfl (by decide) (fun X hX => ?_) E w vs hr hv
    rw [Try.ntmps14]
    refine vwp_std hX rfl (tr := fun _ _ _ => False) (fun _ _ _ h => h.elim) ?_
    refine Eq.mpr (N_sd_Within a0a a0b a0c a0d a1a a1b (fun x => x = _)) ?_
    exact H_sd_Within a0a a0b a0c a0d a1a a1b hp rfl
  · cases h
/-! ### bagatelle/bagatelleref03.Within -/
def G_r3_Within : List (Nat × Ag.Spec) := [(11, .pure g_r3_CheckBox)]
def as_r3_Within (a0a : Int) (a0b : Int) (a0c : Int) (a0d : Int) (a1a : Int) (a1b : Int) : List AV := [AV.agg [AV.int .i64 a0a, AV.int .i64 a0b, AV.int .i64 a0c, AV.int .i64 a0d], AV.agg [AV.int .i64 a1a, AV.int .i64 a1b]]
theorem N_r3_Within (a0a : Int) (a0b : Int) (a0c : Int) (a0d : Int) (a1a : Int) (a1b : Int) (K : AV → Prop) : vwp tab (envL G_r3_Within) (fun _ _ _ => False) 0 (bodyOf Try.f15) (entry (as_r3_Within a0a a0b a0c a0d a1a a1b) 36) (fnPost tab [.tmp 4] fun v s => K (v.frz s.mem)) = B_r3_Within a0a a0b a0c a0d a1a a1b (fun r0 => K (AV.bool r0))  := by kernel_rfl
def g_r3_Within : List AV → Option (Prop × RT)
  | [AV.agg [AV.int .i64 a0a, AV.int .i64 a0b, AV.int .i64 a0c, AV.int .i64 a0d], AV.agg [AV.int .i64 a1a, AV.int .i64 a1b]] => some (P_r3_Within a0a a0b a0c a0d a1a a1b, RT.leaf (AV.bool (F_r3_Within_0 a0a a0b a0c a0d a1a a1b)))
  | _ => none
theorem S_r3_Within : SpecOK Try.prog 15 (.pure g_r3_Within) := by
  intro xs p r h hp E w vs hr hv
  unfold g_r3_Within at h
  split at h
  · rename_i a0a a0b a0c a0d a1a a1b
    simp only [Option.some.injEq, Prod.mk.injEq] at h
    obtain ⟨rfl, rfl⟩ := h
    have hG : SpecsOK Try.prog G_r3_Within := ⟨S_r3_CheckBox, trivial⟩
    refine walk_pure' (f := 15) (fn := Try.f15) (c := bodyOf Try.f15) (rs := [.tmp 4]) (ys := as_r3_Within a0a a0b a0c a0d a1a a1b) tab_ok (envL_ok hG) Try.func15 rfl (by kernel_rfl) rfl (by decide) (fun X hX => ?_) E w vs hr hv
    rw [Try.ntmps15]
    refine vwp_std hX rfl (tr := fun _ _ _ => False) (fun _ _ _ h => h.elim) ?_
    refine Eq.mpr (N_r3_Within a0a a0b a0c a0d a1a a1b (fun x => x = _)) ?_
    exact H_r3_Within a0a a0b a0c a0d a1a a1b hp rfl
  · cases h
/-! ### bagatelle/solid.Join -/
def G_sd_Join : List (Nat × Ag.Spec) := [(10, .pure g_sd_CheckBox)]
/-! loop sd_Join_0 -/
def S_sd_Join_0 (a0n : Nat) (a0a : Nat → Int) (a0b : Nat → Int) (a0c : Nat → Int) (a0d : Nat → Int) (v0t8 : Int) (v0m10 : Int) (v0m11 : Int) (v0m12 : Int) (v0m13 : Int) : VS := ⟨slotsN 46 0 [(2, AV.ptr false 0 0 0), (3, AV.ptr false 1 0 0), (6, AV.rs none a0n [CF.I .i64 a0a, CF.I .i64 a0b, CF.I .i64 a0c, CF.I .i64 a0d]), (7, AV.int .i64 ((a0n : Nat) : Int)), (8, AV.int .i64 v0t8)], [.one true 23 [AV.int .i64 0, AV.int .i64 0, AV.int .i64 0, AV.int .i64 0], .one true 23 [AV.int .i64 v0m10, AV.int .i64 v0m11, AV.int .i64 v0m12, AV.int .i64 v0m13]], false⟩
def X_sd_Join_0_exit0 (a0n : Nat) (a0a : Nat → Int) (a0b : Nat → Int) (a0c : Nat → Int) (a0d : Nat → Int) (o0 : Int) (o1 : Int) (o2 : Int) (o3 : Int) (o4 : Int) : VS := ⟨slotsN 46 0 [(2, AV.ptr false 0 0 0), (3, AV.ptr false 1 0 0), (6, AV.rs none a0n [CF.I .i64 a0a, CF.I .i64 a0b, CF.I .i64 a0c, CF.I .i64 a0d]), (7, AV.int .i64 ((a0n : Nat) : Int)), (8, AV.int .i64 o0)], [.one true 23 [AV.int .i64 0, AV.int .i64 0, AV.int .i64 0, AV.int .i64 0], .one true 23 [AV.int .i64 o1, AV.int .i64 o2, AV.int .i64 o3, AV.int .i64 o4]], false⟩
def X_sd_Join_0_ret (a0n : Nat) (a0a : Nat → Int) (a0b : Nat → Int) (a0c : Nat → Int) (a0d : Nat → Int) (o0 : Int) (o1 : Int) (o2 : Int) (o3 : Int) (o4 : Int) : VS := ⟨slotsN 46 0 [(2, AV.ptr false 0 0 0), (3, AV.ptr false 1 0 0), (6, AV.rs none a0n [CF.I .i64 a0a, CF.I .i64 a0b, CF.I .i64 a0c, CF.I .i64 a0d]), (7, AV.int .i64 ((a0n : Nat) : Int)), (8, AV.int .i64 o0)], [.one true 23 [AV.int .i64 0, AV.int .i64 0, AV.int .i64 0, AV.int .i64 0], .one true 23 [AV.int .i64 o1, AV.int .i64 o2, AV.int .i64 o3, AV.int .i64 o4]], false⟩
theorem N_sd_Join_0 (a0n : Nat) (a0a : Nat → Int) (a0b : Nat → Int) (a0c : Nat → Int) (a0d : Nat → Int) (v0t8 : Int) (v0m10 : Int) (v0m11 : Int) (v0m12 : Int) (v0m13 : Int) (Q : Exit → VS → Prop) : vwp tab (envL G_sd_Join) (fun _ _ _ => False) 0 (lbody (loopAt (bodyOf Try.f16) 0)) (S_sd_Join_0 a0n a0a a0b a0c a0d v0t8 v0m10 v0m11 v0m12 v0m13) (QM [2, 3, 6, 7, 8] [0, 1] 2 Q) = B_sd_Join_0 a0n a0a a0b a0c a0d v0t8 v0m10 v0m11 v0m12 v0m13 (fun w0 w1 w2 w3 w4 => Q .normal (S_sd_Join_0 a0n a0a a0b a0c a0d w0 w1 w2 w3 w4)) (fun o0 o1 o2 o3 o4 => Q (.exit 0) (X_sd_Join_0_exit0 a0n a0a a0b a0c a0d o0 o1 o2 o3 o4)) (fun o0 o1 o2 o3 o4 => Q .ret (X_sd_Join_0_ret a0n a0a a0b a0c a0d o0 o1 o2 o3 o4))  := by kernel_rfl
theorem L_sd_Join_0 {X : Cx} (hX : Std Try.prog tab (envL G_sd_Join) X) (b : Code) (hb : b = bodyOf Try.f16) (a0n : Nat) (a0a : Nat → Int) (a0b : Nat → Int) (a0c : Nat → Int) (a0d : Nat → Int) (fu : Nat) (v0t8 : Int) (v0m10 : Int) (v0m11 : Int) (v0m12 : Int) (v0m13 : Int) (Q : Exit → VS → Prop) (h : W_sd_Join_0 a0n a0a a0b a0c a0d fu v0t8 v0m10 v0m11 v0m12 v0m13 (fun o0 o1 o2 o3 o4 => Q (.exit 0) (X_sd_Join_0_exit0 a0n a0a a0b a0c a0d o0 o1 o2 o3 o4)) (fun o0 o1 o2 o3 o4 => Q .ret (X_sd_Join_0_ret a0n a0a a0b a0c a0d o0 o1 o2 o3 o4))) : TrK X b 0 (S_sd_Join_0 a0n a0a a0b a0c a0d v0t8 v0m10 v0m11 v0m12 v0m13) Q := by
  subst hb
  refine loop_ok (V := Int × Int × Int × Int × Int) (fun v => S_sd_Join_0 a0n a0a a0b a0c a0d v.1 v.2.1 v.2.2.1 v.2.2.2.1 v.2.2.2.2) (fun f v => W_sd_Join_0 a0n a0a a0b a0c a0d f v.1 v.2.1 v.2.2.1 v.2.2.2.1 v.2.2.2.2 (fun o0 o1 o2 o3 o4 => Q (.exit 0) (X_sd_Join_0_exit0 a0n a0a a0b a0c a0d o0 o1 o2 o3 o4)) (fun o0 o1 o2 o3 o4 => Q .ret (X_sd_Join_0_ret a0n a0a a0b a0c a0d o0 o1 o2 o3 o4))) (fun _ h => h) (by kernel_rfl) (fun f v hv => ?_) (fuel := fu) (v0 := (v0t8, v0m10, v0m11, v0m12, v0m13)) h
  refine QM_ok (bs := [2, 3, 6, 7, 8]) (ms := [0, 1]) (nm := 2) ?_
  refine vwp_std hX rfl (tr := (fun _ _ _ => False)) (fun _ _ _ h => h.elim) ?_
  refine Eq.mpr (N_sd_Join_0 a0n a0a a0b a0c a0d v.1 v.2.1 v.2.2.1 v.2.2.2.1 v.2.2.2.2 _) ?_
  exact BM_sd_Join_0 a0n a0a a0b a0c a0d v.1 v.2.1 v.2.2.1 v.2.2.2.1 v.2.2.2.2 (fun w0 w1 w2 w3 w4 h => ⟨(w0, w1, w2, w3, w4), rfl, h⟩) (fun _ _ _ _ _ h => h) (fun _ _ _ _ _ h => h) hv
def T_sd_Join (a0n : Nat) (a0a : Nat → Int) (a0b : Nat → Int) (a0c : Nat → Int) (a0d : Nat → Int) (k : Nat) (st : VS) (Q : Exit → VS → Prop) : Prop := match k with
  | 0 => TL [2, 3, 6, 7, 8] [0, 1] 2 (convs st []) (fun st => S_sd_Join_0 a0n a0a a0b a0c a0d (intOf (tAt st 8)) (intOf (mAt st 1 0)) (intOf (mAt st 1 1)) (intOf (mAt st 1 2)) (intOf (mAt st 1 3))) (fun st => W_sd_Join_0 a0n a0a a0b a0c a0d fuel (intOf (tAt st 8)) (intOf (mAt st 1 0)) (intOf (mAt st 1 1)) (intOf (mAt st 1 2)) (intOf (mAt st 1 3)) (fun o0 o1 o2 o3 o4 => Q (.exit 0) (X_sd_Join_0_exit0 a0n a0a a0b a0c a0d o0 o1 o2 o3 o4)) (fun o0 o1 o2 o3 o4 => Q .ret (X_sd_Join_0_ret a0n a0a a0b a0c a0d o0 o1 o2 o3 o4)))
  | _ => False
theorem TS_sd_Join {X : Cx} (hX : Std Try.prog tab (envL G_sd_Join) X) (b : Code) (hb : b = bodyOf Try.f16) (a0n : Nat) (a0a : Nat → Int) (a0b : Nat → Int) (a0c : Nat → Int) (a0d : Nat → Int) (j : Nat) (st : VS) (Q : Exit → VS → Prop) (h : T_sd_Join a0n a0a a0b a0c a0d j st Q) : TrK X b j st Q := by
  unfold T_sd_Join at h
  split at h
  · exact TL_ok h (fun h' => L_sd_Join_0 hX b hb a0n a0a a0b a0c a0d _ _ _ _ _ _ Q h')
  · exact h.elim
def as_sd_Join (a0n : Nat) (a0a : Nat → Int) (a0b : Nat → Int) (a0c : Nat → Int) (a0d : Nat → Int) : List AV := [AV.rs none a0n [CF.I .i64 a0a, CF.I .i64 a0b, CF.I .i64 a0c, CF.I .i64 a0d]]
theorem N_sd_Join (a0n : Nat) (a0a : Nat → Int) (a0b : Nat → Int) (a0c : Nat → Int) (a0d : Nat → Int) (K : AV → Prop) : vwp tab (envL G_sd_Join) (T_sd_Join a0n a0a a0b a0c a0d) 0 (bodyOf Try.f16) (entry (as_sd_Join a0n a0a a0b a0c a0d) 46) (fnPost tab [.cell 2 23] fun v s => K (v.frz s.mem)) = B_sd_Join a0n a0a a0b a0c a0d (fun r0 r1 r2 r3 => K (AV.agg [AV.int .i64 r0, AV.int .i64 r1, AV.int .i64 r2, AV.int .i64 r3])) (fun p0 p1 p2 p3 p4 y0 y1 => S_sd_Join_0 a0n a0a a0b a0c a0d p0 p1 p2 p3 p4 = S_sd_Join_0 a0n a0a a0b a0c a0d p0 p1 p2 p3 p4 ∧ W_sd_Join_0 a0n a0a a0b a0c a0d fuel p0 p1 p2 p3 p4 y0 y1) := by kernel_rfl
theorem BL_sd_Join (a0n : Nat) (a0a : Nat → Int) (a0b : Nat → Int) (a0c : Nat → Int) (a0d : Nat → Int) {K0 : Int → Int → Int → Int → Prop} : B_sd_Join a0n a0a a0b a0c a0d K0 (W_sd_Join_0 a0n a0a a0b a0c a0d fuel) → B_sd_Join a0n a0a a0b a0c a0d K0 (fun p0 p1 p2 p3 p4 y0 y1 => S_sd_Join_0 a0n a0a a0b a0c a0d p0 p1 p2 p3 p4 = S_sd_Join_0 a0n a0a a0b a0c a0d p0 p1 p2 p3 p4 ∧ W_sd_Join_0 a0n a0a a0b a0c a0d fuel p0 p1 p2 p3 p4 y0 y1) := by
  unfold B_sd_Join
  repeat' first
    | exact id
    | refine Ts_imp ?_
    | refine cond_imp ?_ ?_
    | refine and_imp' ?_
    | refine fun h => ⟨rfl, WM_sd_Join_0 _ _ _ _ _  (fun _ _ _ _ _ => ?_) (fun _ _ _ _ _ => ?_) _ _ _ _ _ _  h⟩
def g_sd_Join : List AV → Option (Prop × RT)
  | [AV.rs sq0 sn0 sc0] => cond (kindsOK [KC.I .i64, KC.I .i64, KC.I .i64, KC.I .i64] sc0) (some (P_sd_Join (nOf sn0 sc0) (colI sc0 0) (colI sc0 1) (colI sc0 2) (colI sc0 3), RT.leaf (AV.agg [AV.int .i64 (F_sd_Join_0 (nOf sn0 sc0) (colI sc0 0) (colI sc0 1) (colI sc0 2) (colI sc0 3)), AV.int .i64 (F_sd_Join_1 (nOf sn0 sc0) (colI sc0 0) (colI sc0 1) (colI sc0 2) (colI sc0 3)), AV.int .i64 (F_sd_Join_2 (nOf sn0 sc0) (colI sc0 0) (colI sc0 1) (colI sc0 2) (colI sc0 3)), AV.int .i64 (F_sd_Join_3 (nOf sn0 sc0) (colI sc0 0) (colI sc0 1) (colI sc0 2) (colI sc0 3))]))) none
  | _ => none
theorem S_sd_Join : SpecOK Try.prog 16 (.pure g_sd_Join) := by
  intro xs p r h hp E w vs hr hv
  unfold g_sd_Join at h
  split at h
  · rename_i sq0 sn0 sc0
    have hk0 : kindsOK [KC.I .i64, KC.I .i64, KC.I .i64, KC.I .i64] sc0 = true := by
      cases hh : kindsOK [KC.I .i64, KC.I .i64, KC.I .i64, KC.I .i64] sc0 with
      | true => rfl
      | false => rw [hh] at h; cases h
    rw [hk0, cond_true] at h
    simp only [Option.some.injEq, Prod.mk.injEq] at h
    obtain ⟨rfl, rfl⟩ := h
    have hG : SpecsOK Try.prog G_sd_Join := ⟨S_sd_CheckBox, trivial⟩
    have hv' : VRs E.bare (as_sd_Join (nOf sn0 sc0) (colI sc0 0) (colI sc0 1) (colI sc0 2) (colI sc0 3)) vs := (AV.les.cons (AV.le.rs hk0) AV.les.nil) _ _ hv
    refine walk_pure' (f := 16) (fn := Try.f16) (c := bodyOf Try.f16) (rs := [.cell 2 23]) (ys := as_sd_Join (nOf sn0 sc0) (colI sc0 0) (colI sc0 1) (colI sc0 2) (colI sc0 3)) tab_ok (envL_ok hG) Try.func16 rfl (by kernel_rfl) rfl (by decide) (fun X hX => ?_) E w vs hr hv'
    rw [Try.ntmps16]
    refine vwp_std hX rfl (tr := T_sd_Join (nOf sn0 sc0) (colI sc0 0) (colI sc0 1) (colI sc0 2) (colI sc0 3)) (fun j st Q h => TS_sd_Join hX _ rfl (nOf sn0 sc0) (colI sc0 0) (colI sc0 1) (colI sc0 2) (colI sc0 3) j st Q h) ?_
    refine Eq.mpr (N_sd_Join (nOf sn0 sc0) (colI sc0 0) (colI sc0 1) (colI sc0 2) (colI sc0 3) (fun x => x = _)) ?_
    exact BL_sd_Join (nOf sn0 sc0) (colI sc0 0) (colI sc0 1) (colI sc0 2) (colI sc0 3) (H_sd_Join (nOf sn0 sc0) (colI sc0 0) (colI sc0 1) (colI sc0 2) (colI sc0 3) hp rfl)
  · cases h
/-! ### bagatelle/bagatelleref03.Join -/
def G_r3_Join : List (Nat × Ag.Spec) := [(11, .pure g_r3_CheckBox)]
/-! loop r3_Join_0 -/
def S_r3_Join_0 (a0n : Nat) (a0a : Nat → Int) (a0b : Nat → Int) (a0c : Nat → Int) (a0d : Nat → Int) (v0t4 : Int) (v0m10 : Int) (v0m11 : Int) (v0m12 : Int) (v0m13 : Int) : VS := ⟨slotsN 58 0 [(0, AV.rs none a0n [CF.I .i64 a0a, CF.I .i64 a0b, CF.I .i64 a0c, CF.I .i64 a0d]), (2, AV.ptr false 0 0 0), (3, AV.ptr false 1 0 0), (4, AV.int .i64 v0t4)], [.one true 23 [AV.int .i64 0, AV.int .i64 0, AV.int .i64 0, AV.int .i64 0], .one true 23 [AV.int .i64 v0m10, AV.int .i64 v0m11, AV.int .i64 v0m12, AV.int .i64 v0m13]], false⟩
def X_r3_Join_0_exit0 (a0n : Nat) (a0a : Nat → Int) (a0b : Nat → Int) (a0c : Nat → Int) (a0d : Nat → Int) (o0 : Int) (o1 : Int) (o2 : Int) (o3 : Int) (o4 : Int) : VS := ⟨slotsN 58 0 [(0, AV.rs none a0n [CF.I .i64 a0a, CF.I .i64 a0b, CF.I .i64 a0c, CF.I .i64 a0d]), (2, AV.ptr false 0 0 0), (3, AV.ptr false 1 0 0), (4, AV.int .i64 o0)], [.one true 23 [AV.int .i64 0, AV.int .i64 0, AV.int .i64 0, AV.int .i64 0], .one true 23 [AV.int .i64 o1, AV.int .i64 o2, AV.int .i64 o3, AV.int .i64 o4]], false⟩
def X_r3_Join_0_ret (a0n : Nat) (a0a : Nat → Int) (a0b : Nat → Int) (a0c : Nat → Int) (a0d : Nat → Int) (o0 : Int) (o1 : Int) (o2 : Int) (o3 : Int) (o4 : Int) : VS := ⟨slotsN 58 0 [(0, AV.rs none a0n [CF.I .i64 a0a, CF.I .i64 a0b, CF.I .i64 a0c, CF.I .i64 a0d]), (2, AV.ptr false 0 0 0), (3, AV.ptr false 1 0 0), (4, AV.int .i64 o0)], [.one true 23 [AV.int .i64 0, AV.int .i64 0, AV.int .i64 0, AV.int .i64 0], .one true 23 [AV.int .i64 o1, AV.int .i64 o2, AV.int .i64 o3, AV.int .i64 o4]], false⟩
theorem N_r3_Join_0 (a0n : Nat) (a0a : Nat → Int) (a0b : Nat → Int) (a0c : Nat → Int) (a0d : Nat → Int) (v0t4 : Int) (v0m10 : Int) (v0m11 : Int) (v0m12 : Int) (v0m13 : Int) (Q : Exit → VS → Prop) : vwp tab (envL G_r3_Join) (fun _ _ _ => False) 0 (lbody (loopAt (bodyOf Try.f17) 0)) (S_r3_Join_0 a0n a0a a0b a0c a0d v0t4 v0m10 v0m11 v0m12 v0m13) (QM [0, 2, 3, 4] [0, 1] 2 Q) = B_r3_Join_0 a0n a0a a0b a0c a0d v0t4 v0m10 v0m11 v0m12 v0m13 (fun w0 w1 w2 w3 w4 => Q .normal (S_r3_Join_0 a0n a0a a0b a0c a0d w0 w1 w2 w3 w4)) (fun o0 o1 o2 o3 o4 => Q (.exit 0) (X_r3_Join_0_exit0 a0n a0a a0b a0c a0d o0 o1 o2 o3 o4)) (fun o0 o1 o2 o3 o4 => Q .ret (X_r3_Join_0_ret a0n a0a a0b a0c a0d o0 o1 o2 o3 o4))  := by kernel_rfl
theorem L_r3_Join_0 {X : Cx} (hX : Std Try.prog tab (envL G_r3_Join) X) (b : Code) (hb : b = bodyOf Try.f17) (a0n : Nat) (a0a : Nat → Int) (a0b : Nat → Int) (a0c : Nat → Int) (a0d : Nat → Int) (fu : Nat) (v0t4 : Int) (v0m10 : Int) (v0m11 : Int) (v0m12 : Int) (v0m13 : Int) (Q : Exit → VS → Prop) (h : W_r3_Join_0 a0n a0a a0b a0c a0d fu v0t4 v0m10 v0m11 v0m12 v0m13 (fun o0 o1 o2 o3 o4 => Q (.exit 0) (X_r3_Join_0_exit0 a0n a0a a0b a0c a0d o0 o1 o2 o3 o4)) (fun o0 o1 o2 o3 o4 => Q .ret (X_r3_Join_0_ret a0n a0a a0b a0c a0d o0 o1 o2 o3 o4))) : TrK X b 0 (S_r3_Join_0 a0n a0a a0b a0c a0d v0t4 v0m10 v0m11 v0m12 v0m13) Q := by
  subst hb
  refine loop_ok (V := Int × Int × Int × Int × Int) (fun v => S_r3_Join_0 a0n a0a a0b a0c a0d v.1 v.2.1 v.2.2.1 v.2.2.2.1 v.2.2.2.2) (fun f v => W_r3_Join_0 a0n a0a a0b a0c a0d f v.1 v.2.1 v.2.2.1 v.2.2.2.1 v.2.2.2.2 (fun o0 o1 o2 o3 o4 => Q (.exit 0) (X_r3_Join_0_exit0 a0n a0a a0b a0c a0d o0 o1 o2 o3 o4)) (fun o0 o1 o2 o3 o4 => Q .ret (X_r3_Join_0_ret a0n a0a a0b a0c a0d o0 o1 o2 o3 o4))) (fun _ h => h) (by kernel_rfl) (fun f v hv => ?_) (fuel := fu) (v0 := (v0t4, v0m10, v0m11, v0m12, v0m13)) h
  refine QM_ok (bs := [0, 2, 3, 4]) (ms := [0, 1]) (nm := 2) ?_
  refine vwp_std hX rfl (tr := (fun _ _ _ => False)) (fun _ _ _ h => h.elim) ?_
  refine Eq.mpr (N_r3_Join_0 a0n a0a a0b a0c a0d v.1 v.2.1 v.2.2.1 v.2.2.2.1 v.2.2.2.2 _) ?_
  exact BM_r3_Join_0 a0n a0a a0b a0c a0d v.1 v.2.1 v.2.2.1 v.2.2.2.1 v.2.2.2.2 (fun w0 w1 w2 w3 w4 h => ⟨(w0, w1, w2, w3, w4), rfl, h⟩) (fun _ _ _ _ _ h => h) (fun _ _ _ _ _ h => h) hv
def T_r3_Join (a0n : Nat) (a0a : Nat → Int) (a0b : Nat → Int) (a0c : Nat → Int) (a0d : Nat → Int) (k : Nat) (st : VS) (Q : Exit → VS → Prop) : Prop := match k with
  | 0 => TL [0, 2, 3, 4] [0, 1] 2 (convs st []) (fun st => S_r3_Join_0 a0n a0a a0b a0c a0d (intOf (tAt st 4)) (intOf (mAt st 1 0)) (intOf (mAt st 1 1)) (intOf (mAt st 1 2)) (intOf (mAt st 1 3))) (fun st => W_r3_Join_0 a0n a0a a0b a0c a0d fuel (intOf (tAt st 4)) (intOf (mAt st 1 0)) (intOf (mAt st 1 1)) (intOf (mAt st 1 2)) (intOf (mAt st 1 3)) (fun o0 o1 o2 o3 o4 => Q (.exit 0) (X_r3_Join_0_exit0 a0n a0a a0b a0c a0d o0 o1 o2 o3 o4)) (fun o0 o1 o2 o3 o4 => Q .ret (X_r3_Join_0_ret a0n a0a a0b a0c a0d o0 o1 o2 o3 o4)))
  | _ => False
theorem TS_r3_Join {X : Cx} (hX : Std Try.prog tab (envL G_r3_Join) X) (b : Code) (hb : b = bodyOf Try.f17) (a0n : Nat) (a0a : Nat → Int) (a0b : Nat → Int) (a0c : Nat → Int) (a0d : Nat → Int) (j : Nat) (st : VS) (Q : Exit → VS → Prop) (h : T_r3_Join a0n a0a a0b a0c a0d j st Q) : TrK X b j st Q := by
  unfold T_r3_Join at h
  split at h
  · exact TL_ok h (fun h' => L_r3_Join_0 hX b hb a0n a0a a0b a0c a0d _ _ _ _ _ _ Q h')
  · exact h.elim
def as_r3_Join (a0n : Nat) (a0a : Nat → Int) (a0b : Nat → Int) (a0c : Nat → Int) (a0d : Nat → Int) : List AV := [AV.rs none a0n [CF.I .i64 a0a, CF.I .i64 a0b, CF.I .i64 a0c, CF.I .i64 a0d]]
theorem N_r3_Join (a0n : Nat) (a0a : Nat → Int) (a0b : Nat → Int) (a0c : Nat → Int) (a0d : Nat → Int) (K : AV → Prop) : vwp tab (envL G_r3_Join) (T_r3_Join a0n a0a a0b a0c a0d) 0 (bodyOf Try.f17) (entry (as_r3_Join a0n a0a a0b a0c a0d) 58) (fnPost tab [.cell 2 23] fun v s => K (v.frz s.mem)) = B_r3_Join a0n a0a a0b a0c a0d (fun r0 r1 r2 r3 => K (AV.agg [AV.int .i64 r0, AV.int .i64 r1, AV.int .i64 r2, AV.int .i64 r3])) (fun p0 p1 p2 p3 p4 y0 y1 => S_r3_Join_0 a0n a0a a0b a0c a0d p0 p1 p2 p3 p4 = S_r3_Join_0 a0n a0a a0b a0c a0d p0 p1 p2 p3 p4 ∧ W_r3_Join_0 a0n a0a a0b a0c a0d fuel p0 p1 p2 p3 p4 y0 y1) := by kernel_rfl
theorem BL_r3_Join (a0n : Nat) (a0a : Nat → Int) (a0b : Nat → Int) (a0c : Nat → Int) (a0d : Nat → Int) {K0 : Int → Int → Int → Int → Prop} : B_r3_Join a0n a0a a0b a0c a0d K0 (W_r3_Join_0 a0n a0a a0b a0c a0d fuel) → B_r3_Join a0n a0a a0b a0c a0d K0 (fun p0 p1 p2 p3 p4 y0 y1 => S_r3_Join_0 a0n a0a a0b a0c a0d p0 p1 p2 p3 p4 = S_r3_Join_0 a0n a0a a0b a0c a0d p0 p1 p2 p3 p4 ∧ W_r3_Join_0 a0n a0a a0b a0c a0d fuel p0 p1 p2 p3 p4 y0 y1) := by
  unfold B_r3_Join
  repeat' first
    | exact id
    | refine Ts_imp ?_
    | refine cond_imp ?_ ?_
    | refine and_imp' ?_
    | refine fun h => ⟨rfl, WM_r3_Join_0 _ _ _ _ _  (fun _ _ _ _ _ => ?_) (fun _ _ _ _ _ => ?_) _ _ _ _ _ _  h⟩
def g_r3_Join : List AV → Option (Prop × RT)
  | [AV.rs sq0 sn0 sc0] => cond (kindsOK [KC.I .i64, KC.I .i64, KC.I .i64, KC.I .i64] sc0) (some (P_r3_Join (nOf sn0 sc0) (colI sc0 0) (colI sc0 1) (colI sc0 2) (colI sc0 3), RT.leaf (AV.agg [AV.int .i64 (F_r3_Join_0 (nOf sn0 sc0) (colI sc0 0) (colI sc0 1) (colI sc0 2) (colI sc0 3)), AV.int .i64 (F_r3_Join_1 (nOf sn0 sc0) (colI sc0 0) (colI sc0 1) (colI sc0 2) (colI sc0 3)), AV.int .i64 (F_r3_Join_2 (nOf sn0 sc0) (colI sc0 0) (colI sc0 1) (colI sc0 2) (colI sc0 3)), AV.int .i64 (F_r3_Join_3 (nOf sn0 sc0) (colI sc0 0) (colI sc0 1) (colI sc0 2) (colI sc0 3))]))) none
  | _ => none
theorem S_r3_Join : SpecOK Try.prog 17 (.pure g_r3_Join) := by
  intro xs p r h hp E w vs hr hv
  unfold g_r3_Join at h
  split at h
  · rename_i sq0 sn0 sc0
    have hk0 : kindsOK [KC.I .i64, KC.I .i64, KC.I .i64, KC.I .i64] sc0 = true := by
      cases hh : kindsOK [KC.I .i64, KC.I .i64, KC.I .i64, KC.I .i64] sc0 with
      | true => rfl
      | false => rw [hh] at h; cases h
    rw [hk0, cond_true] at h
    simp only [Option.some.injEq, Prod.mk.injEq] at h
    obtain ⟨rfl, rfl⟩ := h
    have hG : SpecsOK Try.prog G_r3_Join := ⟨S_r3_CheckBox, trivial⟩
    have hv' : VRs E.bare (as_r3_Join (nOf sn0 sc0) (colI sc0 0) (colI sc0 1) (colI sc0 2) (colI sc0 3)) vs := (AV.les.cons (AV.le.rs hk0) AV.les.nil) _ _ hv
    refine walk_pure' (f := 17) (fn := Try.f17) (c := bodyOf Try.f17) (rs := [.cell 2 23]) (ys := as_r3_Join (nOf sn0 sc0) (colI sc0 0) (colI sc0 1) (colI sc0 2) (colI sc0 3)) tab_ok (envL_ok hG) Try.func17 rfl (by kernel_rfl) rfl (by decide) (fun X hX => ?_) E w vs hr hv'
    rw [Try.ntmps17]
    refine vwp_std hX rfl (tr := T_r3_Join (nOf sn0 sc0) (colI sc0 0) (colI sc0 1) (colI sc0 2) (colI sc0 3)) (fun j st Q h => TS_r3_Join hX _ rfl (nOf sn0 sc0) (colI sc0 0) (colI sc0 1) (colI sc0 2) (colI sc0 3) j st Q h) ?_
    refine Eq.mpr (N_r3_Join (nOf sn0 sc0) (colI sc0 0) (colI sc0 1) (colI sc0 2) (colI sc0 3) (fun x => x = _)) ?_
    exact BL_r3_Join (nOf sn0 sc0) (colI sc0 0) (colI sc0 1) (colI sc0 2) (colI sc0 3) (H_r3_Join (nOf sn0 sc0) (colI sc0 0) (colI sc0 1) (colI sc0 2) (colI sc0 3) hp rfl)
  · cases h
/-! ### bagatelle/bagatelleref03.Grow -/
def G_r3_Grow : List (Nat × Ag.Spec) := [(11, .pure g_r3_CheckBox)]
def as_r3_Grow (a0a : Int) (a0b : Int) (a0c : Int) (a0d : Int) (a1 : Int) : List AV := [AV.agg [AV.int .i64 a0a, AV.int .i64 a0b, AV.int .i64 a0c, AV.int .i64 a0d], AV.int .i64 a1]
theorem N_r3_Grow (a0a : Int) (a0b : Int) (a0c : Int) (a0d : Int) (a1 : Int) (K : AV → Prop) : vwp tab (envL G_r3_Grow) (fun _ _ _ => False) 0 (bodyOf Try.f19) (entry (as_r3_Grow a0a a0b a0c a0d a1) 36) (fnPost tab [.cell 4 23] fun v s => K (v.frz s.mem)) = B_r3_Grow a0a a0b a0c a0d a1 (fun r0 r1 r2 r3 => K (AV.agg [AV.int .i64 r0, AV.int .i64 r1, AV.int .i64 r2, AV.int .i64 r3]))  := by kernel_rfl
def g_r3_Grow : List AV → Option (Prop × RT)
  | [AV.agg [AV.int .i64 a0a, AV.int .i64 a0b, AV.int .i64 a0c, AV.int .i64 a0d], AV.int .i64 a1] => some (P_r3_Grow a0a a0b a0c a0d a1, RT.leaf (AV.agg [AV.int .i64 (F_r3_Grow_0 a0a a0b a0c a0d a1), AV.int .i64 (F_r3_Grow_1 a0a a0b a0c a0d a1), AV.int .i64 (F_r3_Grow_2 a0a a0b a0c a0d a1), AV.int .i64 (F_r3_Grow_3 a0a a0b a0c a0d a1)]))
  | _ => none
theorem S_r3_Grow : SpecOK Try.prog 19 (.pure g_r3_Grow) := by
  intro xs p r h hp E w vs hr hv
  unfold g_r3_Grow at h
  split at h
  · rename_i a0a a0b a0c a0d a1
    simp only [Option.some.injEq, Prod.mk.injEq] at h
    obtain ⟨rfl, rfl⟩ := h
    have hG : SpecsOK Try.prog G_r3_Grow := ⟨S_r3_CheckBox, trivial⟩
    refine walk_pure' (f := 19) (fn := Try.f19) (c := bodyOf Try.f19) (rs := [.cell 4 23]) (ys := as_r3_Grow a0a a0b a0c a0d a1) tab_ok (envL_ok hG) Try.func19 rfl (by kernel_rfl) rfl (by decide) (fun X hX => ?_) E w vs hr hv
    rw [Try.ntmps19]
    refine vwp_std hX rfl (tr := fun _ _ _ => False) (fun _ _ _ h => h.elim) ?_
    refine Eq.mpr (N_r3_Grow a0a a0b a0c a0d a1 (fun x => x = _)) ?_
    exact H_r3_Grow a0a a0b a0c a0d a1 hp rfl
  · cases h
/-! ### bagatelle/bagatellelaw03.SolidBoxes -/
def G_lw_SolidBoxes : List (Nat × Ag.Spec) := [(9, .pure g_lw_awake), (10, .pure g_sd_CheckBox), (11, .pure g_r3_CheckBox), (12, .pure g_sd_Meets), (13, .pure g_r3_Meets), (14, .pure g_sd_Within), (15, .pure g_r3_Within), (16, .pure g_sd_Join), (17, .pure g_r3_Join), (18, .pure g_sd_Grow), (19, .pure g_r3_Grow)]
/-! loop lw_SolidBoxes_0 -/
def S_lw_SolidBoxes_0 (a0a : Int) (a0b : Int) (a0c : Int) (a0d : Int) (a1a : Int) (a1b : Int) (a1c : Int) (a1d : Int) (a2a : Int) (a2b : Int) (a3 : Int) (a4n : Nat) (a4a : Nat → Int) (a4b : Nat → Int) (a4c : Nat → Int) (a4d : Nat → Int) (v0t11q : Bool) (v0t12 : Int) (v0b3n : Nat) (v0b3c0 : (Nat → Int)) (v0b3c1 : (Nat → Int)) (v0b3c2 : (Nat → Int)) (v0b3c3 : (Nat → Int)) : VS := ⟨slotsN 86 0 [(3, AV.int .i64 a3), (4, AV.rs none a4n [CF.I .i64 a4a, CF.I .i64 a4b, CF.I .i64 a4c, CF.I .i64 a4d]), (5, AV.ptr false 0 0 0), (6, AV.ptr false 1 0 0), (7, AV.ptr false 2 0 0), (10, AV.bool false), (11, AV.sl (some v0t11q) 3 v0b3n 4), (12, AV.int .i64 v0t12)], [.one true 23 [AV.int .i64 a0a, AV.int .i64 a0b, AV.int .i64 a0c, AV.int .i64 a0d], .one true 23 [AV.int .i64 a1a, AV.int .i64 a1b, AV.int .i64 a1c, AV.int .i64 a1d], .one true 25 [AV.int .i64 a2a, AV.int .i64 a2b], .many true 23 v0b3n [CF.I .i64 v0b3c0, CF.I .i64 v0b3c1, CF.I .i64 v0b3c2, CF.I .i64 v0b3c3]], false⟩
def X_lw_SolidBoxes_0_exit0 (a0a : Int) (a0b : Int) (a0c : Int) (a0d : Int) (a1a : Int) (a1b : Int) (a1c : Int) (a1d : Int) (a2a : Int) (a2b : Int) (a3 : Int) (a4n : Nat) (a4a : Nat → Int) (a4b : Nat → Int) (a4c : Nat → Int) (a4d : Nat → Int) (o0 : Bool) (o1 : Int) (o2 : Nat) (o3 : (Nat → Int)) (o4 : (Nat → Int)) (o5 : (Nat → Int)) (o6 : (Nat → Int)) : VS := ⟨slotsN 86 0 [(3, AV.int .i64 a3), (4, AV.rs none a4n [CF.I .i64 a4a, CF.I .i64 a4b, CF.I .i64 a4c, CF.I .i64 a4d]), (5, AV.ptr false 0 0 0), (6, AV.ptr false 1 0 0), (7, AV.ptr false 2 0 0), (10, AV.bool false), (11, AV.sl (some o0) 3 o2 4), (12, AV.int .i64 o1)], [.one true 23 [AV.int .i64 a0a, AV.int .i64 a0b, AV.int .i64 a0c, AV.int .i64 a0d], .one true 23 [AV.int .i64 a1a, AV.int .i64 a1b, AV.int .i64 a1c, AV.int .i64 a1d], .one true 25 [AV.int .i64 a2a, AV.int .i64 a2b], .many true 23 o2 [CF.I .i64 o3, CF.I .i64 o4, CF.I .i64 o5, CF.I .i64 o6]], false⟩
theorem N_lw_SolidBoxes_0 (a0a : Int) (a0b : Int) (a0c : Int) (a0d : Int) (a1a : Int) (a1b : Int) (a1c : Int) (a1d : Int) (a2a : Int) (a2b : Int) (a3 : Int) (a4n : Nat) (a4a : Nat → Int) (a4b : Nat → Int) (a4c : Nat → Int) (a4d : Nat → Int) (v0t11q : Bool) (v0t12 : Int) (v0b3n : Nat) (v0b3c0 : (Nat → Int)) (v0b3c1 : (Nat → Int)) (v0b3c2 : (Nat → Int)) (v0b3c3 : (Nat → Int)) (Q : Exit → VS → Prop) : vwp tab (envL G_lw_SolidBoxes) (fun _ _ _ => False) 0 (lbody (loopAt (bodyOf Try.f3) 0)) (S_lw_SolidBoxes_0 a0a a0b a0c a0d a1a a1b a1c a1d a2a a2b a3 a4n a4a a4b a4c a4d v0t11q v0t12 v0b3n v0b3c0 v0b3c1 v0b3c2 v0b3c3) (QM [3, 4, 5, 6, 7, 10, 11, 12] [0, 1, 2, 3] 4 Q) = B_lw_SolidBoxes_0 a0a a0b a0c a0d a1a a1b a1c a1d a2a a2b a3 a4n a4a a4b a4c a4d v0t11q v0t12 v0b3n v0b3c0 v0b3c1 v0b3c2 v0b3c3 (fun w0 w1 w2 w3 w4 w5 w6 => Q .normal (S_lw_SolidBoxes_0 a0a a0b a0c a0d a1a a1b a1c a1d a2a a2b a3 a4n a4a a4b a4c a4d w0 w1 w2 w3 w4 w5 w6)) (fun o0 o1 o2 o3 o4 o5 o6 => Q (.exit 0) (X_lw_SolidBoxes_0_exit0 a0a a0b a0c a0d a1a a1b a1c a1d a2a a2b a3 a4n a4a a4b a4c a4d o0 o1 o2 o3 o4 o5 o6))  := by kernel_rfl
theorem L_lw_SolidBoxes_0 {X : Cx} (hX : Std Try.prog tab (envL G_lw_SolidBoxes) X) (b : Code) (hb : b = bodyOf Try.f3) (a0a : Int) (a0b : Int) (a0c : Int) (a0d : Int) (a1a : Int) (a1b : Int) (a1c : Int) (a1d : Int) (a2a : Int) (a2b : Int) (a3 : Int) (a4n : Nat) (a4a : Nat → Int) (a4b : Nat → Int) (a4c : Nat → Int) (a4d : Nat → Int) (fu : Nat) (v0t11q : Bool) (v0t12 : Int) (v0b3n : Nat) (v0b3c0 : (Nat → Int)) (v0b3c1 : (Nat → Int)) (v0b3c2 : (Nat → Int)) (v0b3c3 : (Nat → Int)) (Q : Exit → VS → Prop) (h : W_lw_SolidBoxes_0 a0a a0b a0c a0d a1a a1b a1c a1d a2a a2b a3 a4n a4a a4b a4c a4d fu v0t11q v0t12 v0b3n v0b3c0 v0b3c1 v0b3c2 v0b3c3 (fun o0 o1 o2 o3 o4 o5 o6 => Q (.exit 0) (X_lw_SolidBoxes_0_exit0 a0a a0b a0c a0d a1a a1b a1c a1d a2a a2b a3 a4n a4a a4b a4c a4d o0 o1 o2 o3 o4 o5 o6))) : TrK X b 0 (S_lw_SolidBoxes_0 a0a a0b a0c a0d a1a a1b a1c a1d a2a a2b a3 a4n a4a a4b a4c a4d v0t11q v0t12 v0b3n v0b3c0 v0b3c1 v0b3c2 v0b3c3) Q := by
  subst hb
  refine loop_ok (V := Bool × Int × Nat × (Nat → Int) × (Nat → Int) × (Nat → Int) × (Nat → Int)) (fun v => S_lw_SolidBoxes_0 a0a a0b a0c a0d a1a a1b a1c a1d a2a a2b a3 a4n a4a a4b a4c a4d v.1 v.2.1 v.2.2.1 v.2.2.2.1 v.2.2.2.2.1 v.2.2.2.2.2.1 v.2.2.2.2.2.2) (fun f v => W_lw_SolidBoxes_0 a0a a0b a0c a0d a1a a1b a1c a1d a2a a2b a3 a4n a4a a4b a4c a4d f v.1 v.2.1 v.2.2.1 v.2.2.2.1 v.2.2.2.2.1 v.2.2.2.2.2.1 v.2.2.2.2.2.2 (fun o0 o1 o2 o3 o4 o5 o6 => Q (.exit 0) (X_lw_SolidBoxes_0_exit0 a0a a0b a0c a0d a1a a1b a1c a1d a2a a2b a3 a4n a4a a4b a4c a4d o0 o1 o2 o3 o4 o5 o6))) (fun _ h => h) (by kernel_rfl) (fun f v hv => ?_) (fuel := fu) (v0 := (v0t11q, v0t12, v0b3n, v0b3c0, v0b3c1, v0b3c2, v0b3c3)) h
  refine QM_ok (bs := [3, 4, 5, 6, 7, 10, 11, 12]) (ms := [0, 1, 2, 3]) (nm := 4) ?_
  refine vwp_std hX rfl (tr := (fun _ _ _ => False)) (fun _ _ _ h => h.elim) ?_
  refine Eq.mpr (N_lw_SolidBoxes_0 a0a a0b a0c a0d a1a a1b a1c a1d a2a a2b a3 a4n a4a a4b a4c a4d v.1 v.2.1 v.2.2.1 v.2.2.2.1 v.2.2.2.2.1 v.2.2.2.2.2.1 v.2.2.2.2.2.2 _) ?_
  exact BM_lw_SolidBoxes_0 a0a a0b a0c a0d a1a a1b a1c a1d a2a a2b a3 a4n a4a a4b a4c a4d v.1 v.2.1 v.2.2.1 v.2.2.2.1 v.2.2.2.2.1 v.2.2.2.2.2.1 v.2.2.2.2.2.2 (fun w0 w1 w2 w3 w4 w5 w6 h => ⟨(w0, w1, w2, w3, w4, w5, w6), rfl, h⟩) (fun _ _ _ _ _ _ _ h => h) hv
/-! loop lw_SolidBoxes_1 -/
def S_lw_SolidBoxes_1 (a0a : Int) (a0b : Int) (a0c : Int) (a0d : Int) (a1a : Int) (a1b : Int) (a1c : Int) (a1d : Int) (a2a : Int) (a2b : Int) (a3 : Int) (a4n : Nat) (a4a : Nat → Int) (a4b : Nat → Int) (a4c : Nat → Int) (a4d : Nat → Int) (v1t11n : Nat) (v1t11q : Bool) (v1t11c0 : (Nat → Int)) (v1t11c1 : (Nat → Int)) (v1t11c2 : (Nat → Int)) (v1t11c3 : (Nat → Int)) (v1t13 : Int) : VS := ⟨slotsN 86 0 [(4, AV.rs none a4n [CF.I .i64 a4a, CF.I .i64 a4b, CF.I .i64 a4c, CF.I .i64 a4d]), (10, AV.bool false), (11, AV.rs (some v1t11q) v1t11n [CF.I .i64 v1t11c0, CF.I .i64 v1t11c1, CF.I .i64 v1t11c2, CF.I .i64 v1t11c3]), (13, AV.int .i64 v1t13)], [.gone, .gone, .gone, .gone], false⟩
def X_lw_SolidBoxes_1_exit2 (a0a : Int) (a0b : Int) (a0c : Int) (a0d : Int) (a1a : Int) (a1b : Int) (a1c : Int) (a1d : Int) (a2a : Int) (a2b : Int) (a3 : Int) (a4n : Nat) (a4a : Nat → Int) (a4b : Nat → Int) (a4c : Nat → Int) (a4d : Nat → Int) (o0 : Nat) (o1 : Bool) (o2 : (Nat → Int)) (o3 : (Nat → Int)) (o4 : (Nat → Int)) (o5 : (Nat → Int)) (o6 : Int) : VS := ⟨slotsN 86 0 [(4, AV.rs none a4n [CF.I .i64 a4a, CF.I .i64 a4b, CF.I .i64 a4c, CF.I .i64 a4d]), (10, AV.bool false), (11, AV.rs (some o1) o0 [CF.I .i64 o2, CF.I .i64 o3, CF.I .i64 o4, CF.I .i64 o5]), (13, AV.int .i64 o6)], [.gone, .gone, .gone, .gone], false⟩
def X_lw_SolidBoxes_1_ret (a0a : Int) (a0b : Int) (a0c : Int) (a0d : Int) (a1a : Int) (a1b : Int) (a1c : Int) (a1d : Int) (a2a : Int) (a2b : Int) (a3 : Int) (a4n : Nat) (a4a : Nat → Int) (a4b : Nat → Int) (a4c : Nat → Int) (a4d : Nat → Int) (o0 : Nat) (o1 : Bool) (o2 : (Nat → Int)) (o3 : (Nat → Int)) (o4 : (Nat → Int)) (o5 : (Nat → Int)) (o6 : Int) : VS := ⟨slotsN 86 0 [(4, AV.rs none a4n [CF.I .i64 a4a, CF.I .i64 a4b, CF.I .i64 a4c, CF.I .i64 a4d]), (10, AV.bool false), (11, AV.rs (some o1) o0 [CF.I .i64 o2, CF.I .i64 o3, CF.I .i64 o4, CF.I .i64 o5]), (13, AV.int .i64 o6)], [.gone, .gone, .gone, .gone], false⟩
theorem N_lw_SolidBoxes_1 (a0a : Int) (a0b : Int) (a0c : Int) (a0d : Int) (a1a : Int) (a1b : Int) (a1c : Int) (a1d : Int) (a2a : Int) (a2b : Int) (a3 : Int) (a4n : Nat) (a4a : Nat → Int) (a4b : Nat → Int) (a4c : Nat → Int) (a4d : Nat → Int) (v1t11n : Nat) (v1t11q : Bool) (v1t11c0 : (Nat → Int)) (v1t11c1 : (Nat → Int)) (v1t11c2 : (Nat → Int)) (v1t11c3 : (Nat → Int)) (v1t13 : Int) (Q : Exit → VS → Prop) : vwp tab (envL G_lw_SolidBoxes) (fun _ _ _ => False) 0 (lbody (loopAt (bodyOf Try.f3) 1)) (S_lw_SolidBoxes_1 a0a a0b a0c a0d a1a a1b a1c a1d a2a a2b a3 a4n a4a a4b a4c a4d v1t11n v1t11q v1t11c0 v1t11c1 v1t11c2 v1t11c3 v1t13) (QM [4, 10, 11, 13] [] 4 Q) = B_lw_SolidBoxes_1 a0a a0b a0c a0d a1a a1b a1c a1d a2a a2b a3 a4n a4a a4b a4c a4d v1t11n v1t11q v1t11c0 v1t11c1 v1t11c2 v1t11c3 v1t13 (fun w0 w1 w2 w3 w4 w5 w6 => Q .normal (S_lw_SolidBoxes_1 a0a a0b a0c a0d a1a a1b a1c a1d a2a a2b a3 a4n a4a a4b a4c a4d w0 w1 w2 w3 w4 w5 w6)) (fun o0 o1 o2 o3 o4 o5 o6 => Q (.exit 2) (X_lw_SolidBoxes_1_exit2 a0a a0b a0c a0d a1a a1b a1c a1d a2a a2b a3 a4n a4a a4b a4c a4d o0 o1 o2 o3 o4 o5 o6)) (fun o0 o1 o2 o3 o4 o5 o6 => Q .ret (X_lw_SolidBoxes_1_ret a0a a0b a0c a0d a1a a1b a1c a1d a2a a2b a3 a4n a4a a4b a4c a4d o0 o1 o2 o3 o4 o5 o6))  := by kernel_rfl
theorem L_lw_SolidBoxes_1 {X : Cx} (hX : Std Try.prog tab (envL G_lw_SolidBoxes) X) (b : Code) (hb : b = bodyOf Try.f3) (a0a : Int) (a0b : Int) (a0c : Int) (a0d : Int) (a1a : Int) (a1b : Int) (a1c : Int) (a1d : Int) (a2a : Int) (a2b : Int) (a3 : Int) (a4n : Nat) (a4a : Nat → Int) (a4b : Nat → Int) (a4c : Nat → Int) (a4d : Nat → Int) (fu : Nat) (v1t11n : Nat) (v1t11q : Bool) (v1t11c0 : (Nat → Int)) (v1t11c1 : (Nat → Int)) (v1t11c2 : (Nat → Int)) (v1t11c3 : (Nat → Int)) (v1t13 : Int) (Q : Exit → VS → Prop) (h : W_lw_SolidBoxes_1 a0a a0b a0c a0d a1a a1b a1c a1d a2a a2b a3 a4n a4a a4b a4c a4d fu v1t11n v1t11q v1t11c0 v1t11c1 v1t11c2 v1t11c3 v1t13 (fun o0 o1 o2 o3 o4 o5 o6 => Q (.exit 2) (X_lw_SolidBoxes_1_exit2 a0a a0b a0c a0d a1a a1b a1c a1d a2a a2b a3 a4n a4a a4b a4c a4d o0 o1 o2 o3 o4 o5 o6)) (fun o0 o1 o2 o3 o4 o5 o6 => Q .ret (X_lw_SolidBoxes_1_ret a0a a0b a0c a0d a1a a1b a1c a1d a2a a2b a3 a4n a4a a4b a4c a4d o0 o1 o2 o3 o4 o5 o6))) : TrK X b 1 (S_lw_SolidBoxes_1 a0a a0b a0c a0d a1a a1b a1c a1d a2a a2b a3 a4n a4a a4b a4c a4d v1t11n v1t11q v1t11c0 v1t11c1 v1t11c2 v1t11c3 v1t13) Q := by
  subst hb
  refine loop_ok (V := Nat × Bool × (Nat → Int) × (Nat → Int) × (Nat → Int) × (Nat → Int) × Int) (fun v => S_lw_SolidBoxes_1 a0a a0b a0c a0d a1a a1b a1c a1d a2a a2b a3 a4n a4a a4b a4c a4d v.1 v.2.1 v.2.2.1 v.2.2.2.1 v.2.2.2.2.1 v.2.2.2.2.2.1 v.2.2.2.2.2.2) (fun f v => W_lw_SolidBoxes_1 a0a a0b a0c a0d a1a a1b a1c a1d a2a a2b a3 a4n a4a a4b a4c a4d f v.1 v.2.1 v.2.2.1 v.2.2.2.1 v.2.2.2.2.1 v.2.2.2.2.2.1 v.2.2.2.2.2.2 (fun o0 o1 o2 o3 o4 o5 o6 => Q (.exit 2) (X_lw_SolidBoxes_1_exit2 a0a a0b a0c a0d a1a a1b a1c a1d a2a a2b a3 a4n a4a a4b a4c a4d o0 o1 o2 o3 o4 o5 o6)) (fun o0 o1 o2 o3 o4 o5 o6 => Q .ret (X_lw_SolidBoxes_1_ret a0a a0b a0c a0d a1a a1b a1c a1d a2a a2b a3 a4n a4a a4b a4c a4d o0 o1 o2 o3 o4 o5 o6))) (fun _ h => h) (by kernel_rfl) (fun f v hv => ?_) (fuel := fu) (v0 := (v1t11n, v1t11q, v1t11c0, v1t11c1, v1t11c2, v1t11c3, v1t13)) h
  refine QM_ok (bs := [4, 10, 11, 13]) (ms := []) (nm := 4) ?_
  refine vwp_std hX rfl (tr := (fun _ _ _ => False)) (fun _ _ _ h => h.elim) ?_
  refine Eq.mpr (N_lw_SolidBoxes_1 a0a a0b a0c a0d a1a a1b a1c a1d a2a a2b a3 a4n a4a a4b a4c a4d v.1 v.2.1 v.2.2.1 v.2.2.2.1 v.2.2.2.2.1 v.2.2.2.2.2.1 v.2.2.2.2.2.2 _) ?_
  exact BM_lw_SolidBoxes_1 a0a a0b a0c a0d a1a a1b a1c a1d a2a a2b a3 a4n a4a a4b a4c a4d v.1 v.2.1 v.2.2.1 v.2.2.2.1 v.2.2.2.2.1 v.2.2.2.2.2.1 v.2.2.2.2.2.2 (fun w0 w1 w2 w3 w4 w5 w6 h => ⟨(w0, w1, w2, w3, w4, w5, w6), rfl, h⟩) (fun _ _ _ _ _ _ _ h => h) (fun _ _ _ _ _ _ _ h => h) hv
def T_lw_SolidBoxes (a0a : Int) (a0b : Int) (a0c : Int) (a0d : Int) (a1a : Int) (a1b : Int) (a1c : Int) (a1d : Int) (a2a : Int) (a2b : Int) (a3 : Int) (a4n : Nat) (a4a : Nat → Int) (a4b : Nat → Int) (a4c : Nat → Int) (a4d : Nat → Int) (k : Nat) (st : VS) (Q : Exit → VS → Prop) : Prop := match k with
  | 0 => TL [3, 4, 5, 6, 7, 10, 11, 12] [0, 1, 2, 3] 4 (convs st [⟨.t 11, 23, [CF.I .i64 (fun _ => 0), CF.I .i64 (fun _ => 0), CF.I .i64 (fun _ => 0), CF.I .i64 (fun _ => 0)]⟩]) (fun st => S_lw_SolidBoxes_0 a0a a0b a0c a0d a1a a1b a1c a1d a2a a2b a3 a4n a4a a4b a4c a4d (qAV (tAt st 11)) (intOf (tAt st 12)) (nAB (blkAt st 3)) (colI (cAB (blkAt st 3)) 0) (colI (cAB (blkAt st 3)) 1) (colI (cAB (blkAt st 3)) 2) (colI (cAB (blkAt st 3)) 3)) (fun st => W_lw_SolidBoxes_0 a0a a0b a0c a0d a1a a1b a1c a1d a2a a2b a3 a4n a4a a4b a4c a4d fuel (qAV (tAt st 11)) (intOf (tAt st 12)) (nAB (blkAt st 3)) (colI (cAB (blkAt st 3)) 0) (colI (cAB (blkAt st 3)) 1) (colI (cAB (blkAt st 3)) 2) (colI (cAB (blkAt st 3)) 3) (fun o0 o1 o2 o3 o4 o5 o6 => Q (.exit 0) (X_lw_SolidBoxes_0_exit0 a0a a0b a0c a0d a1a a1b a1c a1d a2a a2b a3 a4n a4a a4b a4c a4d o0 o1 o2 o3 o4 o5 o6)))
  | 1 => TL [4, 10, 11, 13] [] 4 (convs st []) (fun st => S_lw_SolidBoxes_1 a0a a0b a0c a0d a1a a1b a1c a1d a2a a2b a3 a4n a4a a4b a4c a4d (nAV (tAt st 11)) (qAV (tAt st 11)) (colI (cAV (tAt st 11)) 0) (colI (cAV (tAt st 11)) 1) (colI (cAV (tAt st 11)) 2) (colI (cAV (tAt st 11)) 3) (intOf (tAt st 13))) (fun st => W_lw_SolidBoxes_1 a0a a0b a0c a0d a1a a1b a1c a1d a2a a2b a3 a4n a4a a4b a4c a4d fuel (nAV (tAt st 11)) (qAV (tAt st 11)) (colI (cAV (tAt st 11)) 0) (colI (cAV (tAt st 11)) 1) (colI (cAV (tAt st 11)) 2) (colI (cAV (tAt st 11)) 3) (intOf (tAt st 13)) (fun o0 o1 o2 o3 o4 o5 o6 => Q (.exit 2) (X_lw_SolidBoxes_1_exit2 a0a a0b a0c a0d a1a a1b a1c a1d a2a a2b a3 a4n a4a a4b a4c a4d o0 o1 o2 o3 o4 o5 o6)) (fun o0 o1 o2 o3 o4 o5 o6 => Q .ret (X_lw_SolidBoxes_1_ret a0a a0b a0c a0d a1a a1b a1c a1d a2a a2b a3 a4n a4a a4b a4c a4d o0 o1 o2 o3 o4 o5 o6)))
  | _ => False
theorem TS_lw_SolidBoxes {X : Cx} (hX : Std Try.prog tab (envL G_lw_SolidBoxes) X) (b : Code) (hb : b = bodyOf Try.f3) (a0a : Int) (a0b : Int) (a0c : Int) (a0d : Int) (a1a : Int) (a1b : Int) (a1c : Int) (a1d : Int) (a2a : Int) (a2b : Int) (a3 : Int) (a4n : Nat) (a4a : Nat → Int) (a4b : Nat → Int) (a4c : Nat → Int) (a4d : Nat → Int) (j : Nat) (st : VS) (Q : Exit → VS → Prop) (h : T_lw_SolidBoxes a0a a0b a0c a0d a1a a1b a1c a1d a2a a2b a3 a4n a4a a4b a4c a4d j st Q) : TrK X b j st Q := by
  unfold T_lw_SolidBoxes at h
  split at h
  · exact TL_ok h (fun h' => L_lw_SolidBoxes_0 hX b hb a0a a0b a0c a0d a1a a1b a1c a1d a2a a2b a3 a4n a4a a4b a4c a4d _ _ _ _ _ _ _ _ Q h')
  · exact TL_ok h (fun h' => L_lw_SolidBoxes_1 hX b hb a0a a0b a0c a0d a1a a1b a1c a1d a2a a2b a3 a4n a4a a4b a4c a4d _ _ _ _ _ _ _ _ Q h')
  · exact h.elim
def as_lw_SolidBoxes (a0a : Int) (a0b : Int) (a0c : Int) (a0d : Int) (a1a : Int) (a1b : Int) (a1c : Int) (a1d : Int) (a2a : Int) (a2b : Int) (a3 : Int) (a4n : Nat) (a4a : Nat → Int) (a4b : Nat → Int) (a4c : Nat → Int) (a4d : Nat → Int) : List AV := [AV.agg [AV.int .i64 a0a, AV.int .i64 a0b, AV.int .i64 a0c, AV.int .i64 a0d], AV.agg [AV.int .i64 a1a, AV.int .i64 a1b, AV.int .i64 a1c, AV.int .i64 a1d], AV.agg [AV.int .i64 a2a, AV.int .i64 a2b], AV.int .i64 a3, AV.rs none a4n [CF.I .i64 a4a, CF.I .i64 a4b, CF.I .i64 a4c, CF.I .i64 a4d]]
theorem N_lw_SolidBoxes (a0a : Int) (a0b : Int) (a0c : Int) (a0d : Int) (a1a : Int) (a1b : Int) (a1c : Int) (a1d : Int) (a2a : Int) (a2b : Int) (a3 : Int) (a4n : Nat) (a4a : Nat → Int) (a4b : Nat → Int) (a4c : Nat → Int) (a4d : Nat → Int) (K : AV → Prop) : vwp tab (envL G_lw_SolidBoxes) (T_lw_SolidBoxes a0a a0b a0c a0d a1a a1b a1c a1d a2a a2b a3 a4n a4a a4b a4c a4d) 0 (bodyOf Try.f3) (entry (as_lw_SolidBoxes a0a a0b a0c a0d a1a a1b a1c a1d a2a a2b a3 a4n a4a a4b a4c a4d) 86) (fnPost tab [.tmp 10] fun v s => K (v.frz s.mem)) = B_lw_SolidBoxes a0a a0b a0c a0d a1a a1b a1c a1d a2a a2b a3 a4n a4a a4b a4c a4d (fun r0 => K (AV.bool r0)) (fun p0 p1 p2 p3 p4 p5 p6 y0 => S_lw_SolidBoxes_0 a0a a0b a0c a0d a1a a1b a1c a1d a2a a2b a3 a4n a4a a4b a4c a4d p0 p1 p2 p3 p4 p5 p6 = S_lw_SolidBoxes_0 a0a a0b a0c a0d a1a a1b a1c a1d a2a a2b a3 a4n a4a a4b a4c a4d p0 p1 p2 p3 p4 p5 p6 ∧ W_lw_SolidBoxes_0 a0a a0b a0c a0d a1a a1b a1c a1d a2a a2b a3 a4n a4a a4b a4c a4d fuel p0 p1 p2 p3 p4 p5 p6 y0) (fun p0 p1 p2 p3 p4 p5 p6 y0 y1 => S_lw_SolidBoxes_1 a0a a0b a0c a0d a1a a1b a1c a1d a2a a2b a3 a4n a4a a4b a4c a4d p0 p1 p2 p3 p4 p5 p6 = S_lw_SolidBoxes_1 a0a a0b a0c a0d a1a a1b a1c a1d a2a a2b a3 a4n a4a a4b a4c a4d p0 p1 p2 p3 p4 p5 p6 ∧ W_lw_SolidBoxes_1 a0a a0b a0c a0d a1a a1b a1c a1d a2a a2b a3 a4n a4a a4b a4c a4d fuel p0 p1 p2 p3 p4 p5 p6 y0 y1) := by kernel_rfl
theorem BL_lw_SolidBoxes (a0a : Int) (a0b : Int) (a0c : Int) (a0d : Int) (a1a : Int) (a1b : Int) (a1c : Int) (a1d : Int) (a2a : Int) (a2b : Int) (a3 : Int) (a4n : Nat) (a4a : Nat → Int) (a4b : Nat → Int) (a4c : Nat → Int) (a4d : Nat → Int) {K0 : Bool → Prop} : B_lw_SolidBoxes a0a a0b a0c a0d a1a a1b a1c a1d a2a a2b a3 a4n a4a a4b a4c a4d K0 (W_lw_SolidBoxes_0 a0a a0b a0c a0d a1a a1b a1c a1d a2a a2b a3 a4n a4a a4b a4c a4d fuel) (W_lw_SolidBoxes_1 a0a a0b a0c a0d a1a a1b a1c a1d a2a a2b a3 a4n a4a a4b a4c a4d fuel) → B_lw_SolidBoxes a0a a0b a0c a0d a1a a1b a1c a1d a2a a2b a3 a4n a4a a4b a4c a4d K0 (fun p0 p1 p2 p3 p4 p5 p6 y0 => S_lw_SolidBoxes_0 a0a a0b a0c a0d a1a a1b a1c a1d a2a a2b a3 a4n a4a a4b a4c a4d p0 p1 p2 p3 p4 p5 p6 = S_lw_SolidBoxes_0 a0a a0b a0c a0d a1a a1b a1c a1d a2a a2b a3 a4n a4a a4b a4c a4d p0 p1 p2 p3 p4 p5 p6 ∧ W_lw_SolidBoxes_0 a0a a0b a0c a0d a1a a1b a1c a1d a2a a2b a3 a4n a4a a4b a4c a4d fuel p0 p1 p2 p3 p4 p5 p6 y0) (fun p0 p1 p2 p3 p4 p5 p6 y0 y1 => S_lw_SolidBoxes_1 a0a a0b a0c a0d a1a a1b a1c a1d a2a a2b a3 a4n a4a a4b a4c a4d p0 p1 p2 p3 p4 p5 p6 = S_lw_SolidBoxes_1 a0a a0b a0c a0d a1a a1b a1c a1d a2a a2b a3 a4n a4a a4b a4c a4d p0 p1 p2 p3 p4 p5 p6 ∧ W_lw_SolidBoxes_1 a0a a0b a0c a0d a1a a1b a1c a1d a2a a2b a3 a4n a4a a4b a4c a4d fuel p0 p1 p2 p3 p4 p5 p6 y0 y1) := by
  unfold B_lw_SolidBoxes
  repeat' first
    | exact id
    | refine Ts_imp ?_
    | refine cond_imp ?_ ?_
    | refine and_imp' ?_
    | refine fun h => ⟨rfl, WM_lw_SolidBoxes_0 _ _ _ _ _ _ _ _ _ _ _ _ _ _ _ _  (fun _ _ _ _ _ _ _ => ?_) _ _ _ _ _ _ _ _  h⟩
    | refine fun h => ⟨rfl, WM_lw_SolidBoxes_1 _ _ _ _ _ _ _ _ _ _ _ _ _ _ _ _  (fun _ _ _ _ _ _ _ => ?_) (fun _ _ _ _ _ _ _ => ?_) _ _ _ _ _ _ _ _  h⟩
def g_lw_SolidBoxes : List AV → Option (Prop × RT)
  | [AV.agg [AV.int .i64 a0a, AV.int .i64 a0b, AV.int .i64 a0c, AV.int .i64 a0d], AV.agg [AV.int .i64 a1a, AV.int .i64 a1b, AV.int .i64 a1c, AV.int .i64 a1d], AV.agg [AV.int .i64 a2a, AV.int .i64 a2b], AV.int .i64 a3, AV.rs sq0 sn0 sc0] => cond (kindsOK [KC.I .i64, KC.I .i64, KC.I .i64, KC.I .i64] sc0) (some (P_lw_SolidBoxes a0a a0b a0c a0d a1a a1b a1c a1d a2a a2b a3 (nOf sn0 sc0) (colI sc0 0) (colI sc0 1) (colI sc0 2) (colI sc0 3), RT.leaf (AV.bool (F_lw_SolidBoxes_0 a0a a0b a0c a0d a1a a1b a1c a1d a2a a2b a3 (nOf sn0 sc0) (colI sc0 0) (colI sc0 1) (colI sc0 2) (colI sc0 3))))) none
  | _ => none
theorem S_lw_SolidBoxes : SpecOK Try.prog 3 (.pure g_lw_SolidBoxes) := by
  intro xs p r h hp E w vs hr hv
  unfold g_lw_SolidBoxes at h
  split at h
  · rename_i a0a a0b a0c a0d a1a a1b a1c a1d a2a a2b a3 sq0 sn0 sc0
    have hk0 : kindsOK [KC.I .i64, KC.I .i64, KC.I .i64, KC.I .i64] sc0 = true := by
      cases hh : kindsOK [KC.I .i64, KC.I .i64, KC.I .i64, KC.I .i64] sc0 with
      | true => rfl
      | false => rw [hh] at h; cases h
    rw [hk0, cond_true] at h
    simp only [Option.some.injEq, Prod.mk.injEq] at h
    obtain ⟨rfl, rfl⟩ := h
    have hG : SpecsOK Try.prog G_lw_SolidBoxes := ⟨S_lw_awake, S_sd_CheckBox, S_r3_CheckBox, S_sd_Meets, S_r3_Meets, S_sd_Within, S_r3_Within, S_sd_Join, S_r3_Join, S_sd_Grow, S_r3_Grow, trivial⟩
    have hv' : VRs E.bare (as_lw_SolidBoxes a0a a0b a0c a0d a1a a1b a1c a1d a2a a2b a3 (nOf sn0 sc0) (colI sc0 0) (colI sc0 1) (colI sc0 2) (colI sc0 3)) vs := (AV.les.cons (AV.le.refl _) (AV.les.cons (AV.le.refl _) (AV.les.cons (AV.le.refl _) (AV.les.cons (AV.le.refl _) (AV.les.cons (AV.le.rs hk0) AV.les.nil))))) _ _ hv
    refine walk_pure' (f := 3) (fn := Try.f3) (c := bodyOf Try.f3) (rs := [.tmp 10]) (ys := as_lw_SolidBoxes a0a a0b a0c a0d a1a a1b a1c a1d a2a a2b a3 (nOf sn0 sc0) (colI sc0 0) (colI sc0 1) (colI sc0 2) (colI sc0 3)) tab_ok (envL_ok hG) Try.func3 rfl (by kernel_rfl) rfl (by decide) (fun X hX => ?_) E w vs hr hv'
    rw [Try.ntmps3]
    refine vwp_std hX rfl (tr := T_lw_SolidBoxes a0a a0b a0c a0d a1a a1b a1c a1d a2a a2b a3 (nOf sn0 sc0) (colI sc0 0) (colI sc0 1) (colI sc0 2) (colI sc0 3)) (fun j st Q h => TS_lw_SolidBoxes hX _ rfl a0a a0b a0c a0d a1a a1b a1c a1d a2a a2b a3 (nOf sn0 sc0) (colI sc0 0) (colI sc0 1) (colI sc0 2) (colI sc0 3) j st Q h) ?_
    refine Eq.mpr (N_lw_SolidBoxes a0a a0b a0c a0d a1a a1b a1c a1d a2a a2b a3 (nOf sn0 sc0) (colI sc0 0) (colI sc0 1) (colI sc0 2) (colI sc0 3) (fun x => x = _)) ?_
    exact BL_lw_SolidBoxes a0a a0b a0c a0d a1a a1b a1c a1d a2a a2b a3 (nOf sn0 sc0) (colI sc0 0) (colI sc0 1) (colI sc0 2) (colI sc0 3) (H_lw_SolidBoxes a0a a0b a0c a0d a1a a1b a1c a1d a2a a2b a3 (nOf sn0 sc0) (colI sc0 0) (colI sc0 1) (colI sc0 2) (colI sc0 3) hp rfl)
  · cases h
/-! ### bagatelle/bagatellekit.Spot -/
def G_kt_Spot : List (Nat × Ag.Spec) := []
def as_kt_Spot (a0 : Int) (a1 : Int) (a2 : Int) : List AV := [AV.int .i64 a0, AV.int .i64 a1, AV.int .i64 a2]
theorem N_kt_Spot (a0 : Int) (a1 : Int) (a2 : Int) (K : AV → Prop) : vwp tab (envL G_kt_Spot) (fun _ _ _ => False) 0 (bodyOf Try.f38) (entry (as_kt_Spot a0 a1 a2) 16) (fnPost tab [.cell 6 25] fun v s => K (v.frz s.mem)) = B_kt_Spot a0 a1 a2 (fun r0 r1 => K (AV.agg [AV.int .i64 r0, AV.int .i64 r1]))  := by kernel_rfl
def g_kt_Spot : List AV → Option (Prop × RT)
  | [AV.int .i64 a0, AV.int .i64 a1, AV.int .i64 a2] => some (P_kt_Spot a0 a1 a2, RT.leaf (AV.agg [AV.int .i64 (F_kt_Spot_0 a0 a1 a2), AV.int .i64 (F_kt_Spot_1 a0 a1 a2)]))
  | _ => none
theorem S_kt_Spot : SpecOK Try.prog 38 (.pure g_kt_Spot) := by
  intro xs p r h hp E w vs hr hv
  unfold g_kt_Spot at h
  split at h
  · rename_i a0 a1 a2
    simp only [Option.some.injEq, Prod.mk.injEq] at h
    obtain ⟨rfl, rfl⟩ := h
    have hG : SpecsOK Try.prog G_kt_Spot := trivial
    refine walk_pure' (f := 38) (fn := Try.f38) (c := bodyOf Try.f38) (rs := [.cell 6 25]) (ys := as_kt_Spot a0 a1 a2) tab_ok (envL_ok hG) Try.func38 rfl (by kernel_rfl) rfl (by decide) (fun X hX => ?_) E w vs hr hv
    rw [Try.ntmps38]
    refine vwp_std hX rfl (tr := fun _ _ _ => False) (fun _ _ _ h => h.elim) ?_
    refine Eq.mpr (N_kt_Spot a0 a1 a2 (fun x => x = _)) ?_
    exact H_kt_Spot a0 a1 a2 hp rfl
  · cases h
/-! ### bagatelle/bagatellekit.Box -/
def G_kt_Box : List (Nat × Ag.Spec) := [(38, .pure g_kt_Spot)]
def as_kt_Box (a0 : Int) (a1 : Int) (a2 : Int) (a3 : Int) (a4 : Int) : List AV := [AV.int .i64 a0, AV.int .i64 a1, AV.int .i64 a2, AV.int .i64 a3, AV.int .i64 a4]
theorem N_kt_Box (a0 : Int) (a1 : Int) (a2 : Int) (a3 : Int) (a4 : Int) (K : AV → Prop) : vwp tab (envL G_kt_Box) (fun _ _ _ => False) 0 (bodyOf Try.f20) (entry (as_kt_Box a0 a1 a2 a3 a4) 42) (fnPost tab [.cell 10 23] fun v s => K (v.frz s.mem)) = B_kt_Box a0 a1 a2 a3 a4 (fun r0 r1 r2 r3 => K (AV.agg [AV.int .i64 r0, AV.int .i64 r1, AV.int .i64 r2, AV.int .i64 r3]))  := by kernel_rfl
def g_kt_Box : List AV → Option (Prop × RT)
  | [AV.int .i64 a0, AV.int .i64 a1, AV.int .i64 a2, AV.int .i64 a3, AV.int .i64 a4] => some (P_kt_Box a0 a1 a2 a3 a4, RT.leaf (AV.agg [AV.int .i64 (F_kt_Box_0 a0 a1 a2 a3 a4), AV.int .i64 (F_kt_Box_1 a0 a1 a2 a3 a4), AV.int .i64 (F_kt_Box_2 a0 a1 a2 a3 a4), AV.int .i64 (F_kt_Box_3 a0 a1 a2 a3 a4)]))
  | _ => none
theorem S_kt_Box : SpecOK Try.prog 20 (.pure g_kt_Box) := by
  intro xs p r h hp E w vs hr hv
  unfold g_kt_Box at h
  split at h
  · rename_i a0 a1 a2 a3 a4
    simp only [Option.some.injEq, Prod.mk.injEq] at h
    obtain ⟨rfl, rfl⟩ := h
    have hG : SpecsOK Try.prog G_kt_Box := ⟨S_kt_Spot, trivial⟩
    refine walk_pure' (f := 20) (fn := Try.f20) (c := bodyOf Try.f20) (rs := [.cell 10 23]) (ys := as_kt_Box a0 a1 a2 a3 a4) tab_ok (envL_ok hG) Try.func20 rfl (by kernel_rfl) rfl (by decide) (fun X hX => ?_) E w vs hr hv
    rw [Try.ntmps20]
    refine vwp_std hX rfl (tr := fun _ _ _ => False) (fun _ _ _ h => h.elim) ?_
    refine Eq.mpr (N_kt_Box a0 a1 a2 a3 a4 (fun x => x = _)) ?_
    exact H_kt_Box a0 a1 a2 a3 a4 hp rfl
  · cases h
/-! ### bagatelle/bagatellekit.Mod -/
def G_kt_Mod : List (Nat × Ag.Spec) := []
def as_kt_Mod (a0 : Int) (a1 : Int) : List AV := [AV.int .i64 a0, AV.int .i64 a1]
theorem N_kt_Mod (a0 : Int) (a1 : Int) (K : AV → Prop) : vwp tab (envL G_kt_Mod) (fun _ _ _ => False) 0 (bodyOf Try.f21) (entry (as_kt_Mod a0 a1) 14) (fnPost tab [.tmp 4] fun v s => K (v.frz s.mem)) = B_kt_Mod a0 a1 (fun r0 => K (AV.int .i64 r0))  := by kernel_rfl
def g_kt_Mod : List AV → Option (Prop × RT)
  | [AV.int .i64 a0, AV.int .i64 a1] => some (P_kt_Mod a0 a1, RT.leaf (AV.int .i64 (F_kt_Mod_0 a0 a1)))
  | _ => none
theorem S_kt_Mod : SpecOK Try.prog 21 (.pure g_kt_Mod) := by
  intro xs p r h hp E w vs hr hv
  unfold g_kt_Mod at h
  split at h
  · rename_i a0 a1
    simp only [Option.some.injEq, Prod.mk.injEq] at h
    obtain ⟨rfl, rfl⟩ := h
    have hG : SpecsOK Try.prog G_kt_Mod := trivial
    refine walk_pure' (f := 21) (fn := Try.f21) (c := bodyOf Try.f21) (rs := [.tmp 4]) (ys := as_kt_Mod a0 a1) tab_ok (envL_ok hG) Try.func21 rfl (by kernel_rfl) rfl (by decide) (fun X hX => ?_) E w vs hr hv
    rw [Try.ntmps21]
    refine vwp_std hX rfl (tr := fun _ _ _ => False) (fun _ _ _ h => h.elim) ?_
    refine Eq.mpr (N_kt_Mod a0 a1 (fun x => x = _)) ?_
    exact H_kt_Mod a0 a1 hp rfl
  · cases h
/-! ### bagatelle/bagatellelaw03.SolidJoins -/
def G_lw_SolidJoins : List (Nat × Ag.Spec) := [(9, .pure g_lw_awake), (10, .pure g_sd_CheckBox), (12, .pure g_sd_Meets), (14, .pure g_sd_Within), (16, .pure g_sd_Join), (18, .pure g_sd_Grow), (20, .pure g_kt_Box), (21, .pure g_kt_Mod)]
def as_lw_SolidJoins (a0a : Int) (a0b : Int) (a0c : Int) (a0d : Int) (a1a : Int) (a1b : Int) (a1c : Int) (a1d : Int) (a2a : Int) (a2b : Int) (a2c : Int) (a2d : Int) (a3 : Int) (a4 : Int) : List AV := [AV.agg [AV.int .i64 a0a, AV.int .i64 a0b, AV.int .i64 a0c, AV.int .i64 a0d], AV.agg [AV.int .i64 a1a, AV.int .i64 a1b, AV.int .i64 a1c, AV.int .i64 a1d], AV.agg [AV.int .i64 a2a, AV.int .i64 a2b, AV.int .i64 a2c, AV.int .i64 a2d], AV.int .i64 a3, AV.int .i64 a4]
theorem N_lw_SolidJoins (a0a : Int) (a0b : Int) (a0c : Int) (a0d : Int) (a1a : Int) (a1b : Int) (a1c : Int) (a1d : Int) (a2a : Int) (a2b : Int) (a2c : Int) (a2d : Int) (a3 : Int) (a4 : Int) (K : AV → Prop) : vwp tab (envL G_lw_SolidJoins) (fun _ _ _ => False) 0 (bodyOf Try.f4) (entry (as_lw_SolidJoins a0a a0b a0c a0d a1a a1b a1c a1d a2a a2b a2c a2d a3 a4) 134) (fnPost tab [.tmp 10] fun v s => K (v.frz s.mem)) = B_lw_SolidJoins a0a a0b a0c a0d a1a a1b a1c a1d a2a a2b a2c a2d a3 a4 (fun r0 => K (AV.bool r0))  := by kernel_rfl
def g_lw_SolidJoins : List AV → Option (Prop × RT)
  | [AV.agg [AV.int .i64 a0a, AV.int .i64 a0b, AV.int .i64 a0c, AV.int .i64 a0d], AV.agg [AV.int .i64 a1a, AV.int .i64 a1b, AV.int .i64 a1c, AV.int .i64 a1d], AV.agg [AV.int .i64 a2a, AV.int .i64 a2b, AV.int .i64 a2c, AV.int .i64 a2d], AV.int .i64 a3, AV.int .i64 a4] => some (P_lw_SolidJoins a0a a0b a0c a0d a1a a1b a1c a1d a2a a2b a2c a2d a3 a4, RT.leaf (AV.bool (F_lw_SolidJoins_0 a0a a0b a0c a0d a1a a1b a1c a1d a2a a2b a2c a2d a3 a4)))
  | _ => none
theorem S_lw_SolidJoins : SpecOK Try.prog 4 (.pure g_lw_SolidJoins) := by
  intro xs p r h hp E w vs hr hv
  unfold g_lw_SolidJoins at h
  split at h
  · rename_i a0a a0b a0c a0d a1a a1b a1c a1d a2a a2b a2c a2d a3 a4
    simp only [Option.some.injEq, Prod.mk.injEq] at h
    obtain ⟨rfl, rfl⟩ := h
    have hG : SpecsOK Try.prog G_lw_SolidJoins := ⟨S_lw_awake, S_sd_CheckBox, S_sd_Meets, S_sd_Within, S_sd_Join, S_sd_Grow, S_kt_Box, S_kt_Mod, trivial⟩
    refine walk_pure' (f := 4) (fn := Try.f4) (c := bodyOf Try.f4) (rs := [.tmp 10]) (ys := as_lw_SolidJoins a0a a0b a0c a0d a1a a1b a1c a1d a2a a2b a2c a2d a3 a4) tab_ok (envL_ok hG) Try.func4 rfl (by kernel_rfl) rfl (by decide) (fun X hX => ?_) E w vs hr hv
    rw [Try.ntmps4]
    refine vwp_std hX rfl (tr := fun _ _ _ => False) (fun _ _ _ h => h.elim) ?_
    refine Eq.mpr (N_lw_SolidJoins a0a a0b a0c a0d a1a a1b a1c a1d a2a a2b a2c a2d a3 a4 (fun x => x = _)) ?_
    exact H_lw_SolidJoins a0a a0b a0c a0d a1a a1b a1c a1d a2a a2b a2c a2d a3 a4 hp rfl
  · cases h
end
end Go.Proofs.Ytbcegholicnflaa
