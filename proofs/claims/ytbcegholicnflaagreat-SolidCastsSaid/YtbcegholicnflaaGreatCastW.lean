import Derived.Test.YtbcegholicnflaaGreatCastWA
set_option linter.unusedVariables false
set_option linter.unusedSimpArgs false
set_option maxRecDepth 100000
namespace Go.Proofs.YtbcegholicnflaaGreat
open Go.RowKit Go.Ag
noncomputable section
def G_bi : List (Nat × Ag.Spec) := [(107, .pure g_dh), (108, .pure g_du), (109, .pure g_cd), (110, .pure g_aw)]
def S_bi_0 (cm ge gg gm : Int) (gq : Nat) (gu gv : Nat -> Int) (gz : Int) : VS := ⟨slotsN 80 0 [(1, AV.ptr false 0 0 0), (2, AV.int .i64 0), (3, AV.int .i64 gz)], [.one true 35 [AV.int .i64 cm, AV.int .i64 ge, AV.int .i64 gg, AV.int .i64 gm, AV.rs none gq [CF.I .i64 gu, CF.I .i64 gv]]], false, 0⟩
def X_bi_0_exit0 (cm ge gg gm : Int) (gq : Nat) (gu gv : Nat -> Int) (o0 : Int) : VS := ⟨slotsN 80 0 [(1, AV.ptr false 0 0 0), (2, AV.int .i64 0), (3, AV.int .i64 o0)], [.one true 35 [AV.int .i64 cm, AV.int .i64 ge, AV.int .i64 gg, AV.int .i64 gm, AV.rs none gq [CF.I .i64 gu, CF.I .i64 gv]]], false, 0⟩
def X_bi_0_ret (cm ge gg gm : Int) (gq : Nat) (gu gv : Nat -> Int) (o0 o1 : Int) : VS := ⟨slotsN 80 0 [(1, AV.ptr false 0 0 0), (2, AV.int .i64 o0), (3, AV.int .i64 o1)], [.one true 35 [AV.int .i64 cm, AV.int .i64 ge, AV.int .i64 gg, AV.int .i64 gm, AV.rs none gq [CF.I .i64 gu, CF.I .i64 gv]]], false, 0⟩
theorem N_bi_0 (cm ge gg gm : Int) (gq : Nat) (gu gv : Nat -> Int) (gz : Int) (Q : Exit -> VS -> Prop) : vwp tab (envL G_bi) (fun _ _ _ => False) 0 (lbody (loopAt (bodyOf Tryz.f38) 0)) (S_bi_0 cm ge gg gm gq gu gv gz) (QM [1, 2, 3] [0] 1 Q) = B_bi_0 cm ge gg gm gq gu gv gz (fun w0 => Q .normal (S_bi_0 cm ge gg gm gq gu gv w0)) (fun o0 => Q (.exit 0) (X_bi_0_exit0 cm ge gg gm gq gu gv o0)) (fun o0 o1 => Q .ret (X_bi_0_ret cm ge gg gm gq gu gv o0 o1))  := by kernel_rfl
theorem L_bi_0 {X : Cx} (hX : Std Tryz.prog tab (envL G_bi) X) (b : Code) (hb : b = bodyOf Tryz.f38) (cm ge gg gm : Int) (gq : Nat) (gu gv : Nat -> Int) (fu : Nat) (gz : Int) (Q : Exit -> VS -> Prop) (h : W_bi_0 cm ge gg gm gq gu gv fu gz (fun o0 => Q (.exit 0) (X_bi_0_exit0 cm ge gg gm gq gu gv o0)) (fun o0 o1 => Q .ret (X_bi_0_ret cm ge gg gm gq gu gv o0 o1))) : TrK X b 0 (S_bi_0 cm ge gg gm gq gu gv gz) Q := by
  subst hb
  refine loop_ok (V := Int) (fun v => S_bi_0 cm ge gg gm gq gu gv v) (fun f v => W_bi_0 cm ge gg gm gq gu gv f v (fun o0 => Q (.exit 0) (X_bi_0_exit0 cm ge gg gm gq gu gv o0)) (fun o0 o1 => Q .ret (X_bi_0_ret cm ge gg gm gq gu gv o0 o1))) (fun _ h => h) (by kernel_rfl) (fun f v hv => ?_) (fuel := fu) (v0 := (gz)) h
  refine QM_ok (bs := [1, 2, 3]) (ms := [0]) (nm := 1) ?_
  refine vwp_std hX rfl (tr := (fun _ _ _ => False)) (fun _ _ _ h => h.elim) ?_
  refine Eq.mpr (N_bi_0 cm ge gg gm gq gu gv v _) ?_
  exact BM_bi_0 cm ge gg gm gq gu gv v (fun w0 h => ⟨w0, rfl, h⟩) (fun _ h => h) (fun _ _ h => h) hv
def T_bi (cm ge gg gm : Int) (gq : Nat) (gu gv : Nat -> Int) (k : Nat) (st : VS) (Q : Exit -> VS -> Prop) : Prop := match k with
  | 0 => TL [1, 2, 3] [0] 1 (convs st []) (fun st => S_bi_0 cm ge gg gm gq gu gv (intOf (tAt st 3))) (fun st => W_bi_0 cm ge gg gm gq gu gv fuel (intOf (tAt st 3)) (fun o0 => Q (.exit 0) (X_bi_0_exit0 cm ge gg gm gq gu gv o0)) (fun o0 o1 => Q .ret (X_bi_0_ret cm ge gg gm gq gu gv o0 o1)))
  | _ => False
theorem TS_bi {X : Cx} (hX : Std Tryz.prog tab (envL G_bi) X) (b : Code) (hb : b = bodyOf Tryz.f38) (cm ge gg gm : Int) (gq : Nat) (gu gv : Nat -> Int) (j : Nat) (st : VS) (Q : Exit -> VS -> Prop) (h : T_bi cm ge gg gm gq gu gv j st Q) : TrK X b j st Q := by
  unfold T_bi at h
  split at h
  · exact TL_ok h (fun h' => L_bi_0 hX b hb cm ge gg gm gq gu gv _ _ Q h')
  · exact h.elim
def as_bi (cm ge gg gm : Int) (gq : Nat) (gu gv : Nat -> Int) : List AV := [AV.agg [AV.int .i64 cm, AV.int .i64 ge, AV.int .i64 gg, AV.int .i64 gm, AV.rs none gq [CF.I .i64 gu, CF.I .i64 gv]]]
theorem N_bi (cm ge gg gm : Int) (gq : Nat) (gu gv : Nat -> Int) (K : AV -> Prop) : vwp tab (envL G_bi) (T_bi cm ge gg gm gq gu gv) 0 (bodyOf Tryz.f38) (entry (as_bi cm ge gg gm gq gu gv) 80) (fnPost tab [.tmp 2] fun v s => K (v.frz s.mem)) = B_bi cm ge gg gm gq gu gv (fun r0 => K (AV.int .i64 r0)) (fun p0 y0 y1 => S_bi_0 cm ge gg gm gq gu gv p0 = S_bi_0 cm ge gg gm gq gu gv p0 /\ W_bi_0 cm ge gg gm gq gu gv fuel p0 y0 y1) := by kernel_rfl
theorem BL_bi (cm ge gg gm : Int) (gq : Nat) (gu gv : Nat -> Int) {K0 : Int -> Prop} : B_bi cm ge gg gm gq gu gv K0 (W_bi_0 cm ge gg gm gq gu gv fuel) -> B_bi cm ge gg gm gq gu gv K0 (fun p0 y0 y1 => S_bi_0 cm ge gg gm gq gu gv p0 = S_bi_0 cm ge gg gm gq gu gv p0 /\ W_bi_0 cm ge gg gm gq gu gv fuel p0 y0 y1) := by
  unfold B_bi
  repeat' first
    | exact id
    | refine Ts_imp ?_
    | refine cond_imp ?_ ?_
    | refine and_imp' ?_
    | refine fun h => ⟨rfl, WM_bi_0 _ _ _ _ _ _ _  (fun _ => ?_) (fun _ _ => ?_) _ _  h⟩
def g_bi : List AV -> Option (Prop × RT)
  | [AV.agg [AV.int .i64 cm, AV.int .i64 ge, AV.int .i64 gg, AV.int .i64 gm, AV.rs sq0 sn0 sc0]] => cond (kindsOK [KC.I .i64, KC.I .i64] sc0) (some (P_bi cm ge gg gm (nOf sn0 sc0) (colI sc0 0) (colI sc0 1), RT.leaf (AV.int .i64 (F_bi_0 cm ge gg gm (nOf sn0 sc0) (colI sc0 0) (colI sc0 1))))) none
  | _ => none
theorem S_bi : SpecOK Tryz.prog 38 (.pure g_bi) := by
 intro xs p r h hp E w vs hr hv; unfold g_bi at h; split at h
 · rename_i cm ge gg gm sq0 sn0 sc0
   obtain ⟨hk0, h⟩ := cond_some h
   obtain ⟨rfl, rfl⟩ := some_pair h
   have hG := (show SpecsOK Tryz.prog G_bi from ⟨S_dh, S_du, S_cd, S_aw, trivial⟩)
   have hv' := ((AV.les.cons (AV.le.agg (AV.les.cons (AV.le.refl _) (AV.les.cons (AV.le.refl _) (AV.les.cons (AV.le.refl _) (AV.les.cons (AV.le.refl _) (AV.les.cons (AV.le.rs hk0) AV.les.nil)))))) AV.les.nil) _ _ hv : VRs E.bare (as_bi cm ge gg gm (nOf sn0 sc0) (colI sc0 0) (colI sc0 1)) vs)
   refine walk_pure' (c := bodyOf Tryz.f38) (rs := [.tmp 2]) (ys := as_bi cm ge gg gm (nOf sn0 sc0) (colI sc0 0) (colI sc0 1)) tab_ok (envL_ok hG) Tryz.func38 rfl (by kernel_rfl) rfl (by decide) (fun X hX hrho => ?_) E w vs hr hv'
   rw [Tryz.ntmps38]
   refine vwp_std hX rfl (tr := T_bi cm ge gg gm (nOf sn0 sc0) (colI sc0 0) (colI sc0 1)) (fun j st Q h => TS_bi hX _ rfl cm ge gg gm (nOf sn0 sc0) (colI sc0 0) (colI sc0 1) j st Q h) (Eq.mpr (N_bi cm ge gg gm (nOf sn0 sc0) (colI sc0 0) (colI sc0 1) (fun x => x = _)) ?_)
   exact BL_bi cm ge gg gm (nOf sn0 sc0) (colI sc0 0) (colI sc0 1) (H_bi cm ge gg gm (nOf sn0 sc0) (colI sc0 0) (colI sc0 1) hp rfl)
 · cases h
def G_fw : List (Nat × Ag.Spec) := []
def as_fw (cm ga gb gd : Int) : List AV := [AV.agg [AV.int .i64 cm, AV.int .i64 ga], AV.agg [AV.int .i64 gb, AV.int .i64 gd]]
theorem N_fw (cm ga gb gd : Int) (K : AV -> Prop) : vwp tab (envL G_fw) (fun _ _ _ => False) 0 (bodyOf Tryz.f121) (entry (as_fw cm ga gb gd) 16) (fnPost tab [.tmp 4] fun v s => K (v.frz s.mem)) = B_fw cm ga gb gd (fun r0 => K (AV.int .i64 r0))  := by kernel_rfl
def g_fw : List AV -> Option (Prop × RT)
  | [AV.agg [AV.int .i64 cm, AV.int .i64 ga], AV.agg [AV.int .i64 gb, AV.int .i64 gd]] => some (P_fw cm ga gb gd, RT.leaf (AV.int .i64 (F_fw_0 cm ga gb gd)))
  | _ => none
theorem S_fw : SpecOK Tryz.prog 121 (.pure g_fw) := by
 intro xs p r h hp E w vs hr hv; unfold g_fw at h; split at h
 · rename_i cm ga gb gd
   obtain ⟨rfl, rfl⟩ := some_pair h
   exact walk0 (ys := as_fw cm ga gb gd) (rs := [.tmp 4]) tab_ok (show SpecsOK Tryz.prog G_fw from trivial) Tryz.func121 rfl (by kernel_rfl) rfl (by decide) Tryz.ntmps121 (N_fw cm ga gb gd) (H_fw cm ga gb gd hp rfl) E w vs hr hv
 · cases h
def G_bp : List (Nat × Ag.Spec) := [(115, .pure g_a8), (121, .pure g_fw), (130, .pure g_fk)]
def S_bp_0 (cm ge gg gm : Int) (gq : Nat) (gu gv : Nat -> Int) (gb gd iu : Int) : VS := ⟨slotsN 48 0 [(2, AV.ptr false 0 0 0), (3, AV.ptr false 1 0 0), (4, AV.bool false), (6, AV.int .i64 iu)], [.one true 35 [AV.int .i64 cm, AV.int .i64 ge, AV.int .i64 gg, AV.int .i64 gm, AV.rs none gq [CF.I .i64 gu, CF.I .i64 gv]], .one true 32 [AV.int .i64 gb, AV.int .i64 gd]], false, 0⟩
def X_bp_0_exit0 (cm ge gg gm : Int) (gq : Nat) (gu gv : Nat -> Int) (gb gd o0 : Int) : VS := ⟨slotsN 48 0 [(2, AV.ptr false 0 0 0), (3, AV.ptr false 1 0 0), (4, AV.bool false), (6, AV.int .i64 o0)], [.one true 35 [AV.int .i64 cm, AV.int .i64 ge, AV.int .i64 gg, AV.int .i64 gm, AV.rs none gq [CF.I .i64 gu, CF.I .i64 gv]], .one true 32 [AV.int .i64 gb, AV.int .i64 gd]], false, 0⟩
def X_bp_0_ret (cm ge gg gm : Int) (gq : Nat) (gu gv : Nat -> Int) (gb gd o0 : Int) : VS := ⟨slotsN 48 0 [(2, AV.ptr false 0 0 0), (3, AV.ptr false 1 0 0), (4, AV.bool false), (6, AV.int .i64 o0)], [.one true 35 [AV.int .i64 cm, AV.int .i64 ge, AV.int .i64 gg, AV.int .i64 gm, AV.rs none gq [CF.I .i64 gu, CF.I .i64 gv]], .one true 32 [AV.int .i64 gb, AV.int .i64 gd]], false, 0⟩
theorem N_bp_0 (cm ge gg gm : Int) (gq : Nat) (gu gv : Nat -> Int) (gb gd iu : Int) (Q : Exit -> VS -> Prop) : vwp tab (envL G_bp) (fun _ _ _ => False) 0 (lbody (loopAt (bodyOf Tryz.f111) 0)) (S_bp_0 cm ge gg gm gq gu gv gb gd iu) (QM [2, 3, 4, 6] [0, 1] 2 Q) = B_bp_0 cm ge gg gm gq gu gv gb gd iu (fun w0 => Q .normal (S_bp_0 cm ge gg gm gq gu gv gb gd w0)) (fun o0 => Q (.exit 0) (X_bp_0_exit0 cm ge gg gm gq gu gv gb gd o0)) (fun o0 => Q .ret (X_bp_0_ret cm ge gg gm gq gu gv gb gd o0))  := by kernel_rfl
theorem L_bp_0 {X : Cx} (hX : Std Tryz.prog tab (envL G_bp) X) (b : Code) (hb : b = bodyOf Tryz.f111) (cm ge gg gm : Int) (gq : Nat) (gu gv : Nat -> Int) (gb gd : Int) (fu : Nat) (iu : Int) (Q : Exit -> VS -> Prop) (h : W_bp_0 cm ge gg gm gq gu gv gb gd fu iu (fun o0 => Q (.exit 0) (X_bp_0_exit0 cm ge gg gm gq gu gv gb gd o0)) (fun o0 => Q .ret (X_bp_0_ret cm ge gg gm gq gu gv gb gd o0))) : TrK X b 0 (S_bp_0 cm ge gg gm gq gu gv gb gd iu) Q := by
  subst hb
  refine loop_ok (V := Int) (fun v => S_bp_0 cm ge gg gm gq gu gv gb gd v) (fun f v => W_bp_0 cm ge gg gm gq gu gv gb gd f v (fun o0 => Q (.exit 0) (X_bp_0_exit0 cm ge gg gm gq gu gv gb gd o0)) (fun o0 => Q .ret (X_bp_0_ret cm ge gg gm gq gu gv gb gd o0))) (fun _ h => h) (by kernel_rfl) (fun f v hv => ?_) (fuel := fu) (v0 := (iu)) h
  refine QM_ok (bs := [2, 3, 4, 6]) (ms := [0, 1]) (nm := 2) ?_
  refine vwp_std hX rfl (tr := (fun _ _ _ => False)) (fun _ _ _ h => h.elim) ?_
  refine Eq.mpr (N_bp_0 cm ge gg gm gq gu gv gb gd v _) ?_
  exact BM_bp_0 cm ge gg gm gq gu gv gb gd v (fun w0 h => ⟨w0, rfl, h⟩) (fun _ h => h) (fun _ h => h) hv
def T_bp (cm ge gg gm : Int) (gq : Nat) (gu gv : Nat -> Int) (gb gd : Int) (k : Nat) (st : VS) (Q : Exit -> VS -> Prop) : Prop := match k with
  | 0 => TL [2, 3, 4, 6] [0, 1] 2 (convs st []) (fun st => S_bp_0 cm ge gg gm gq gu gv gb gd (intOf (tAt st 6))) (fun st => W_bp_0 cm ge gg gm gq gu gv gb gd fuel (intOf (tAt st 6)) (fun o0 => Q (.exit 0) (X_bp_0_exit0 cm ge gg gm gq gu gv gb gd o0)) (fun o0 => Q .ret (X_bp_0_ret cm ge gg gm gq gu gv gb gd o0)))
  | _ => False
theorem TS_bp {X : Cx} (hX : Std Tryz.prog tab (envL G_bp) X) (b : Code) (hb : b = bodyOf Tryz.f111) (cm ge gg gm : Int) (gq : Nat) (gu gv : Nat -> Int) (gb gd : Int) (j : Nat) (st : VS) (Q : Exit -> VS -> Prop) (h : T_bp cm ge gg gm gq gu gv gb gd j st Q) : TrK X b j st Q := by
  unfold T_bp at h
  split at h
  · exact TL_ok h (fun h' => L_bp_0 hX b hb cm ge gg gm gq gu gv gb gd _ _ Q h')
  · exact h.elim
def as_bp (cm ge gg gm : Int) (gq : Nat) (gu gv : Nat -> Int) (gb gd : Int) : List AV := [AV.agg [AV.int .i64 cm, AV.int .i64 ge, AV.int .i64 gg, AV.int .i64 gm, AV.rs none gq [CF.I .i64 gu, CF.I .i64 gv]], AV.agg [AV.int .i64 gb, AV.int .i64 gd]]
theorem N_bp (cm ge gg gm : Int) (gq : Nat) (gu gv : Nat -> Int) (gb gd : Int) (K : AV -> Prop) : vwp tab (envL G_bp) (T_bp cm ge gg gm gq gu gv gb gd) 0 (bodyOf Tryz.f111) (entry (as_bp cm ge gg gm gq gu gv gb gd) 48) (fnPost tab [.tmp 4] fun v s => K (v.frz s.mem)) = B_bp cm ge gg gm gq gu gv gb gd (fun r0 => K (AV.bool r0)) (fun p0 y0 y1 => S_bp_0 cm ge gg gm gq gu gv gb gd p0 = S_bp_0 cm ge gg gm gq gu gv gb gd p0 /\ W_bp_0 cm ge gg gm gq gu gv gb gd fuel p0 y0 y1) := by kernel_rfl
theorem BL_bp (cm ge gg gm : Int) (gq : Nat) (gu gv : Nat -> Int) (gb gd : Int) {K0 : Bool -> Prop} : B_bp cm ge gg gm gq gu gv gb gd K0 (W_bp_0 cm ge gg gm gq gu gv gb gd fuel) -> B_bp cm ge gg gm gq gu gv gb gd K0 (fun p0 y0 y1 => S_bp_0 cm ge gg gm gq gu gv gb gd p0 = S_bp_0 cm ge gg gm gq gu gv gb gd p0 /\ W_bp_0 cm ge gg gm gq gu gv gb gd fuel p0 y0 y1) := by
  unfold B_bp
  repeat' first
    | exact id
    | refine Ts_imp ?_
    | refine cond_imp ?_ ?_
    | refine and_imp' ?_
    | refine fun h => ⟨rfl, WM_bp_0 _ _ _ _ _ _ _ _ _  (fun _ => ?_) (fun _ => ?_) _ _  h⟩
def g_bp : List AV -> Option (Prop × RT)
  | [AV.agg [AV.int .i64 cm, AV.int .i64 ge, AV.int .i64 gg, AV.int .i64 gm, AV.rs sq0 sn0 sc0], AV.agg [AV.int .i64 gb, AV.int .i64 gd]] => cond (kindsOK [KC.I .i64, KC.I .i64] sc0) (some (P_bp cm ge gg gm (nOf sn0 sc0) (colI sc0 0) (colI sc0 1) gb gd, RT.leaf (AV.bool (F_bp_0 cm ge gg gm (nOf sn0 sc0) (colI sc0 0) (colI sc0 1) gb gd)))) none
  | _ => none
theorem S_bp : SpecOK Tryz.prog 111 (.pure g_bp) := by
 intro xs p r h hp E w vs hr hv; unfold g_bp at h; split at h
 · rename_i cm ge gg gm sq0 sn0 sc0 gb gd
   obtain ⟨hk0, h⟩ := cond_some h
   obtain ⟨rfl, rfl⟩ := some_pair h
   have hG := (show SpecsOK Tryz.prog G_bp from ⟨S_a8, S_fw, S_fk, trivial⟩)
   have hv' := ((AV.les.cons (AV.le.agg (AV.les.cons (AV.le.refl _) (AV.les.cons (AV.le.refl _) (AV.les.cons (AV.le.refl _) (AV.les.cons (AV.le.refl _) (AV.les.cons (AV.le.rs hk0) AV.les.nil)))))) (AV.les.cons (AV.le.refl _) AV.les.nil)) _ _ hv : VRs E.bare (as_bp cm ge gg gm (nOf sn0 sc0) (colI sc0 0) (colI sc0 1) gb gd) vs)
   refine walk_pure' (c := bodyOf Tryz.f111) (rs := [.tmp 4]) (ys := as_bp cm ge gg gm (nOf sn0 sc0) (colI sc0 0) (colI sc0 1) gb gd) tab_ok (envL_ok hG) Tryz.func111 rfl (by kernel_rfl) rfl (by decide) (fun X hX hrho => ?_) E w vs hr hv'
   rw [Tryz.ntmps111]
   refine vwp_std hX rfl (tr := T_bp cm ge gg gm (nOf sn0 sc0) (colI sc0 0) (colI sc0 1) gb gd) (fun j st Q h => TS_bp hX _ rfl cm ge gg gm (nOf sn0 sc0) (colI sc0 0) (colI sc0 1) gb gd j st Q h) (Eq.mpr (N_bp cm ge gg gm (nOf sn0 sc0) (colI sc0 0) (colI sc0 1) gb gd (fun x => x = _)) ?_)
   exact BL_bp cm ge gg gm (nOf sn0 sc0) (colI sc0 0) (colI sc0 1) gb gd (H_bp cm ge gg gm (nOf sn0 sc0) (colI sc0 0) (colI sc0 1) gb gd hp rfl)
 · cases h
def G_ag : List (Nat × Ag.Spec) := [(60, .pure g_fh), (61, .pure g_bo), (66, .pure g_ct), (68, .pure g_b6), (104, .pure g_dt), (111, .pure g_bp), (115, .pure g_a8), (116, .pure g_eh), (121, .pure g_fw), (141, .pure g_ep), (182, .pure g_cz), (184, .pure g_di), (185, .pure g_ew), (186, .pure g_dc), (187, .pure g_cv), (188, .pure g_dp), (189, .pure g_ft), (190, .pure g_eu), (191, .pure g_ef)]
def as_ag (cm ge gg gm : Int) (gq : Nat) (gu gv : Nat -> Int) (gb gd gh gj : Int) : List AV := [AV.agg [AV.int .i64 cm, AV.int .i64 ge, AV.int .i64 gg, AV.int .i64 gm, AV.rs none gq [CF.I .i64 gu, CF.I .i64 gv]], AV.agg [AV.int .i64 gb, AV.int .i64 gd], AV.agg [AV.int .i64 gh, AV.int .i64 gj]]
theorem N_ag (cm ge gg gm : Int) (gq : Nat) (gu gv : Nat -> Int) (gb gd gh gj : Int) (K : AV -> Prop) : vwp tab (envL G_ag) (fun _ _ _ => False) 0 (bodyOf Tryz.f112) (entry (as_ag cm ge gg gm gq gu gv gb gd gh gj) 119) (fnPost tab [.cell 6 81] fun v s => K (v.frz s.mem)) = B_ag cm ge gg gm gq gu gv gb gd gh gj (fun r0 r1 r2 r3 r4 r5 r6 => K (AV.agg [AV.bool r0, AV.int .i64 r1, AV.bool r2, AV.int .i64 r3, AV.bool r4, AV.int .i64 r5, AV.bool r6]))  := by kernel_rfl
def g_ag : List AV -> Option (Prop × RT)
  | [AV.agg [AV.int .i64 cm, AV.int .i64 ge, AV.int .i64 gg, AV.int .i64 gm, AV.rs sq0 sn0 sc0], AV.agg [AV.int .i64 gb, AV.int .i64 gd], AV.agg [AV.int .i64 gh, AV.int .i64 gj]] => cond (kindsOK [KC.I .i64, KC.I .i64] sc0) (some (P_ag cm ge gg gm (nOf sn0 sc0) (colI sc0 0) (colI sc0 1) gb gd gh gj, RT.leaf (AV.agg [AV.bool (F_ag_0 cm ge gg gm (nOf sn0 sc0) (colI sc0 0) (colI sc0 1) gb gd gh gj), AV.int .i64 (F_ag_1 cm ge gg gm (nOf sn0 sc0) (colI sc0 0) (colI sc0 1) gb gd gh gj), AV.bool (F_ag_2 cm ge gg gm (nOf sn0 sc0) (colI sc0 0) (colI sc0 1) gb gd gh gj), AV.int .i64 (F_ag_3 cm ge gg gm (nOf sn0 sc0) (colI sc0 0) (colI sc0 1) gb gd gh gj), AV.bool (F_ag_4 cm ge gg gm (nOf sn0 sc0) (colI sc0 0) (colI sc0 1) gb gd gh gj), AV.int .i64 (F_ag_5 cm ge gg gm (nOf sn0 sc0) (colI sc0 0) (colI sc0 1) gb gd gh gj), AV.bool (F_ag_6 cm ge gg gm (nOf sn0 sc0) (colI sc0 0) (colI sc0 1) gb gd gh gj)]))) none
  | _ => none
theorem S_ag : SpecOK Tryz.prog 112 (.pure g_ag) := by
 intro xs p r h hp E w vs hr hv; unfold g_ag at h; split at h
 · rename_i cm ge gg gm sq0 sn0 sc0 gb gd gh gj
   obtain ⟨hk0, h⟩ := cond_some h
   obtain ⟨rfl, rfl⟩ := some_pair h
   exact walk0 (ys := as_ag cm ge gg gm (nOf sn0 sc0) (colI sc0 0) (colI sc0 1) gb gd gh gj) (rs := [.cell 6 81]) tab_ok (show SpecsOK Tryz.prog G_ag from ⟨S_fh, S_bo, S_ct, S_b6, S_dt, S_bp, S_a8, S_eh, S_fw, S_ep, S_cz, S_di, S_ew, S_dc, S_cv, S_dp, S_ft, S_eu, S_ef, trivial⟩) Tryz.func112 rfl (by kernel_rfl) rfl (by decide) Tryz.ntmps112 (N_ag cm ge gg gm (nOf sn0 sc0) (colI sc0 0) (colI sc0 1) gb gd gh gj) (H_ag cm ge gg gm (nOf sn0 sc0) (colI sc0 0) (colI sc0 1) gb gd gh gj hp rfl) E w vs hr ((AV.les.cons (AV.le.agg (AV.les.cons (AV.le.refl _) (AV.les.cons (AV.le.refl _) (AV.les.cons (AV.le.refl _) (AV.les.cons (AV.le.refl _) (AV.les.cons (AV.le.rs hk0) AV.les.nil)))))) (AV.les.cons (AV.le.refl _) (AV.les.cons (AV.le.refl _) AV.les.nil))) _ _ hv : VRs E.bare (as_ag cm ge gg gm (nOf sn0 sc0) (colI sc0 0) (colI sc0 1) gb gd gh gj) vs)
 · cases h
def G_ce : List (Nat × Ag.Spec) := []
def as_ce (cm ge gg gm : Int) (gq : Nat) (gu gv : Nat -> Int) (a1 : Int) : List AV := [AV.agg [AV.int .i64 cm, AV.int .i64 ge, AV.int .i64 gg, AV.int .i64 gm, AV.rs none gq [CF.I .i64 gu, CF.I .i64 gv]], AV.int .i64 a1]
theorem N_ce (cm ge gg gm : Int) (gq : Nat) (gu gv : Nat -> Int) (a1 : Int) (K : AV -> Prop) : vwp tab (envL G_ce) (fun _ _ _ => False) 0 (bodyOf Tryz.f113) (entry (as_ce cm ge gg gm gq gu gv a1) 21) (fnPost tab [.cell 4 32, .cell 5 32] fun v s => K (v.frz s.mem)) = B_ce cm ge gg gm gq gu gv a1 (fun r0 r1 r2 r3 => K (AV.tup [AV.agg [AV.int .i64 r0, AV.int .i64 r1], AV.agg [AV.int .i64 r2, AV.int .i64 r3]]))  := by kernel_rfl
def g_ce : List AV -> Option (Prop × RT)
  | [AV.agg [AV.int .i64 cm, AV.int .i64 ge, AV.int .i64 gg, AV.int .i64 gm, AV.rs sq0 sn0 sc0], AV.int .i64 a1] => cond (kindsOK [KC.I .i64, KC.I .i64] sc0) (some (P_ce cm ge gg gm (nOf sn0 sc0) (colI sc0 0) (colI sc0 1) a1, RT.leaf (AV.tup [AV.agg [AV.int .i64 (F_ce_0 cm ge gg gm (nOf sn0 sc0) (colI sc0 0) (colI sc0 1) a1), AV.int .i64 (F_ce_1 cm ge gg gm (nOf sn0 sc0) (colI sc0 0) (colI sc0 1) a1)], AV.agg [AV.int .i64 (F_ce_2 cm ge gg gm (nOf sn0 sc0) (colI sc0 0) (colI sc0 1) a1), AV.int .i64 (F_ce_3 cm ge gg gm (nOf sn0 sc0) (colI sc0 0) (colI sc0 1) a1)]]))) none
  | _ => none
theorem S_ce : SpecOK Tryz.prog 113 (.pure g_ce) := by
 intro xs p r h hp E w vs hr hv; unfold g_ce at h; split at h
 · rename_i cm ge gg gm sq0 sn0 sc0 a1
   obtain ⟨hk0, h⟩ := cond_some h
   obtain ⟨rfl, rfl⟩ := some_pair h
   exact walk0 (ys := as_ce cm ge gg gm (nOf sn0 sc0) (colI sc0 0) (colI sc0 1) a1) (rs := [.cell 4 32, .cell 5 32]) tab_ok (show SpecsOK Tryz.prog G_ce from trivial) Tryz.func113 rfl (by kernel_rfl) rfl (by decide) Tryz.ntmps113 (N_ce cm ge gg gm (nOf sn0 sc0) (colI sc0 0) (colI sc0 1) a1) (H_ce cm ge gg gm (nOf sn0 sc0) (colI sc0 0) (colI sc0 1) a1 hp rfl) E w vs hr ((AV.les.cons (AV.le.agg (AV.les.cons (AV.le.refl _) (AV.les.cons (AV.le.refl _) (AV.les.cons (AV.le.refl _) (AV.les.cons (AV.le.refl _) (AV.les.cons (AV.le.rs hk0) AV.les.nil)))))) (AV.les.cons (AV.le.refl _) AV.les.nil)) _ _ hv : VRs E.bare (as_ce cm ge gg gm (nOf sn0 sc0) (colI sc0 0) (colI sc0 1) a1) vs)
 · cases h
def G_aj : List (Nat × Ag.Spec) := [(38, .pure g_bi), (68, .pure g_b6), (107, .pure g_dh), (111, .pure g_bp), (112, .pure g_ag), (113, .pure g_ce), (114, .pure g_fb), (115, .pure g_a8), (116, .pure g_eh), (117, .pure g_dj)]
def S_aj_0 (cm ge gg gm : Int) (gq : Nat) (gu gv : Nat -> Int) (gb gd gh gj ic ik iz ir io gy : Int) : VS := ⟨slotsN 147 0 [(3, AV.ptr false 0 0 0), (4, AV.ptr false 1 0 0), (5, AV.ptr false 2 0 0), (6, AV.ptr false 3 0 0), (7, AV.int .i64 ic), (8, AV.int .i64 ik), (9, AV.int .i64 iz), (10, AV.int .i64 ir), (11, AV.int .i64 io), (12, AV.int .i64 gy)], [.one true 35 [AV.int .i64 cm, AV.int .i64 ge, AV.int .i64 gg, AV.int .i64 gm, AV.rs none gq [CF.I .i64 gu, CF.I .i64 gv]], .one true 32 [AV.int .i64 gb, AV.int .i64 gd], .one true 32 [AV.int .i64 gh, AV.int .i64 gj], .one true 81 [AV.bool false, AV.int .i64 0, AV.bool false, AV.int .i64 0, AV.bool false, AV.int .i64 0, AV.bool false]], false, 0⟩
def X_aj_0_exit0 (cm ge gg gm : Int) (gq : Nat) (gu gv : Nat -> Int) (gb gd gh gj o0 o1 o2 o3 o4 o5 : Int) : VS := ⟨slotsN 147 0 [(3, AV.ptr false 0 0 0), (4, AV.ptr false 1 0 0), (5, AV.ptr false 2 0 0), (6, AV.ptr false 3 0 0), (7, AV.int .i64 o0), (8, AV.int .i64 o1), (9, AV.int .i64 o2), (10, AV.int .i64 o3), (11, AV.int .i64 o4), (12, AV.int .i64 o5)], [.one true 35 [AV.int .i64 cm, AV.int .i64 ge, AV.int .i64 gg, AV.int .i64 gm, AV.rs none gq [CF.I .i64 gu, CF.I .i64 gv]], .one true 32 [AV.int .i64 gb, AV.int .i64 gd], .one true 32 [AV.int .i64 gh, AV.int .i64 gj], .one true 81 [AV.bool false, AV.int .i64 0, AV.bool false, AV.int .i64 0, AV.bool false, AV.int .i64 0, AV.bool false]], false, 0⟩
def X_aj_0_ret (cm ge gg gm : Int) (gq : Nat) (gu gv : Nat -> Int) (gb gd gh gj o0 o1 o2 o3 o4 o5 : Int) : VS := ⟨slotsN 147 0 [(3, AV.ptr false 0 0 0), (4, AV.ptr false 1 0 0), (5, AV.ptr false 2 0 0), (6, AV.ptr false 3 0 0), (7, AV.int .i64 o0), (8, AV.int .i64 o1), (9, AV.int .i64 o2), (10, AV.int .i64 o3), (11, AV.int .i64 o4), (12, AV.int .i64 o5)], [.one true 35 [AV.int .i64 cm, AV.int .i64 ge, AV.int .i64 gg, AV.int .i64 gm, AV.rs none gq [CF.I .i64 gu, CF.I .i64 gv]], .one true 32 [AV.int .i64 gb, AV.int .i64 gd], .one true 32 [AV.int .i64 gh, AV.int .i64 gj], .one true 81 [AV.bool false, AV.int .i64 0, AV.bool false, AV.int .i64 0, AV.bool false, AV.int .i64 0, AV.bool false]], false, 0⟩
theorem N_aj_0 (cm ge gg gm : Int) (gq : Nat) (gu gv : Nat -> Int) (gb gd gh gj ic ik iz ir io gy : Int) (Q : Exit -> VS -> Prop) : vwp tab (envL G_aj) (fun _ _ _ => False) 0 (lbody (loopAt (bodyOf Tryz.f41) 0)) (S_aj_0 cm ge gg gm gq gu gv gb gd gh gj ic ik iz ir io gy) (QM [3, 4, 5, 6, 7, 8, 9, 10, 11, 12] [0, 1, 2, 3] 4 Q) = B_aj_0 cm ge gg gm gq gu gv gb gd gh gj ic ik iz ir io gy (fun w0 w1 w2 w3 w4 w5 => Q .normal (S_aj_0 cm ge gg gm gq gu gv gb gd gh gj w0 w1 w2 w3 w4 w5)) (fun o0 o1 o2 o3 o4 o5 => Q (.exit 0) (X_aj_0_exit0 cm ge gg gm gq gu gv gb gd gh gj o0 o1 o2 o3 o4 o5)) (fun o0 o1 o2 o3 o4 o5 => Q .ret (X_aj_0_ret cm ge gg gm gq gu gv gb gd gh gj o0 o1 o2 o3 o4 o5))  := by kernel_rfl
theorem L_aj_0 {X : Cx} (hX : Std Tryz.prog tab (envL G_aj) X) (b : Code) (hb : b = bodyOf Tryz.f41) (cm ge gg gm : Int) (gq : Nat) (gu gv : Nat -> Int) (gb gd gh gj : Int) (fu : Nat) (ic ik iz ir io gy : Int) (Q : Exit -> VS -> Prop) (h : W_aj_0 cm ge gg gm gq gu gv gb gd gh gj fu ic ik iz ir io gy (fun o0 o1 o2 o3 o4 o5 => Q (.exit 0) (X_aj_0_exit0 cm ge gg gm gq gu gv gb gd gh gj o0 o1 o2 o3 o4 o5)) (fun o0 o1 o2 o3 o4 o5 => Q .ret (X_aj_0_ret cm ge gg gm gq gu gv gb gd gh gj o0 o1 o2 o3 o4 o5))) : TrK X b 0 (S_aj_0 cm ge gg gm gq gu gv gb gd gh gj ic ik iz ir io gy) Q := by
  subst hb
  refine loop_ok (V := Int × Int × Int × Int × Int × Int) (fun v => S_aj_0 cm ge gg gm gq gu gv gb gd gh gj v.1 v.2.1 v.2.2.1 v.2.2.2.1 v.2.2.2.2.1 v.2.2.2.2.2) (fun f v => W_aj_0 cm ge gg gm gq gu gv gb gd gh gj f v.1 v.2.1 v.2.2.1 v.2.2.2.1 v.2.2.2.2.1 v.2.2.2.2.2 (fun o0 o1 o2 o3 o4 o5 => Q (.exit 0) (X_aj_0_exit0 cm ge gg gm gq gu gv gb gd gh gj o0 o1 o2 o3 o4 o5)) (fun o0 o1 o2 o3 o4 o5 => Q .ret (X_aj_0_ret cm ge gg gm gq gu gv gb gd gh gj o0 o1 o2 o3 o4 o5))) (fun _ h => h) (by kernel_rfl) (fun f v hv => ?_) (fuel := fu) (v0 := (ic, ik, iz, ir, io, gy)) h
  refine QM_ok (bs := [3, 4, 5, 6, 7, 8, 9, 10, 11, 12]) (ms := [0, 1, 2, 3]) (nm := 4) ?_
  refine vwp_std hX rfl (tr := (fun _ _ _ => False)) (fun _ _ _ h => h.elim) ?_
  refine Eq.mpr (N_aj_0 cm ge gg gm gq gu gv gb gd gh gj v.1 v.2.1 v.2.2.1 v.2.2.2.1 v.2.2.2.2.1 v.2.2.2.2.2 _) ?_
  exact BM_aj_0 cm ge gg gm gq gu gv gb gd gh gj v.1 v.2.1 v.2.2.1 v.2.2.2.1 v.2.2.2.2.1 v.2.2.2.2.2 (fun w0 w1 w2 w3 w4 w5 h => ⟨(w0, w1, w2, w3, w4, w5), rfl, h⟩) (fun _ _ _ _ _ _ h => h) (fun _ _ _ _ _ _ h => h) hv
def T_aj (cm ge gg gm : Int) (gq : Nat) (gu gv : Nat -> Int) (gb gd gh gj : Int) (k : Nat) (st : VS) (Q : Exit -> VS -> Prop) : Prop := match k with
  | 0 => TL [3, 4, 5, 6, 7, 8, 9, 10, 11, 12] [0, 1, 2, 3] 4 (convs st []) (fun st => S_aj_0 cm ge gg gm gq gu gv gb gd gh gj (intOf (tAt st 7)) (intOf (tAt st 8)) (intOf (tAt st 9)) (intOf (tAt st 10)) (intOf (tAt st 11)) (intOf (tAt st 12))) (fun st => W_aj_0 cm ge gg gm gq gu gv gb gd gh gj fuel (intOf (tAt st 7)) (intOf (tAt st 8)) (intOf (tAt st 9)) (intOf (tAt st 10)) (intOf (tAt st 11)) (intOf (tAt st 12)) (fun o0 o1 o2 o3 o4 o5 => Q (.exit 0) (X_aj_0_exit0 cm ge gg gm gq gu gv gb gd gh gj o0 o1 o2 o3 o4 o5)) (fun o0 o1 o2 o3 o4 o5 => Q .ret (X_aj_0_ret cm ge gg gm gq gu gv gb gd gh gj o0 o1 o2 o3 o4 o5)))
  | _ => False
theorem TS_aj {X : Cx} (hX : Std Tryz.prog tab (envL G_aj) X) (b : Code) (hb : b = bodyOf Tryz.f41) (cm ge gg gm : Int) (gq : Nat) (gu gv : Nat -> Int) (gb gd gh gj : Int) (j : Nat) (st : VS) (Q : Exit -> VS -> Prop) (h : T_aj cm ge gg gm gq gu gv gb gd gh gj j st Q) : TrK X b j st Q := by
  unfold T_aj at h
  split at h
  · exact TL_ok h (fun h' => L_aj_0 hX b hb cm ge gg gm gq gu gv gb gd gh gj _ _ _ _ _ _ _ Q h')
  · exact h.elim
def as_aj (cm ge gg gm : Int) (gq : Nat) (gu gv : Nat -> Int) (gb gd gh gj : Int) : List AV := [AV.agg [AV.int .i64 cm, AV.int .i64 ge, AV.int .i64 gg, AV.int .i64 gm, AV.rs none gq [CF.I .i64 gu, CF.I .i64 gv]], AV.agg [AV.int .i64 gb, AV.int .i64 gd], AV.agg [AV.int .i64 gh, AV.int .i64 gj]]
theorem N_aj (cm ge gg gm : Int) (gq : Nat) (gu gv : Nat -> Int) (gb gd gh gj : Int) (K : AV -> Prop) : vwp tab (envL G_aj) (T_aj cm ge gg gm gq gu gv gb gd gh gj) 0 (bodyOf Tryz.f41) (entry (as_aj cm ge gg gm gq gu gv gb gd gh gj) 147) (fnPost tab [.cell 6 81] fun v s => K (v.frz s.mem)) = B_aj cm ge gg gm gq gu gv gb gd gh gj (fun r0 r1 r2 r3 r4 r5 r6 => K (AV.agg [AV.bool r0, AV.int .i64 r1, AV.bool r2, AV.int .i64 r3, AV.bool r4, AV.int .i64 r5, AV.bool r6])) (fun p0 p1 p2 p3 p4 p5 y0 y1 => S_aj_0 cm ge gg gm gq gu gv gb gd gh gj p0 p1 p2 p3 p4 p5 = S_aj_0 cm ge gg gm gq gu gv gb gd gh gj p0 p1 p2 p3 p4 p5 /\ W_aj_0 cm ge gg gm gq gu gv gb gd gh gj fuel p0 p1 p2 p3 p4 p5 y0 y1) := by kernel_rfl
theorem BL_aj (cm ge gg gm : Int) (gq : Nat) (gu gv : Nat -> Int) (gb gd gh gj : Int) {K0 : Bool -> Int -> Bool -> Int -> Bool -> Int -> Bool -> Prop} : B_aj cm ge gg gm gq gu gv gb gd gh gj K0 (W_aj_0 cm ge gg gm gq gu gv gb gd gh gj fuel) -> B_aj cm ge gg gm gq gu gv gb gd gh gj K0 (fun p0 p1 p2 p3 p4 p5 y0 y1 => S_aj_0 cm ge gg gm gq gu gv gb gd gh gj p0 p1 p2 p3 p4 p5 = S_aj_0 cm ge gg gm gq gu gv gb gd gh gj p0 p1 p2 p3 p4 p5 /\ W_aj_0 cm ge gg gm gq gu gv gb gd gh gj fuel p0 p1 p2 p3 p4 p5 y0 y1) := by
  unfold B_aj
  repeat' first
    | exact id
    | refine Ts_imp ?_
    | refine cond_imp ?_ ?_
    | refine and_imp' ?_
    | refine fun h => ⟨rfl, WM_aj_0 _ _ _ _ _ _ _ _ _ _ _  (fun _ _ _ _ _ _ => ?_) (fun _ _ _ _ _ _ => ?_) _ _ _ _ _ _ _  h⟩
def g_aj : List AV -> Option (Prop × RT)
  | [AV.agg [AV.int .i64 cm, AV.int .i64 ge, AV.int .i64 gg, AV.int .i64 gm, AV.rs sq0 sn0 sc0], AV.agg [AV.int .i64 gb, AV.int .i64 gd], AV.agg [AV.int .i64 gh, AV.int .i64 gj]] => cond (kindsOK [KC.I .i64, KC.I .i64] sc0) (some (P_aj cm ge gg gm (nOf sn0 sc0) (colI sc0 0) (colI sc0 1) gb gd gh gj, RT.leaf (AV.agg [AV.bool (F_aj_0 cm ge gg gm (nOf sn0 sc0) (colI sc0 0) (colI sc0 1) gb gd gh gj), AV.int .i64 (F_aj_1 cm ge gg gm (nOf sn0 sc0) (colI sc0 0) (colI sc0 1) gb gd gh gj), AV.bool (F_aj_2 cm ge gg gm (nOf sn0 sc0) (colI sc0 0) (colI sc0 1) gb gd gh gj), AV.int .i64 (F_aj_3 cm ge gg gm (nOf sn0 sc0) (colI sc0 0) (colI sc0 1) gb gd gh gj), AV.bool (F_aj_4 cm ge gg gm (nOf sn0 sc0) (colI sc0 0) (colI sc0 1) gb gd gh gj), AV.int .i64 (F_aj_5 cm ge gg gm (nOf sn0 sc0) (colI sc0 0) (colI sc0 1) gb gd gh gj), AV.bool (F_aj_6 cm ge gg gm (nOf sn0 sc0) (colI sc0 0) (colI sc0 1) gb gd gh gj)]))) none
  | _ => none
theorem S_aj : SpecOK Tryz.prog 41 (.pure g_aj) := by
 intro xs p r h hp E w vs hr hv; unfold g_aj at h; split at h
 · rename_i cm ge gg gm sq0 sn0 sc0 gb gd gh gj
   obtain ⟨hk0, h⟩ := cond_some h
   obtain ⟨rfl, rfl⟩ := some_pair h
   have hG := (show SpecsOK Tryz.prog G_aj from ⟨S_bi, S_b6, S_dh, S_bp, S_ag, S_ce, S_fb, S_a8, S_eh, S_dj, trivial⟩)
   have hv' := ((AV.les.cons (AV.le.agg (AV.les.cons (AV.le.refl _) (AV.les.cons (AV.le.refl _) (AV.les.cons (AV.le.refl _) (AV.les.cons (AV.le.refl _) (AV.les.cons (AV.le.rs hk0) AV.les.nil)))))) (AV.les.cons (AV.le.refl _) (AV.les.cons (AV.le.refl _) AV.les.nil))) _ _ hv : VRs E.bare (as_aj cm ge gg gm (nOf sn0 sc0) (colI sc0 0) (colI sc0 1) gb gd gh gj) vs)
   refine walk_pure' (c := bodyOf Tryz.f41) (rs := [.cell 6 81]) (ys := as_aj cm ge gg gm (nOf sn0 sc0) (colI sc0 0) (colI sc0 1) gb gd gh gj) tab_ok (envL_ok hG) Tryz.func41 rfl (by kernel_rfl) rfl (by decide) (fun X hX hrho => ?_) E w vs hr hv'
   rw [Tryz.ntmps41]
   refine vwp_std hX rfl (tr := T_aj cm ge gg gm (nOf sn0 sc0) (colI sc0 0) (colI sc0 1) gb gd gh gj) (fun j st Q h => TS_aj hX _ rfl cm ge gg gm (nOf sn0 sc0) (colI sc0 0) (colI sc0 1) gb gd gh gj j st Q h) (Eq.mpr (N_aj cm ge gg gm (nOf sn0 sc0) (colI sc0 0) (colI sc0 1) gb gd gh gj (fun x => x = _)) ?_)
   exact BL_aj cm ge gg gm (nOf sn0 sc0) (colI sc0 0) (colI sc0 1) gb gd gh gj (H_aj cm ge gg gm (nOf sn0 sc0) (colI sc0 0) (colI sc0 1) gb gd gh gj hp rfl)
 · cases h
def G_do : List (Nat × Ag.Spec) := [(30, .pure g_fr), (31, .pure g_fj), (32, .pure g_a7), (36, .pure g_eg), (40, .pure g_bg), (41, .pure g_aj)]
def as_do (cm ge gg gm : Int) (gq : Nat) (gu gv : Nat -> Int) (gb gd gh gj : Int) : List AV := [AV.agg [AV.int .i64 cm, AV.int .i64 ge, AV.int .i64 gg, AV.int .i64 gm, AV.rs none gq [CF.I .i64 gu, CF.I .i64 gv]], AV.agg [AV.int .i64 gb, AV.int .i64 gd], AV.agg [AV.int .i64 gh, AV.int .i64 gj]]
theorem N_do (cm ge gg gm : Int) (gq : Nat) (gu gv : Nat -> Int) (gb gd gh gj : Int) (K : AV -> Prop) : vwp tab (envL G_do) (fun _ _ _ => False) 0 (bodyOf Tryz.f5) (entry (as_do cm ge gg gm gq gu gv gb gd gh gj) 31) (fnPost tab [.tmp 6] fun v s => K (v.frz s.mem)) = B_do cm ge gg gm gq gu gv gb gd gh gj (fun r0 => K (AV.bool r0))  := by kernel_rfl
def g_do : List AV -> Option (Prop × RT)
  | [AV.agg [AV.int .i64 cm, AV.int .i64 ge, AV.int .i64 gg, AV.int .i64 gm, AV.rs sq0 sn0 sc0], AV.agg [AV.int .i64 gb, AV.int .i64 gd], AV.agg [AV.int .i64 gh, AV.int .i64 gj]] => cond (kindsOK [KC.I .i64, KC.I .i64] sc0) (some (P_do cm ge gg gm (nOf sn0 sc0) (colI sc0 0) (colI sc0 1) gb gd gh gj, RT.leaf (AV.bool (F_do_0 cm ge gg gm (nOf sn0 sc0) (colI sc0 0) (colI sc0 1) gb gd gh gj)))) none
  | _ => none
theorem S_do : SpecOK Tryz.prog 5 (.pure g_do) := by
 intro xs p r h hp E w vs hr hv; unfold g_do at h; split at h
 · rename_i cm ge gg gm sq0 sn0 sc0 gb gd gh gj
   obtain ⟨hk0, h⟩ := cond_some h
   obtain ⟨rfl, rfl⟩ := some_pair h
   exact walk0 (ys := as_do cm ge gg gm (nOf sn0 sc0) (colI sc0 0) (colI sc0 1) gb gd gh gj) (rs := [.tmp 6]) tab_ok (show SpecsOK Tryz.prog G_do from ⟨S_fr, S_fj, S_a7, S_eg, S_bg, S_aj, trivial⟩) Tryz.func5 rfl (by kernel_rfl) rfl (by decide) Tryz.ntmps5 (N_do cm ge gg gm (nOf sn0 sc0) (colI sc0 0) (colI sc0 1) gb gd gh gj) (H_do cm ge gg gm (nOf sn0 sc0) (colI sc0 0) (colI sc0 1) gb gd gh gj hp rfl) E w vs hr ((AV.les.cons (AV.le.agg (AV.les.cons (AV.le.refl _) (AV.les.cons (AV.le.refl _) (AV.les.cons (AV.le.refl _) (AV.les.cons (AV.le.refl _) (AV.les.cons (AV.le.rs hk0) AV.les.nil)))))) (AV.les.cons (AV.le.refl _) (AV.les.cons (AV.le.refl _) AV.les.nil))) _ _ hv : VRs E.bare (as_do cm ge gg gm (nOf sn0 sc0) (colI sc0 0) (colI sc0 1) gb gd gh gj) vs)
 · cases h

end
end Go.Proofs.YtbcegholicnflaaGreat
