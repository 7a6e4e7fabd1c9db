import Derived.Test.YtbcegholicnflaaGreatCastP
import Derived.Test.YtbcegholicnflaaGreatTabB
import Derived.Test.YtbcegholicnflaaGreatIterZ
import Derived.Test.YtbcegholicnflaaGreatExtZ
set_option linter.unusedVariables false
set_option linter.unusedSimpArgs false
set_option maxRecDepth 100000
namespace Go.Proofs.YtbcegholicnflaaGreat
open Go.RowKit Go.Ag
noncomputable section

def G_d9 : List (Nat × Ag.Spec) := []
def as_d9 (a0 : Int) : List AV := [AV.int .u64 a0]
theorem N_d9 (a0 : Int) (K : AV -> Prop) : vwp tab (envL G_d9) (fun _ _ _ => False) 0 (bodyOf Tryz.f238) (entry (as_d9 a0) 25) (fnPost tab [.tmp 2] fun v s => K (v.frz s.mem)) = B_d9 a0 (fun r0 => K (AV.int .i64 r0))  := by kernel_rfl
def g_d9 : List AV -> Option (Prop × RT)
  | [AV.int .u64 a0] => some (P_d9 a0, RT.leaf (AV.int .i64 (F_d9_0 a0)))
  | _ => none
theorem S_d9 : SpecOK Tryz.prog 238 (.pure g_d9) := by
 intro xs p r h hp E w vs hr hv; unfold g_d9 at h; split at h
 · rename_i a0
   obtain ⟨rfl, rfl⟩ := some_pair h
   exact walk0 (ys := as_d9 a0) (rs := [.tmp 2]) tab_ok (show SpecsOK Tryz.prog G_d9 from trivial) Tryz.func238 rfl (by kernel_rfl) rfl (by decide) Tryz.ntmps238 (N_d9 a0) (H_d9 a0 hp rfl) E w vs hr hv
 · cases h
def G_ak : List (Nat × Ag.Spec) := [(238, .pure g_d9)]
def as_ak (a0 : Int) : List AV := [AV.int .u64 a0]
theorem N_ak (a0 : Int) (K : AV -> Prop) : vwp tab (envL G_ak) (fun _ _ _ => False) 0 (bodyOf Tryz.f291) (entry (as_ak a0) 6) (fnPost tab [.tmp 2] fun v s => K (v.frz s.mem)) = B_ak a0 (fun r0 => K (AV.int .i64 r0))  := by kernel_rfl
def g_ak : List AV -> Option (Prop × RT)
  | [AV.int .u64 a0] => some (P_ak a0, RT.leaf (AV.int .i64 (F_ak_0 a0)))
  | _ => none
theorem S_ak : SpecOK Tryz.prog 291 (.pure g_ak) := by
 intro xs p r h hp E w vs hr hv; unfold g_ak at h; split at h
 · rename_i a0
   obtain ⟨rfl, rfl⟩ := some_pair h
   exact walk0 (ys := as_ak a0) (rs := [.tmp 2]) tab_ok (show SpecsOK Tryz.prog G_ak from ⟨S_d9, trivial⟩) Tryz.func291 rfl (by kernel_rfl) rfl (by decide) Tryz.ntmps291 (N_ak a0) (H_ak a0 hp rfl) E w vs hr hv
 · cases h
def G_dy : List (Nat × Ag.Spec) := []
def as_dy (a0 a1 : Int) : List AV := [AV.int .u64 a0, AV.int .u64 a1]
theorem N_dy (a0 a1 : Int) (K : AV -> Prop) : vwp tab (envL G_dy) (fun _ _ _ => False) 0 (bodyOf Tryz.f224) (entry (as_dy a0 a1) 51) (fnPost tab [.tmp 4, .tmp 5] fun v s => K (v.frz s.mem)) = B_dy a0 a1 (fun r0 r1 => K (AV.tup [AV.int .u64 r0, AV.int .u64 r1]))  := by kernel_rfl
def g_dy : List AV -> Option (Prop × RT)
  | [AV.int .u64 a0, AV.int .u64 a1] => some (P_dy a0 a1, RT.leaf (AV.tup [AV.int .u64 (F_dy_0 a0 a1), AV.int .u64 (F_dy_1 a0 a1)]))
  | _ => none
theorem S_dy : SpecOK Tryz.prog 224 (.pure g_dy) := by
 intro xs p r h hp E w vs hr hv; unfold g_dy at h; split at h
 · rename_i a0 a1
   obtain ⟨rfl, rfl⟩ := some_pair h
   exact walk0 (ys := as_dy a0 a1) (rs := [.tmp 4, .tmp 5]) tab_ok (show SpecsOK Tryz.prog G_dy from trivial) Tryz.func224 rfl (by kernel_rfl) rfl (by decide) Tryz.ntmps224 (N_dy a0 a1) (H_dy a0 a1 hp rfl) E w vs hr hv
 · cases h
def G_de : List (Nat × Ag.Spec) := []
def as_de (a0 : Int) : List AV := [AV.int .i64 a0]
theorem N_de (a0 : Int) (K : AV -> Prop) : vwp tab (envL G_de) (fun _ _ _ => False) 0 (bodyOf Tryz.f156) (entry (as_de a0) 6) (fnPost tab [.tmp 2] fun v s => K (v.frz s.mem)) = B_de a0 (fun r0 => K (AV.bool r0))  := by kernel_rfl
def g_de : List AV -> Option (Prop × RT)
  | [AV.int .i64 a0] => some (P_de a0, RT.leaf (AV.bool (F_de_0 a0)))
  | _ => none
theorem S_de : SpecOK Tryz.prog 156 (.pure g_de) := by
 intro xs p r h hp E w vs hr hv; unfold g_de at h; split at h
 · rename_i a0
   obtain ⟨rfl, rfl⟩ := some_pair h
   exact walk0 (ys := as_de a0) (rs := [.tmp 2]) tab_ok (show SpecsOK Tryz.prog G_de from trivial) Tryz.func156 rfl (by kernel_rfl) rfl (by decide) Tryz.ntmps156 (N_de a0) (H_de a0 hp rfl) E w vs hr hv
 · cases h
def G_cl : List (Nat × Ag.Spec) := [(156, .pure g_de)]
def as_cl (a0 a1 : Int) : List AV := [AV.int .i64 a0, AV.int .i64 a1]
theorem N_cl (a0 a1 : Int) (K : AV -> Prop) : vwp tab (envL G_cl) (fun _ _ _ => False) 0 (bodyOf Tryz.f81) (entry (as_cl a0 a1) 20) (fnPost tab [.tmp 4] fun v s => K (v.frz s.mem)) = B_cl a0 a1 (fun r0 => K (AV.int .i64 r0))  := by kernel_rfl
def g_cl : List AV -> Option (Prop × RT)
  | [AV.int .i64 a0, AV.int .i64 a1] => some (P_cl a0 a1, RT.leaf (AV.int .i64 (F_cl_0 a0 a1)))
  | _ => none
theorem S_cl : SpecOK Tryz.prog 81 (.pure g_cl) := by
 intro xs p r h hp E w vs hr hv; unfold g_cl at h; split at h
 · rename_i a0 a1
   obtain ⟨rfl, rfl⟩ := some_pair h
   exact walk0 (ys := as_cl a0 a1) (rs := [.tmp 4]) tab_ok (show SpecsOK Tryz.prog G_cl from ⟨S_de, trivial⟩) Tryz.func81 rfl (by kernel_rfl) rfl (by decide) Tryz.ntmps81 (N_cl a0 a1) (H_cl a0 a1 hp rfl) E w vs hr hv
 · cases h
def G_a9 : List (Nat × Ag.Spec) := [(291, .pure g_ak)]
def S_a9_0 (a0 a1 a2 il ju : Int) : VS := ⟨slotsN 135 0 [(2, AV.int .u64 (ishl .u64 a2 (iconv .u64 (F_ak_0 a2)))), (6, AV.int .u64 0), (7, AV.int .u64 0), (8, AV.int .u64 (iconv .u64 (F_ak_0 a2))), (9, AV.int .u64 (ishr .u64 (ishl .u64 a2 (iconv .u64 (F_ak_0 a2))) 32)), (10, AV.int .u64 (iand .u64 (ishl .u64 a2 (iconv .u64 (F_ak_0 a2))) 4294967295)), (11, AV.int .u64 (ior .u64 (ishl .u64 a0 (iconv .u64 (F_ak_0 a2))) (ishr .u64 a1 (isub .u64 64 (iconv .u64 (F_ak_0 a2)))))), (13, AV.int .u64 (ishr .u64 (ishl .u64 a1 (iconv .u64 (F_ak_0 a2))) 32)), (14, AV.int .u64 (iand .u64 (ishl .u64 a1 (iconv .u64 (F_ak_0 a2))) 4294967295)), (15, AV.int .u64 il), (16, AV.int .u64 ju)], [], false, 0⟩
def X_a9_0_exit0 (a0 a1 a2 o0 o1 : Int) : VS := ⟨slotsN 135 0 [(2, AV.int .u64 (ishl .u64 a2 (iconv .u64 (F_ak_0 a2)))), (6, AV.int .u64 0), (7, AV.int .u64 0), (8, AV.int .u64 (iconv .u64 (F_ak_0 a2))), (9, AV.int .u64 (ishr .u64 (ishl .u64 a2 (iconv .u64 (F_ak_0 a2))) 32)), (10, AV.int .u64 (iand .u64 (ishl .u64 a2 (iconv .u64 (F_ak_0 a2))) 4294967295)), (11, AV.int .u64 (ior .u64 (ishl .u64 a0 (iconv .u64 (F_ak_0 a2))) (ishr .u64 a1 (isub .u64 64 (iconv .u64 (F_ak_0 a2)))))), (13, AV.int .u64 (ishr .u64 (ishl .u64 a1 (iconv .u64 (F_ak_0 a2))) 32)), (14, AV.int .u64 (iand .u64 (ishl .u64 a1 (iconv .u64 (F_ak_0 a2))) 4294967295)), (15, AV.int .u64 o0), (16, AV.int .u64 o1)], [], false, 0⟩
theorem N_a9_0 (a0 a1 a2 il ju : Int) (Q : Exit -> VS -> Prop) : vwp tab (envL G_a9) (fun _ _ _ => False) 0 (lbody (loopAt (bodyOf Tryz.f262) 0)) (S_a9_0 a0 a1 a2 il ju) (QM [2, 6, 7, 8, 9, 10, 11, 13, 14, 15, 16] [] 0 Q) = B_a9_0 a0 a1 a2 il ju (fun w0 w1 => Q .normal (S_a9_0 a0 a1 a2 w0 w1)) (fun o0 o1 => Q (.exit 0) (X_a9_0_exit0 a0 a1 a2 o0 o1))  := by kernel_rfl
theorem L_a9_0 {X : Cx} (hX : Std Tryz.prog tab (envL G_a9) X) (b : Code) (hb : b = bodyOf Tryz.f262) (a0 a1 a2 : Int) (fu : Nat) (il ju : Int) (Q : Exit -> VS -> Prop) (h : W_a9_0 a0 a1 a2 fu il ju (fun o0 o1 => Q (.exit 0) (X_a9_0_exit0 a0 a1 a2 o0 o1))) : TrK X b 0 (S_a9_0 a0 a1 a2 il ju) Q := by
  subst hb
  refine loop_ok (V := Int × Int) (fun v => S_a9_0 a0 a1 a2 v.1 v.2) (fun f v => W_a9_0 a0 a1 a2 f v.1 v.2 (fun o0 o1 => Q (.exit 0) (X_a9_0_exit0 a0 a1 a2 o0 o1))) (fun _ h => h) (by kernel_rfl) (fun f v hv => ?_) (fuel := fu) (v0 := (il, ju)) h
  refine QM_ok (bs := [2, 6, 7, 8, 9, 10, 11, 13, 14, 15, 16]) (ms := []) (nm := 0) ?_
  refine vwp_std hX rfl (tr := (fun _ _ _ => False)) (fun _ _ _ h => h.elim) ?_
  refine Eq.mpr (N_a9_0 a0 a1 a2 v.1 v.2 _) ?_
  exact BM_a9_0 a0 a1 a2 v.1 v.2 (fun w0 w1 h => ⟨(w0, w1), rfl, h⟩) (fun _ _ h => h) hv
def S_a9_1 (a0 a1 a2 j6 jv j7 jx : Int) : VS := ⟨slotsN 135 0 [(2, AV.int .u64 (ishl .u64 a2 (iconv .u64 (F_ak_0 a2)))), (6, AV.int .u64 0), (7, AV.int .u64 0), (8, AV.int .u64 (iconv .u64 (F_ak_0 a2))), (9, AV.int .u64 (ishr .u64 (ishl .u64 a2 (iconv .u64 (F_ak_0 a2))) 32)), (10, AV.int .u64 (iand .u64 (ishl .u64 a2 (iconv .u64 (F_ak_0 a2))) 4294967295)), (14, AV.int .u64 (iand .u64 (ishl .u64 a1 (iconv .u64 (F_ak_0 a2))) 4294967295)), (15, AV.int .u64 j6), (16, AV.int .u64 jv), (17, AV.int .u64 j7), (18, AV.int .u64 jx)], [], false, 0⟩
def X_a9_1_exit2 (a0 a1 a2 o0 o1 o2 o3 : Int) : VS := ⟨slotsN 135 0 [(2, AV.int .u64 (ishl .u64 a2 (iconv .u64 (F_ak_0 a2)))), (6, AV.int .u64 0), (7, AV.int .u64 0), (8, AV.int .u64 (iconv .u64 (F_ak_0 a2))), (9, AV.int .u64 (ishr .u64 (ishl .u64 a2 (iconv .u64 (F_ak_0 a2))) 32)), (10, AV.int .u64 (iand .u64 (ishl .u64 a2 (iconv .u64 (F_ak_0 a2))) 4294967295)), (14, AV.int .u64 (iand .u64 (ishl .u64 a1 (iconv .u64 (F_ak_0 a2))) 4294967295)), (15, AV.int .u64 o0), (16, AV.int .u64 o1), (17, AV.int .u64 o2), (18, AV.int .u64 o3)], [], false, 0⟩
theorem N_a9_1 (a0 a1 a2 j6 jv j7 jx : Int) (Q : Exit -> VS -> Prop) : vwp tab (envL G_a9) (fun _ _ _ => False) 0 (lbody (loopAt (bodyOf Tryz.f262) 1)) (S_a9_1 a0 a1 a2 j6 jv j7 jx) (QM [2, 6, 7, 8, 9, 10, 14, 15, 16, 17, 18] [] 0 Q) = B_a9_1 a0 a1 a2 j6 jv j7 jx (fun w0 w1 w2 w3 => Q .normal (S_a9_1 a0 a1 a2 w0 w1 w2 w3)) (fun o0 o1 o2 o3 => Q (.exit 2) (X_a9_1_exit2 a0 a1 a2 o0 o1 o2 o3))  := by kernel_rfl
theorem L_a9_1 {X : Cx} (hX : Std Tryz.prog tab (envL G_a9) X) (b : Code) (hb : b = bodyOf Tryz.f262) (a0 a1 a2 : Int) (fu : Nat) (j6 jv j7 jx : Int) (Q : Exit -> VS -> Prop) (h : W_a9_1 a0 a1 a2 fu j6 jv j7 jx (fun o0 o1 o2 o3 => Q (.exit 2) (X_a9_1_exit2 a0 a1 a2 o0 o1 o2 o3))) : TrK X b 1 (S_a9_1 a0 a1 a2 j6 jv j7 jx) Q := by
  subst hb
  refine loop_ok (V := Int × Int × Int × Int) (fun v => S_a9_1 a0 a1 a2 v.1 v.2.1 v.2.2.1 v.2.2.2) (fun f v => W_a9_1 a0 a1 a2 f v.1 v.2.1 v.2.2.1 v.2.2.2 (fun o0 o1 o2 o3 => Q (.exit 2) (X_a9_1_exit2 a0 a1 a2 o0 o1 o2 o3))) (fun _ h => h) (by kernel_rfl) (fun f v hv => ?_) (fuel := fu) (v0 := (j6, jv, j7, jx)) h
  refine QM_ok (bs := [2, 6, 7, 8, 9, 10, 14, 15, 16, 17, 18]) (ms := []) (nm := 0) ?_
  refine vwp_std hX rfl (tr := (fun _ _ _ => False)) (fun _ _ _ h => h.elim) ?_
  refine Eq.mpr (N_a9_1 a0 a1 a2 v.1 v.2.1 v.2.2.1 v.2.2.2 _) ?_
  exact BM_a9_1 a0 a1 a2 v.1 v.2.1 v.2.2.1 v.2.2.2 (fun w0 w1 w2 w3 h => ⟨(w0, w1, w2, w3), rfl, h⟩) (fun _ _ _ _ h => h) hv
def T_a9 (a0 a1 a2 : Int) (k : Nat) (st : VS) (Q : Exit -> VS -> Prop) : Prop := match k with
  | 0 => TL [2, 6, 7, 8, 9, 10, 11, 13, 14, 15, 16] [] 0 (convs st []) (fun st => S_a9_0 a0 a1 a2 (intOf (tAt st 15)) (intOf (tAt st 16))) (fun st => W_a9_0 a0 a1 a2 fuel (intOf (tAt st 15)) (intOf (tAt st 16)) (fun o0 o1 => Q (.exit 0) (X_a9_0_exit0 a0 a1 a2 o0 o1)))
  | 1 => TL [2, 6, 7, 8, 9, 10, 14, 15, 16, 17, 18] [] 0 (convs st []) (fun st => S_a9_1 a0 a1 a2 (intOf (tAt st 15)) (intOf (tAt st 16)) (intOf (tAt st 17)) (intOf (tAt st 18))) (fun st => W_a9_1 a0 a1 a2 fuel (intOf (tAt st 15)) (intOf (tAt st 16)) (intOf (tAt st 17)) (intOf (tAt st 18)) (fun o0 o1 o2 o3 => Q (.exit 2) (X_a9_1_exit2 a0 a1 a2 o0 o1 o2 o3)))
  | _ => False
theorem TS_a9 {X : Cx} (hX : Std Tryz.prog tab (envL G_a9) X) (b : Code) (hb : b = bodyOf Tryz.f262) (a0 a1 a2 : Int) (j : Nat) (st : VS) (Q : Exit -> VS -> Prop) (h : T_a9 a0 a1 a2 j st Q) : TrK X b j st Q := by
  unfold T_a9 at h
  split at h
  · exact TL_ok h (fun h' => L_a9_0 hX b hb a0 a1 a2 _ _ _ Q h')
  · exact TL_ok h (fun h' => L_a9_1 hX b hb a0 a1 a2 _ _ _ _ _ Q h')
  · exact h.elim
def as_a9 (a0 a1 a2 : Int) : List AV := [AV.int .u64 a0, AV.int .u64 a1, AV.int .u64 a2]
theorem N_a9 (a0 a1 a2 : Int) (K : AV -> Prop) : vwp tab (envL G_a9) (T_a9 a0 a1 a2) 0 (bodyOf Tryz.f262) (entry (as_a9 a0 a1 a2) 135) (fnPost tab [.tmp 6, .tmp 7] fun v s => K (v.frz s.mem)) = B_a9 a0 a1 a2 (fun r0 r1 => K (AV.tup [AV.int .u64 r0, AV.int .u64 r1])) (fun p0 p1 y0 => S_a9_0 a0 a1 a2 p0 p1 = S_a9_0 a0 a1 a2 p0 p1 /\ W_a9_0 a0 a1 a2 fuel p0 p1 y0) (fun p0 p1 p2 p3 y0 => S_a9_1 a0 a1 a2 p0 p1 p2 p3 = S_a9_1 a0 a1 a2 p0 p1 p2 p3 /\ W_a9_1 a0 a1 a2 fuel p0 p1 p2 p3 y0) := by kernel_rfl
theorem BL_a9 (a0 a1 a2 : Int) {K0 : Int -> Int -> Prop} : B_a9 a0 a1 a2 K0 (W_a9_0 a0 a1 a2 fuel) (W_a9_1 a0 a1 a2 fuel) -> B_a9 a0 a1 a2 K0 (fun p0 p1 y0 => S_a9_0 a0 a1 a2 p0 p1 = S_a9_0 a0 a1 a2 p0 p1 /\ W_a9_0 a0 a1 a2 fuel p0 p1 y0) (fun p0 p1 p2 p3 y0 => S_a9_1 a0 a1 a2 p0 p1 p2 p3 = S_a9_1 a0 a1 a2 p0 p1 p2 p3 /\ W_a9_1 a0 a1 a2 fuel p0 p1 p2 p3 y0) := by
  unfold B_a9
  repeat' first
    | exact id
    | refine Ts_imp ?_
    | refine cond_imp ?_ ?_
    | refine and_imp' ?_
    | refine fun h => ⟨rfl, WM_a9_0 _ _ _  (fun _ _ => ?_) _ _ _  h⟩
    | refine fun h => ⟨rfl, WM_a9_1 _ _ _  (fun _ _ _ _ => ?_) _ _ _ _ _  h⟩
def g_a9 : List AV -> Option (Prop × RT)
  | [AV.int .u64 a0, AV.int .u64 a1, AV.int .u64 a2] => some (P_a9 a0 a1 a2, RT.leaf (AV.tup [AV.int .u64 (F_a9_0 a0 a1 a2), AV.int .u64 (F_a9_1 a0 a1 a2)]))
  | _ => none
theorem S_a9 : SpecOK Tryz.prog 262 (.pure g_a9) := by
 intro xs p r h hp E w vs hr hv; unfold g_a9 at h; split at h
 · rename_i a0 a1 a2
   obtain ⟨rfl, rfl⟩ := some_pair h
   have hG := (show SpecsOK Tryz.prog G_a9 from ⟨S_ak, trivial⟩)
   refine walk_pure' (c := bodyOf Tryz.f262) (rs := [.tmp 6, .tmp 7]) (ys := as_a9 a0 a1 a2) tab_ok (envL_ok hG) Tryz.func262 rfl (by kernel_rfl) rfl (by decide) (fun X hX hrho => ?_) E w vs hr hv
   rw [Tryz.ntmps262]
   refine vwp_std hX rfl (tr := T_a9 a0 a1 a2) (fun j st Q h => TS_a9 hX _ rfl a0 a1 a2 j st Q h) (Eq.mpr (N_a9 a0 a1 a2 (fun x => x = _)) ?_)
   exact BL_a9 a0 a1 a2 (H_a9 a0 a1 a2 hp rfl)
 · cases h
def G_bv : List (Nat × Ag.Spec) := []
def S_bv_0 (gp : Nat) (a0 : Nat -> Int) (ik : Int) : VS := ⟨slotsN 18 0 [(2, AV.int .i64 0), (3, AV.int .i64 0), (6, AV.rs none gp [CF.I .i64 a0]), (7, AV.int .i64 ((gp : Nat) : Int)), (8, AV.int .i64 ik)], [], false, 0⟩
def X_bv_0_exit0 (gp : Nat) (a0 : Nat -> Int) (o0 : Int) : VS := ⟨slotsN 18 0 [(2, AV.int .i64 0), (3, AV.int .i64 0), (6, AV.rs none gp [CF.I .i64 a0]), (7, AV.int .i64 ((gp : Nat) : Int)), (8, AV.int .i64 o0)], [], false, 0⟩
def X_bv_0_ret (gp : Nat) (a0 : Nat -> Int) (o0 o1 : Int) : VS := ⟨slotsN 18 0 [(2, AV.int .i64 o0), (3, AV.int .i64 0), (6, AV.rs none gp [CF.I .i64 a0]), (7, AV.int .i64 ((gp : Nat) : Int)), (8, AV.int .i64 o1)], [], false, 0⟩
theorem N_bv_0 (gp : Nat) (a0 : Nat -> Int) (ik : Int) (Q : Exit -> VS -> Prop) : vwp tab (envL G_bv) (fun _ _ _ => False) 0 (lbody (loopAt (bodyOf Tryz.f80) 0)) (S_bv_0 gp a0 ik) (QM [2, 3, 6, 7, 8] [] 0 Q) = B_bv_0 gp a0 ik (fun w0 => Q .normal (S_bv_0 gp a0 w0)) (fun o0 => Q (.exit 0) (X_bv_0_exit0 gp a0 o0)) (fun o0 o1 => Q .ret (X_bv_0_ret gp a0 o0 o1))  := by kernel_rfl
theorem L_bv_0 {X : Cx} (hX : Std Tryz.prog tab (envL G_bv) X) (b : Code) (hb : b = bodyOf Tryz.f80) (gp : Nat) (a0 : Nat -> Int) (fu : Nat) (ik : Int) (Q : Exit -> VS -> Prop) (h : W_bv_0 gp a0 fu ik (fun o0 => Q (.exit 0) (X_bv_0_exit0 gp a0 o0)) (fun o0 o1 => Q .ret (X_bv_0_ret gp a0 o0 o1))) : TrK X b 0 (S_bv_0 gp a0 ik) Q := by
  subst hb
  refine loop_ok (V := Int) (fun v => S_bv_0 gp a0 v) (fun f v => W_bv_0 gp a0 f v (fun o0 => Q (.exit 0) (X_bv_0_exit0 gp a0 o0)) (fun o0 o1 => Q .ret (X_bv_0_ret gp a0 o0 o1))) (fun _ h => h) (by kernel_rfl) (fun f v hv => ?_) (fuel := fu) (v0 := (ik)) h
  refine QM_ok (bs := [2, 3, 6, 7, 8]) (ms := []) (nm := 0) ?_
  refine vwp_std hX rfl (tr := (fun _ _ _ => False)) (fun _ _ _ h => h.elim) ?_
  refine Eq.mpr (N_bv_0 gp a0 v _) ?_
  exact BM_bv_0 gp a0 v (fun w0 h => ⟨w0, rfl, h⟩) (fun _ h => h) (fun _ _ h => h) hv
def T_bv (gp : Nat) (a0 : Nat -> Int) (k : Nat) (st : VS) (Q : Exit -> VS -> Prop) : Prop := match k with
  | 0 => TL [2, 3, 6, 7, 8] [] 0 (convs st []) (fun st => S_bv_0 gp a0 (intOf (tAt st 8))) (fun st => W_bv_0 gp a0 fuel (intOf (tAt st 8)) (fun o0 => Q (.exit 0) (X_bv_0_exit0 gp a0 o0)) (fun o0 o1 => Q .ret (X_bv_0_ret gp a0 o0 o1)))
  | _ => False
theorem TS_bv {X : Cx} (hX : Std Tryz.prog tab (envL G_bv) X) (b : Code) (hb : b = bodyOf Tryz.f80) (gp : Nat) (a0 : Nat -> Int) (j : Nat) (st : VS) (Q : Exit -> VS -> Prop) (h : T_bv gp a0 j st Q) : TrK X b j st Q := by
  unfold T_bv at h
  split at h
  · exact TL_ok h (fun h' => L_bv_0 hX b hb gp a0 _ _ Q h')
  · exact h.elim
def as_bv (gp : Nat) (a0 : Nat -> Int) : List AV := [AV.rs none gp [CF.I .i64 a0]]
theorem N_bv (gp : Nat) (a0 : Nat -> Int) (K : AV -> Prop) : vwp tab (envL G_bv) (T_bv gp a0) 0 (bodyOf Tryz.f80) (entry (as_bv gp a0) 18) (fnPost tab [.tmp 2] fun v s => K (v.frz s.mem)) = B_bv gp a0 (fun r0 => K (AV.int .i64 r0)) (fun p0 y0 y1 => S_bv_0 gp a0 p0 = S_bv_0 gp a0 p0 /\ W_bv_0 gp a0 fuel p0 y0 y1) := by kernel_rfl
theorem BL_bv (gp : Nat) (a0 : Nat -> Int) {K0 : Int -> Prop} : B_bv gp a0 K0 (W_bv_0 gp a0 fuel) -> B_bv gp a0 K0 (fun p0 y0 y1 => S_bv_0 gp a0 p0 = S_bv_0 gp a0 p0 /\ W_bv_0 gp a0 fuel p0 y0 y1) := by
  unfold B_bv
  repeat' first
    | exact id
    | refine Ts_imp ?_
    | refine cond_imp ?_ ?_
    | refine and_imp' ?_
    | refine fun h => ⟨rfl, WM_bv_0 _ _  (fun _ => ?_) (fun _ _ => ?_) _ _  h⟩
def g_bv : List AV -> Option (Prop × RT)
  | [AV.rs sq0 sn0 sc0] => cond (kindsOK [KC.I .i64] sc0) (some (P_bv (nOf sn0 sc0) (colI sc0 0), RT.leaf (AV.int .i64 (F_bv_0 (nOf sn0 sc0) (colI sc0 0))))) none
  | _ => none
theorem S_bv : SpecOK Tryz.prog 80 (.pure g_bv) := by
 intro xs p r h hp E w vs hr hv; unfold g_bv at h; split at h
 · rename_i sq0 sn0 sc0
   obtain ⟨hk0, h⟩ := cond_some h
   obtain ⟨rfl, rfl⟩ := some_pair h
   have hG := (show SpecsOK Tryz.prog G_bv from trivial)
   have hv' := ((AV.les.cons (AV.le.rs hk0) AV.les.nil) _ _ hv : VRs E.bare (as_bv (nOf sn0 sc0) (colI sc0 0)) vs)
   refine walk_pure' (c := bodyOf Tryz.f80) (rs := [.tmp 2]) (ys := as_bv (nOf sn0 sc0) (colI sc0 0)) tab_ok (envL_ok hG) Tryz.func80 rfl (by kernel_rfl) rfl (by decide) (fun X hX hrho => ?_) E w vs hr hv'
   rw [Tryz.ntmps80]
   refine vwp_std hX rfl (tr := T_bv (nOf sn0 sc0) (colI sc0 0)) (fun j st Q h => TS_bv hX _ rfl (nOf sn0 sc0) (colI sc0 0) j st Q h) (Eq.mpr (N_bv (nOf sn0 sc0) (colI sc0 0) (fun x => x = _)) ?_)
   exact BL_bv (nOf sn0 sc0) (colI sc0 0) (H_bv (nOf sn0 sc0) (colI sc0 0) hp rfl)
 · cases h
def G_cr : List (Nat × Ag.Spec) := []
def as_cr (a0 : Int) : List AV := [AV.int .u64 a0]
theorem N_cr (a0 : Int) (K : AV -> Prop) : vwp tab (envL G_cr) (fun _ _ _ => False) 0 (bodyOf Tryz.f310) (entry (as_cr a0) 6) (fnPost tab [.tmp 2] fun v s => K (v.frz s.mem)) = B_cr a0 (fun r0 => K (AV.bool r0))  := by kernel_rfl
def g_cr : List AV -> Option (Prop × RT)
  | [AV.int .u64 a0] => some (P_cr a0, RT.leaf (AV.bool (F_cr_0 a0)))
  | _ => none
theorem S_cr : SpecOK Tryz.prog 310 (.pure g_cr) := by
 intro xs p r h hp E w vs hr hv; unfold g_cr at h; split at h
 · rename_i a0
   obtain ⟨rfl, rfl⟩ := some_pair h
   exact walk0 (ys := as_cr a0) (rs := [.tmp 2]) tab_ok (show SpecsOK Tryz.prog G_cr from trivial) Tryz.func310 rfl (by kernel_rfl) rfl (by decide) Tryz.ntmps310 (N_cr a0) (H_cr a0 hp rfl) E w vs hr hv
 · cases h
def G_bt : List (Nat × Ag.Spec) := [(310, .pure g_cr)]
def as_bt (a0 a1 : Int) : List AV := [AV.int .u64 a0, AV.int .u64 a1]
theorem N_bt (a0 a1 : Int) (K : AV -> Prop) : vwp tab (envL G_bt) (fun _ _ _ => False) 0 (bodyOf Tryz.f305) (entry (as_bt a0 a1) 20) (fnPost tab [.tmp 4] fun v s => K (v.frz s.mem)) = B_bt a0 a1 (fun r0 => K (AV.int .i64 r0))  := by kernel_rfl
def g_bt : List AV -> Option (Prop × RT)
  | [AV.int .u64 a0, AV.int .u64 a1] => some (P_bt a0 a1, RT.leaf (AV.int .i64 (F_bt_0 a0 a1)))
  | _ => none
theorem S_bt : SpecOK Tryz.prog 305 (.pure g_bt) := by
 intro xs p r h hp E w vs hr hv; unfold g_bt at h; split at h
 · rename_i a0 a1
   obtain ⟨rfl, rfl⟩ := some_pair h
   exact walk0 (ys := as_bt a0 a1) (rs := [.tmp 4]) tab_ok (show SpecsOK Tryz.prog G_bt from ⟨S_cr, trivial⟩) Tryz.func305 rfl (by kernel_rfl) rfl (by decide) Tryz.ntmps305 (N_bt a0 a1) (H_bt a0 a1 hp rfl) E w vs hr hv
 · cases h
def G_aq : List (Nat × Ag.Spec) := []
def as_aq (cm : Int) (ga : Bool) : List AV := [AV.agg [AV.int .i64 cm, AV.bool ga]]
theorem N_aq (cm : Int) (ga : Bool) (K : AV -> Prop) : vwp tab (envL G_aq) (fun _ _ _ => False) 0 (bodyOf Tryz.f139) (entry (as_aq cm ga) 11) (fnPost tab [.tmp 2, .tmp 3] fun v s => K (v.frz s.mem)) = B_aq cm ga (fun r0 r1 => K (AV.tup [AV.int .i64 r0, AV.bool r1]))  := by kernel_rfl
def g_aq : List AV -> Option (Prop × RT)
  | [AV.agg [AV.int .i64 cm, AV.bool ga]] => some (P_aq cm ga, RT.leaf (AV.tup [AV.int .i64 (F_aq_0 cm ga), AV.bool (F_aq_1 cm ga)]))
  | _ => none
theorem S_aq : SpecOK Tryz.prog 139 (.pure g_aq) := by
 intro xs p r h hp E w vs hr hv; unfold g_aq at h; split at h
 · rename_i cm ga
   obtain ⟨rfl, rfl⟩ := some_pair h
   exact walk0 (ys := as_aq cm ga) (rs := [.tmp 2, .tmp 3]) tab_ok (show SpecsOK Tryz.prog G_aq from trivial) Tryz.func139 rfl (by kernel_rfl) rfl (by decide) Tryz.ntmps139 (N_aq cm ga) (H_aq cm ga hp rfl) E w vs hr hv
 · cases h
def G_dn : List (Nat × Ag.Spec) := []
def as_dn (a0 : Int) : List AV := [AV.int .i64 a0]
theorem N_dn (a0 : Int) (K : AV -> Prop) : vwp tab (envL G_dn) (fun _ _ _ => False) 0 (bodyOf Tryz.f150) (entry (as_dn a0) 10) (fnPost tab [.tmp 2] fun v s => K (v.frz s.mem)) = B_dn a0 (fun r0 => K (AV.int .u64 r0))  := by kernel_rfl
def g_dn : List AV -> Option (Prop × RT)
  | [AV.int .i64 a0] => some (P_dn a0, RT.leaf (AV.int .u64 (F_dn_0 a0)))
  | _ => none
theorem S_dn : SpecOK Tryz.prog 150 (.pure g_dn) := by
 intro xs p r h hp E w vs hr hv; unfold g_dn at h; split at h
 · rename_i a0
   obtain ⟨rfl, rfl⟩ := some_pair h
   exact walk0 (ys := as_dn a0) (rs := [.tmp 2]) tab_ok (show SpecsOK Tryz.prog G_dn from trivial) Tryz.func150 rfl (by kernel_rfl) rfl (by decide) Tryz.ntmps150 (N_dn a0) (H_dn a0 hp rfl) E w vs hr hv
 · cases h
def G_be : List (Nat × Ag.Spec) := [(150, .pure g_dn), (224, .pure g_dy)]
def as_be (a0 a1 : Int) : List AV := [AV.int .i64 a0, AV.int .i64 a1]
theorem N_be (a0 a1 : Int) (K : AV -> Prop) : vwp tab (envL G_be) (fun _ _ _ => False) 0 (bodyOf Tryz.f147) (entry (as_be a0 a1) 31) (fnPost tab [.cell 4 185] fun v s => K (v.frz s.mem)) = B_be a0 a1 (fun r0 r1 r2 => K (AV.agg [AV.bool r0, AV.int .u64 r1, AV.int .u64 r2]))  := by kernel_rfl
def g_be : List AV -> Option (Prop × RT)
  | [AV.int .i64 a0, AV.int .i64 a1] => some (P_be a0 a1, RT.leaf (AV.agg [AV.bool (F_be_0 a0 a1), AV.int .u64 (F_be_1 a0 a1), AV.int .u64 (F_be_2 a0 a1)]))
  | _ => none
theorem S_be : SpecOK Tryz.prog 147 (.pure g_be) := by
 intro xs p r h hp E w vs hr hv; unfold g_be at h; split at h
 · rename_i a0 a1
   obtain ⟨rfl, rfl⟩ := some_pair h
   exact walk0 (ys := as_be a0 a1) (rs := [.cell 4 185]) tab_ok (show SpecsOK Tryz.prog G_be from ⟨S_dn, S_dy, trivial⟩) Tryz.func147 rfl (by kernel_rfl) rfl (by decide) Tryz.ntmps147 (N_be a0 a1) (H_be a0 a1 hp rfl) E w vs hr hv
 · cases h
def G_fc : List (Nat × Ag.Spec) := []
def as_fc (cm : Bool) (ga gm : Int) (gb : Bool) (gd ie : Int) : List AV := [AV.agg [AV.bool cm, AV.int .u64 ga, AV.int .u64 gm], AV.agg [AV.bool gb, AV.int .u64 gd, AV.int .u64 ie]]
theorem N_fc (cm : Bool) (ga gm : Int) (gb : Bool) (gd ie : Int) (K : AV -> Prop) : vwp tab (envL G_fc) (fun _ _ _ => False) 0 (bodyOf Tryz.f192) (entry (as_fc cm ga gm gb gd ie) 24) (fnPost tab [.tmp 4] fun v s => K (v.frz s.mem)) = B_fc cm ga gm gb gd ie (fun r0 => K (AV.bool r0))  := by kernel_rfl
def g_fc : List AV -> Option (Prop × RT)
  | [AV.agg [AV.bool cm, AV.int .u64 ga, AV.int .u64 gm], AV.agg [AV.bool gb, AV.int .u64 gd, AV.int .u64 ie]] => some (P_fc cm ga gm gb gd ie, RT.leaf (AV.bool (F_fc_0 cm ga gm gb gd ie)))
  | _ => none
theorem S_fc : SpecOK Tryz.prog 192 (.pure g_fc) := by
 intro xs p r h hp E w vs hr hv; unfold g_fc at h; split at h
 · rename_i cm ga gm gb gd ie
   obtain ⟨rfl, rfl⟩ := some_pair h
   exact walk0 (ys := as_fc cm ga gm gb gd ie) (rs := [.tmp 4]) tab_ok (show SpecsOK Tryz.prog G_fc from trivial) Tryz.func192 rfl (by kernel_rfl) rfl (by decide) Tryz.ntmps192 (N_fc cm ga gm gb gd ie) (H_fc cm ga gm gb gd ie hp rfl) E w vs hr hv
 · cases h
def G_d6 : List (Nat × Ag.Spec) := [(192, .pure g_fc), (275, .pure g_mb_Add64), (276, .pure g_mb_Sub64)]
def as_d6 (cm : Bool) (ga gm : Int) (gb : Bool) (gd ie : Int) : List AV := [AV.agg [AV.bool cm, AV.int .u64 ga, AV.int .u64 gm], AV.agg [AV.bool gb, AV.int .u64 gd, AV.int .u64 ie]]
theorem N_d6 (cm : Bool) (ga gm : Int) (gb : Bool) (gd ie : Int) (K : AV -> Prop) : vwp tab (envL G_d6) (fun _ _ _ => False) 0 (bodyOf Tryz.f221) (entry (as_d6 cm ga gm gb gd ie) 75) (fnPost tab [.cell 4 185] fun v s => K (v.frz s.mem)) = B_d6 cm ga gm gb gd ie (fun r0 r1 r2 => K (AV.agg [AV.bool r0, AV.int .u64 r1, AV.int .u64 r2]))  := by kernel_rfl
def g_d6 : List AV -> Option (Prop × RT)
  | [AV.agg [AV.bool cm, AV.int .u64 ga, AV.int .u64 gm], AV.agg [AV.bool gb, AV.int .u64 gd, AV.int .u64 ie]] => some (P_d6 cm ga gm gb gd ie, RT.leaf (AV.agg [AV.bool (F_d6_0 cm ga gm gb gd ie), AV.int .u64 (F_d6_1 cm ga gm gb gd ie), AV.int .u64 (F_d6_2 cm ga gm gb gd ie)]))
  | _ => none
theorem S_d6 : SpecOK Tryz.prog 221 (.pure g_d6) := by
 intro xs p r h hp E w vs hr hv; unfold g_d6 at h; split at h
 · rename_i cm ga gm gb gd ie
   obtain ⟨rfl, rfl⟩ := some_pair h
   exact walk0 (ys := as_d6 cm ga gm gb gd ie) (rs := [.cell 4 185]) tab_ok (show SpecsOK Tryz.prog G_d6 from ⟨S_fc, S_mb_Add64, S_mb_Sub64, trivial⟩) Tryz.func221 rfl (by kernel_rfl) rfl (by decide) Tryz.ntmps221 (N_d6 cm ga gm gb gd ie) (H_d6 cm ga gm gb gd ie hp rfl) E w vs hr hv
 · cases h
def G_el : List (Nat × Ag.Spec) := []
def as_el (cm : Bool) (ga gm : Int) : List AV := [AV.agg [AV.bool cm, AV.int .u64 ga, AV.int .u64 gm]]
theorem N_el (cm : Bool) (ga gm : Int) (K : AV -> Prop) : vwp tab (envL G_el) (fun _ _ _ => False) 0 (bodyOf Tryz.f146) (entry (as_el cm ga gm) 16) (fnPost tab [.cell 2 185] fun v s => K (v.frz s.mem)) = B_el cm ga gm (fun r0 r1 r2 => K (AV.agg [AV.bool r0, AV.int .u64 r1, AV.int .u64 r2]))  := by kernel_rfl
def g_el : List AV -> Option (Prop × RT)
  | [AV.agg [AV.bool cm, AV.int .u64 ga, AV.int .u64 gm]] => some (P_el cm ga gm, RT.leaf (AV.agg [AV.bool (F_el_0 cm ga gm), AV.int .u64 (F_el_1 cm ga gm), AV.int .u64 (F_el_2 cm ga gm)]))
  | _ => none
theorem S_el : SpecOK Tryz.prog 146 (.pure g_el) := by
 intro xs p r h hp E w vs hr hv; unfold g_el at h; split at h
 · rename_i cm ga gm
   obtain ⟨rfl, rfl⟩ := some_pair h
   exact walk0 (ys := as_el cm ga gm) (rs := [.cell 2 185]) tab_ok (show SpecsOK Tryz.prog G_el from trivial) Tryz.func146 rfl (by kernel_rfl) rfl (by decide) Tryz.ntmps146 (N_el cm ga gm) (H_el cm ga gm hp rfl) E w vs hr hv
 · cases h
def G_d7 : List (Nat × Ag.Spec) := []
def as_d7 (cm : Bool) (ga gm : Int) (a1 : Bool) : List AV := [AV.agg [AV.bool cm, AV.int .u64 ga, AV.int .u64 gm], AV.bool a1]
theorem N_d7 (cm : Bool) (ga gm : Int) (a1 : Bool) (K : AV -> Prop) : vwp tab (envL G_d7) (fun _ _ _ => False) 0 (bodyOf Tryz.f143) (entry (as_d7 cm ga gm a1) 24) (fnPost tab [.cell 4 64] fun v s => K (v.frz s.mem)) = B_d7 cm ga gm a1 (fun r0 r1 => K (AV.agg [AV.int .i64 r0, AV.bool r1]))  := by kernel_rfl
def g_d7 : List AV -> Option (Prop × RT)
  | [AV.agg [AV.bool cm, AV.int .u64 ga, AV.int .u64 gm], AV.bool a1] => some (P_d7 cm ga gm a1, RT.leaf (AV.agg [AV.int .i64 (F_d7_0 cm ga gm a1), AV.bool (F_d7_1 cm ga gm a1)]))
  | _ => none
theorem S_d7 : SpecOK Tryz.prog 143 (.pure g_d7) := by
 intro xs p r h hp E w vs hr hv; unfold g_d7 at h; split at h
 · rename_i cm ga gm a1
   obtain ⟨rfl, rfl⟩ := some_pair h
   exact walk0 (ys := as_d7 cm ga gm a1) (rs := [.cell 4 64]) tab_ok (show SpecsOK Tryz.prog G_d7 from trivial) Tryz.func143 rfl (by kernel_rfl) rfl (by decide) Tryz.ntmps143 (N_d7 cm ga gm a1) (H_d7 cm ga gm a1 hp rfl) E w vs hr hv
 · cases h
def G_ai : List (Nat × Ag.Spec) := [(150, .pure g_dn)]
def as_ai (a0 : Int) : List AV := [AV.int .i64 a0]
theorem N_ai (a0 : Int) (K : AV -> Prop) : vwp tab (envL G_ai) (fun _ _ _ => False) 0 (bodyOf Tryz.f145) (entry (as_ai a0) 8) (fnPost tab [.cell 2 185] fun v s => K (v.frz s.mem)) = B_ai a0 (fun r0 r1 r2 => K (AV.agg [AV.bool r0, AV.int .u64 r1, AV.int .u64 r2]))  := by kernel_rfl
def g_ai : List AV -> Option (Prop × RT)
  | [AV.int .i64 a0] => some (P_ai a0, RT.leaf (AV.agg [AV.bool (F_ai_0 a0), AV.int .u64 (F_ai_1 a0), AV.int .u64 (F_ai_2 a0)]))
  | _ => none
theorem S_ai : SpecOK Tryz.prog 145 (.pure g_ai) := by
 intro xs p r h hp E w vs hr hv; unfold g_ai at h; split at h
 · rename_i a0
   obtain ⟨rfl, rfl⟩ := some_pair h
   exact walk0 (ys := as_ai a0) (rs := [.cell 2 185]) tab_ok (show SpecsOK Tryz.prog G_ai from ⟨S_dn, trivial⟩) Tryz.func145 rfl (by kernel_rfl) rfl (by decide) Tryz.ntmps145 (N_ai a0) (H_ai a0 hp rfl) E w vs hr hv
 · cases h
def G_dr : List (Nat × Ag.Spec) := []
def as_dr (cm : Bool) (ga gm : Int) : List AV := [AV.agg [AV.bool cm, AV.int .u64 ga, AV.int .u64 gm]]
theorem N_dr (cm : Bool) (ga gm : Int) (K : AV -> Prop) : vwp tab (envL G_dr) (fun _ _ _ => False) 0 (bodyOf Tryz.f144) (entry (as_dr cm ga gm) 16) (fnPost tab [.cell 2 185] fun v s => K (v.frz s.mem)) = B_dr cm ga gm (fun r0 r1 r2 => K (AV.agg [AV.bool r0, AV.int .u64 r1, AV.int .u64 r2]))  := by kernel_rfl
def g_dr : List AV -> Option (Prop × RT)
  | [AV.agg [AV.bool cm, AV.int .u64 ga, AV.int .u64 gm]] => some (P_dr cm ga gm, RT.leaf (AV.agg [AV.bool (F_dr_0 cm ga gm), AV.int .u64 (F_dr_1 cm ga gm), AV.int .u64 (F_dr_2 cm ga gm)]))
  | _ => none
theorem S_dr : SpecOK Tryz.prog 144 (.pure g_dr) := by
 intro xs p r h hp E w vs hr hv; unfold g_dr at h; split at h
 · rename_i cm ga gm
   obtain ⟨rfl, rfl⟩ := some_pair h
   exact walk0 (ys := as_dr cm ga gm) (rs := [.cell 2 185]) tab_ok (show SpecsOK Tryz.prog G_dr from trivial) Tryz.func144 rfl (by kernel_rfl) rfl (by decide) Tryz.ntmps144 (N_dr cm ga gm) (H_dr cm ga gm hp rfl) E w vs hr hv
 · cases h
def G_b9 : List (Nat × Ag.Spec) := []
def S_b9_0 (cm : Bool) (ga gm a1 iu ic j8 jt : Int) : VS := ⟨slotsN 58 0 [(1, AV.int .u64 a1), (2, AV.ptr false 0 0 0), (4, AV.ptr false 1 0 0), (5, AV.ptr false 2 0 0), (6, AV.int .u64 iu), (7, AV.int .i64 ic)], [.one true 185 [AV.bool cm, AV.int .u64 ga, AV.int .u64 gm], .one true 185 [AV.bool false, AV.int .u64 0, AV.int .u64 0], .one true 185 [AV.bool cm, AV.int .u64 j8, AV.int .u64 jt]], false, 0⟩
def X_b9_0_exit0 (cm : Bool) (ga gm a1 o0 o1 o2 o3 : Int) : VS := ⟨slotsN 58 0 [(1, AV.int .u64 a1), (2, AV.ptr false 0 0 0), (4, AV.ptr false 1 0 0), (5, AV.ptr false 2 0 0), (6, AV.int .u64 o0), (7, AV.int .i64 o1)], [.one true 185 [AV.bool cm, AV.int .u64 ga, AV.int .u64 gm], .one true 185 [AV.bool false, AV.int .u64 0, AV.int .u64 0], .one true 185 [AV.bool cm, AV.int .u64 o2, AV.int .u64 o3]], false, 0⟩
theorem N_b9_0 (cm : Bool) (ga gm a1 iu ic j8 jt : Int) (Q : Exit -> VS -> Prop) : vwp tab (envL G_b9) (fun _ _ _ => False) 0 (lbody (loopAt (bodyOf Tryz.f149) 0)) (S_b9_0 cm ga gm a1 iu ic j8 jt) (QM [1, 2, 4, 5, 6, 7] [0, 1, 2] 3 Q) = B_b9_0 cm ga gm a1 iu ic j8 jt (fun w0 w1 w2 w3 => Q .normal (S_b9_0 cm ga gm a1 w0 w1 w2 w3)) (fun o0 o1 o2 o3 => Q (.exit 0) (X_b9_0_exit0 cm ga gm a1 o0 o1 o2 o3))  := by kernel_rfl
theorem L_b9_0 {X : Cx} (hX : Std Tryz.prog tab (envL G_b9) X) (b : Code) (hb : b = bodyOf Tryz.f149) (cm : Bool) (ga gm a1 : Int) (fu : Nat) (iu ic j8 jt : Int) (Q : Exit -> VS -> Prop) (h : W_b9_0 cm ga gm a1 fu iu ic j8 jt (fun o0 o1 o2 o3 => Q (.exit 0) (X_b9_0_exit0 cm ga gm a1 o0 o1 o2 o3))) : TrK X b 0 (S_b9_0 cm ga gm a1 iu ic j8 jt) Q := by
  subst hb
  refine loop_ok (V := Int × Int × Int × Int) (fun v => S_b9_0 cm ga gm a1 v.1 v.2.1 v.2.2.1 v.2.2.2) (fun f v => W_b9_0 cm ga gm a1 f v.1 v.2.1 v.2.2.1 v.2.2.2 (fun o0 o1 o2 o3 => Q (.exit 0) (X_b9_0_exit0 cm ga gm a1 o0 o1 o2 o3))) (fun _ h => h) (by kernel_rfl) (fun f v hv => ?_) (fuel := fu) (v0 := (iu, ic, j8, jt)) h
  refine QM_ok (bs := [1, 2, 4, 5, 6, 7]) (ms := [0, 1, 2]) (nm := 3) ?_
  refine vwp_std hX rfl (tr := (fun _ _ _ => False)) (fun _ _ _ h => h.elim) ?_
  refine Eq.mpr (N_b9_0 cm ga gm a1 v.1 v.2.1 v.2.2.1 v.2.2.2 _) ?_
  exact BM_b9_0 cm ga gm a1 v.1 v.2.1 v.2.2.1 v.2.2.2 (fun w0 w1 w2 w3 h => ⟨(w0, w1, w2, w3), rfl, h⟩) (fun _ _ _ _ h => h) hv
def T_b9 (cm : Bool) (ga gm a1 : Int) (k : Nat) (st : VS) (Q : Exit -> VS -> Prop) : Prop := match k with
  | 0 => TL [1, 2, 4, 5, 6, 7] [0, 1, 2] 3 (convs st []) (fun st => S_b9_0 cm ga gm a1 (intOf (tAt st 6)) (intOf (tAt st 7)) (intOf (mAt st 2 1)) (intOf (mAt st 2 2))) (fun st => W_b9_0 cm ga gm a1 fuel (intOf (tAt st 6)) (intOf (tAt st 7)) (intOf (mAt st 2 1)) (intOf (mAt st 2 2)) (fun o0 o1 o2 o3 => Q (.exit 0) (X_b9_0_exit0 cm ga gm a1 o0 o1 o2 o3)))
  | _ => False
theorem TS_b9 {X : Cx} (hX : Std Tryz.prog tab (envL G_b9) X) (b : Code) (hb : b = bodyOf Tryz.f149) (cm : Bool) (ga gm a1 : Int) (j : Nat) (st : VS) (Q : Exit -> VS -> Prop) (h : T_b9 cm ga gm a1 j st Q) : TrK X b j st Q := by
  unfold T_b9 at h
  split at h
  · exact TL_ok h (fun h' => L_b9_0 hX b hb cm ga gm a1 _ _ _ _ _ Q h')
  · exact h.elim
def as_b9 (cm : Bool) (ga gm a1 : Int) : List AV := [AV.agg [AV.bool cm, AV.int .u64 ga, AV.int .u64 gm], AV.int .u64 a1]
theorem N_b9 (cm : Bool) (ga gm a1 : Int) (K : AV -> Prop) : vwp tab (envL G_b9) (T_b9 cm ga gm a1) 0 (bodyOf Tryz.f149) (entry (as_b9 cm ga gm a1) 58) (fnPost tab [.cell 4 185] fun v s => K (v.frz s.mem)) = B_b9 cm ga gm a1 (fun r0 r1 r2 => K (AV.agg [AV.bool r0, AV.int .u64 r1, AV.int .u64 r2])) (fun p0 p1 p2 p3 y0 => S_b9_0 cm ga gm a1 p0 p1 p2 p3 = S_b9_0 cm ga gm a1 p0 p1 p2 p3 /\ W_b9_0 cm ga gm a1 fuel p0 p1 p2 p3 y0) := by kernel_rfl
theorem BL_b9 (cm : Bool) (ga gm a1 : Int) {K0 : Bool -> Int -> Int -> Prop} : B_b9 cm ga gm a1 K0 (W_b9_0 cm ga gm a1 fuel) -> B_b9 cm ga gm a1 K0 (fun p0 p1 p2 p3 y0 => S_b9_0 cm ga gm a1 p0 p1 p2 p3 = S_b9_0 cm ga gm a1 p0 p1 p2 p3 /\ W_b9_0 cm ga gm a1 fuel p0 p1 p2 p3 y0) := by
  unfold B_b9
  repeat' first
    | exact id
    | refine Ts_imp ?_
    | refine cond_imp ?_ ?_
    | refine and_imp' ?_
    | refine fun h => ⟨rfl, WM_b9_0 _ _ _ _  (fun _ _ _ _ => ?_) _ _ _ _ _  h⟩
def g_b9 : List AV -> Option (Prop × RT)
  | [AV.agg [AV.bool cm, AV.int .u64 ga, AV.int .u64 gm], AV.int .u64 a1] => some (P_b9 cm ga gm a1, RT.leaf (AV.agg [AV.bool (F_b9_0 cm ga gm a1), AV.int .u64 (F_b9_1 cm ga gm a1), AV.int .u64 (F_b9_2 cm ga gm a1)]))
  | _ => none
theorem S_b9 : SpecOK Tryz.prog 149 (.pure g_b9) := by
 intro xs p r h hp E w vs hr hv; unfold g_b9 at h; split at h
 · rename_i cm ga gm a1
   obtain ⟨rfl, rfl⟩ := some_pair h
   have hG := (show SpecsOK Tryz.prog G_b9 from trivial)
   refine walk_pure' (c := bodyOf Tryz.f149) (rs := [.cell 4 185]) (ys := as_b9 cm ga gm a1) tab_ok (envL_ok hG) Tryz.func149 rfl (by kernel_rfl) rfl (by decide) (fun X hX hrho => ?_) E w vs hr hv
   rw [Tryz.ntmps149]
   refine vwp_std hX rfl (tr := T_b9 cm ga gm a1) (fun j st Q h => TS_b9 hX _ rfl cm ga gm a1 j st Q h) (Eq.mpr (N_b9 cm ga gm a1 (fun x => x = _)) ?_)
   exact BL_b9 cm ga gm a1 (H_b9 cm ga gm a1 hp rfl)
 · cases h
def G_ep : List (Nat × Ag.Spec) := [(139, .pure g_aq)]
def as_ep (cm : Int) (ga : Bool) : List AV := [AV.agg [AV.int .i64 cm, AV.bool ga]]
theorem N_ep (cm : Int) (ga : Bool) (K : AV -> Prop) : vwp tab (envL G_ep) (fun _ _ _ => False) 0 (bodyOf Tryz.f141) (entry (as_ep cm ga) 14) (fnPost tab [.cell 2 64] fun v s => K (v.frz s.mem)) = B_ep cm ga (fun r0 r1 => K (AV.agg [AV.int .i64 r0, AV.bool r1]))  := by kernel_rfl
def g_ep : List AV -> Option (Prop × RT)
  | [AV.agg [AV.int .i64 cm, AV.bool ga]] => some (P_ep cm ga, RT.leaf (AV.agg [AV.int .i64 (F_ep_0 cm ga), AV.bool (F_ep_1 cm ga)]))
  | _ => none
theorem S_ep : SpecOK Tryz.prog 141 (.pure g_ep) := by
 intro xs p r h hp E w vs hr hv; unfold g_ep at h; split at h
 · rename_i cm ga
   obtain ⟨rfl, rfl⟩ := some_pair h
   exact walk0 (ys := as_ep cm ga) (rs := [.cell 2 64]) tab_ok (show SpecsOK Tryz.prog G_ep from ⟨S_aq, trivial⟩) Tryz.func141 rfl (by kernel_rfl) rfl (by decide) Tryz.ntmps141 (N_ep cm ga) (H_ep cm ga hp rfl) E w vs hr hv
 · cases h
def G_ct : List (Nat × Ag.Spec) := [(139, .pure g_aq), (143, .pure g_d7), (146, .pure g_el), (147, .pure g_be)]
def as_ct (cm : Int) (ga : Bool) (gb : Int) (gd : Bool) : List AV := [AV.agg [AV.int .i64 cm, AV.bool ga], AV.agg [AV.int .i64 gb, AV.bool gd]]
theorem N_ct (cm : Int) (ga : Bool) (gb : Int) (gd : Bool) (K : AV -> Prop) : vwp tab (envL G_ct) (fun _ _ _ => False) 0 (bodyOf Tryz.f66) (entry (as_ct cm ga gb gd) 28) (fnPost tab [.cell 4 64] fun v s => K (v.frz s.mem)) = B_ct cm ga gb gd (fun r0 r1 => K (AV.agg [AV.int .i64 r0, AV.bool r1]))  := by kernel_rfl
def g_ct : List AV -> Option (Prop × RT)
  | [AV.agg [AV.int .i64 cm, AV.bool ga], AV.agg [AV.int .i64 gb, AV.bool gd]] => some (P_ct cm ga gb gd, RT.leaf (AV.agg [AV.int .i64 (F_ct_0 cm ga gb gd), AV.bool (F_ct_1 cm ga gb gd)]))
  | _ => none
theorem S_ct : SpecOK Tryz.prog 66 (.pure g_ct) := by
 intro xs p r h hp E w vs hr hv; unfold g_ct at h; split at h
 · rename_i cm ga gb gd
   obtain ⟨rfl, rfl⟩ := some_pair h
   exact walk0 (ys := as_ct cm ga gb gd) (rs := [.cell 4 64]) tab_ok (show SpecsOK Tryz.prog G_ct from ⟨S_aq, S_d7, S_el, S_be, trivial⟩) Tryz.func66 rfl (by kernel_rfl) rfl (by decide) Tryz.ntmps66 (N_ct cm ga gb gd) (H_ct cm ga gb gd hp rfl) E w vs hr hv
 · cases h
def G_bw : List (Nat × Ag.Spec) := [(139, .pure g_aq), (143, .pure g_d7), (146, .pure g_el), (147, .pure g_be), (221, .pure g_d6)]
def as_bw (cm : Int) (ga : Bool) (gb : Int) (gd : Bool) (gh : Int) (gj : Bool) (g6 : Int) (g7 : Bool) : List AV := [AV.agg [AV.int .i64 cm, AV.bool ga], AV.agg [AV.int .i64 gb, AV.bool gd], AV.agg [AV.int .i64 gh, AV.bool gj], AV.agg [AV.int .i64 g6, AV.bool g7]]
theorem N_bw (cm : Int) (ga : Bool) (gb : Int) (gd : Bool) (gh : Int) (gj : Bool) (g6 : Int) (g7 : Bool) (K : AV -> Prop) : vwp tab (envL G_bw) (fun _ _ _ => False) 0 (bodyOf Tryz.f180) (entry (as_bw cm ga gb gd gh gj g6 g7) 56) (fnPost tab [.cell 8 64] fun v s => K (v.frz s.mem)) = B_bw cm ga gb gd gh gj g6 g7 (fun r0 r1 => K (AV.agg [AV.int .i64 r0, AV.bool r1]))  := by kernel_rfl
def g_bw : List AV -> Option (Prop × RT)
  | [AV.agg [AV.int .i64 cm, AV.bool ga], AV.agg [AV.int .i64 gb, AV.bool gd], AV.agg [AV.int .i64 gh, AV.bool gj], AV.agg [AV.int .i64 g6, AV.bool g7]] => some (P_bw cm ga gb gd gh gj g6 g7, RT.leaf (AV.agg [AV.int .i64 (F_bw_0 cm ga gb gd gh gj g6 g7), AV.bool (F_bw_1 cm ga gb gd gh gj g6 g7)]))
  | _ => none
theorem S_bw : SpecOK Tryz.prog 180 (.pure g_bw) := by
 intro xs p r h hp E w vs hr hv; unfold g_bw at h; split at h
 · rename_i cm ga gb gd gh gj g6 g7
   obtain ⟨rfl, rfl⟩ := some_pair h
   exact walk0 (ys := as_bw cm ga gb gd gh gj g6 g7) (rs := [.cell 8 64]) tab_ok (show SpecsOK Tryz.prog G_bw from ⟨S_aq, S_d7, S_el, S_be, S_d6, trivial⟩) Tryz.func180 rfl (by kernel_rfl) rfl (by decide) Tryz.ntmps180 (N_bw cm ga gb gd gh gj g6 g7) (H_bw cm ga gb gd gh gj g6 g7 hp rfl) E w vs hr hv
 · cases h
def G_fg : List (Nat × Ag.Spec) := [(139, .pure g_aq)]
def as_fg (cm : Int) (ga : Bool) : List AV := [AV.agg [AV.int .i64 cm, AV.bool ga]]
theorem N_fg (cm : Int) (ga : Bool) (K : AV -> Prop) : vwp tab (envL G_fg) (fun _ _ _ => False) 0 (bodyOf Tryz.f59) (entry (as_fg cm ga) 17) (fnPost tab [.cell 2 64] fun v s => K (v.frz s.mem)) = B_fg cm ga (fun r0 r1 => K (AV.agg [AV.int .i64 r0, AV.bool r1]))  := by kernel_rfl
def g_fg : List AV -> Option (Prop × RT)
  | [AV.agg [AV.int .i64 cm, AV.bool ga]] => some (P_fg cm ga, RT.leaf (AV.agg [AV.int .i64 (F_fg_0 cm ga), AV.bool (F_fg_1 cm ga)]))
  | _ => none
theorem S_fg : SpecOK Tryz.prog 59 (.pure g_fg) := by
 intro xs p r h hp E w vs hr hv; unfold g_fg at h; split at h
 · rename_i cm ga
   obtain ⟨rfl, rfl⟩ := some_pair h
   exact walk0 (ys := as_fg cm ga) (rs := [.cell 2 64]) tab_ok (show SpecsOK Tryz.prog G_fg from ⟨S_aq, trivial⟩) Tryz.func59 rfl (by kernel_rfl) rfl (by decide) Tryz.ntmps59 (N_fg cm ga) (H_fg cm ga hp rfl) E w vs hr hv
 · cases h
def G_fp : List (Nat × Ag.Spec) := [(143, .pure g_d7), (144, .pure g_dr), (145, .pure g_ai)]
def as_fp (a0 : Int) : List AV := [AV.int .i64 a0]
theorem N_fp (a0 : Int) (K : AV -> Prop) : vwp tab (envL G_fp) (fun _ _ _ => False) 0 (bodyOf Tryz.f64) (entry (as_fp a0) 7) (fnPost tab [.cell 2 64] fun v s => K (v.frz s.mem)) = B_fp a0 (fun r0 r1 => K (AV.agg [AV.int .i64 r0, AV.bool r1]))  := by kernel_rfl
def g_fp : List AV -> Option (Prop × RT)
  | [AV.int .i64 a0] => some (P_fp a0, RT.leaf (AV.agg [AV.int .i64 (F_fp_0 a0), AV.bool (F_fp_1 a0)]))
  | _ => none
theorem S_fp : SpecOK Tryz.prog 64 (.pure g_fp) := by
 intro xs p r h hp E w vs hr hv; unfold g_fp at h; split at h
 · rename_i a0
   obtain ⟨rfl, rfl⟩ := some_pair h
   exact walk0 (ys := as_fp a0) (rs := [.cell 2 64]) tab_ok (show SpecsOK Tryz.prog G_fp from ⟨S_d7, S_dr, S_ai, trivial⟩) Tryz.func64 rfl (by kernel_rfl) rfl (by decide) Tryz.ntmps64 (N_fp a0) (H_fp a0 hp rfl) E w vs hr hv
 · cases h
def G_fe : List (Nat × Ag.Spec) := []
def as_fe (a0 : Int) : List AV := [AV.int .i64 a0]
theorem N_fe (a0 : Int) (K : AV -> Prop) : vwp tab (envL G_fe) (fun _ _ _ => False) 0 (bodyOf Tryz.f148) (entry (as_fe a0) 10) (fnPost tab [.cell 2 64] fun v s => K (v.frz s.mem)) = B_fe a0 (fun r0 r1 => K (AV.agg [AV.int .i64 r0, AV.bool r1]))  := by kernel_rfl
def g_fe : List AV -> Option (Prop × RT)
  | [AV.int .i64 a0] => some (P_fe a0, RT.leaf (AV.agg [AV.int .i64 (F_fe_0 a0), AV.bool (F_fe_1 a0)]))
  | _ => none
theorem S_fe : SpecOK Tryz.prog 148 (.pure g_fe) := by
 intro xs p r h hp E w vs hr hv; unfold g_fe at h; split at h
 · rename_i a0
   obtain ⟨rfl, rfl⟩ := some_pair h
   exact walk0 (ys := as_fe a0) (rs := [.cell 2 64]) tab_ok (show SpecsOK Tryz.prog G_fe from trivial) Tryz.func148 rfl (by kernel_rfl) rfl (by decide) Tryz.ntmps148 (N_fe a0) (H_fe a0 hp rfl) E w vs hr hv
 · cases h
def G_b6 : List (Nat × Ag.Spec) := [(143, .pure g_d7), (144, .pure g_dr), (145, .pure g_ai), (148, .pure g_fe), (149, .pure g_b9), (150, .pure g_dn)]
def as_b6 (a0 a1 : Int) : List AV := [AV.int .i64 a0, AV.int .i64 a1]
theorem N_b6 (a0 a1 : Int) (K : AV -> Prop) : vwp tab (envL G_b6) (fun _ _ _ => False) 0 (bodyOf Tryz.f68) (entry (as_b6 a0 a1) 24) (fnPost tab [.cell 4 64] fun v s => K (v.frz s.mem)) = B_b6 a0 a1 (fun r0 r1 => K (AV.agg [AV.int .i64 r0, AV.bool r1]))  := by kernel_rfl
def g_b6 : List AV -> Option (Prop × RT)
  | [AV.int .i64 a0, AV.int .i64 a1] => some (P_b6 a0 a1, RT.leaf (AV.agg [AV.int .i64 (F_b6_0 a0 a1), AV.bool (F_b6_1 a0 a1)]))
  | _ => none
theorem S_b6 : SpecOK Tryz.prog 68 (.pure g_b6) := by
 intro xs p r h hp E w vs hr hv; unfold g_b6 at h; split at h
 · rename_i a0 a1
   obtain ⟨rfl, rfl⟩ := some_pair h
   exact walk0 (ys := as_b6 a0 a1) (rs := [.cell 4 64]) tab_ok (show SpecsOK Tryz.prog G_b6 from ⟨S_d7, S_dr, S_ai, S_fe, S_b9, S_dn, trivial⟩) Tryz.func68 rfl (by kernel_rfl) rfl (by decide) Tryz.ntmps68 (N_b6 a0 a1) (H_b6 a0 a1 hp rfl) E w vs hr hv
 · cases h
def G_dp : List (Nat × Ag.Spec) := [(68, .pure g_b6), (139, .pure g_aq), (148, .pure g_fe)]
def as_dp (cm : Int) (ga : Bool) (gb : Int) (gd : Bool) : List AV := [AV.agg [AV.int .i64 cm, AV.bool ga], AV.agg [AV.int .i64 gb, AV.bool gd]]
theorem N_dp (cm : Int) (ga : Bool) (gb : Int) (gd : Bool) (K : AV -> Prop) : vwp tab (envL G_dp) (fun _ _ _ => False) 0 (bodyOf Tryz.f188) (entry (as_dp cm ga gb gd) 38) (fnPost tab [.cell 4 64] fun v s => K (v.frz s.mem)) = B_dp cm ga gb gd (fun r0 r1 => K (AV.agg [AV.int .i64 r0, AV.bool r1]))  := by kernel_rfl
def g_dp : List AV -> Option (Prop × RT)
  | [AV.agg [AV.int .i64 cm, AV.bool ga], AV.agg [AV.int .i64 gb, AV.bool gd]] => some (P_dp cm ga gb gd, RT.leaf (AV.agg [AV.int .i64 (F_dp_0 cm ga gb gd), AV.bool (F_dp_1 cm ga gb gd)]))
  | _ => none
theorem S_dp : SpecOK Tryz.prog 188 (.pure g_dp) := by
 intro xs p r h hp E w vs hr hv; unfold g_dp at h; split at h
 · rename_i cm ga gb gd
   obtain ⟨rfl, rfl⟩ := some_pair h
   exact walk0 (ys := as_dp cm ga gb gd) (rs := [.cell 4 64]) tab_ok (show SpecsOK Tryz.prog G_dp from ⟨S_b6, S_aq, S_fe, trivial⟩) Tryz.func188 rfl (by kernel_rfl) rfl (by decide) Tryz.ntmps188 (N_dp cm ga gb gd) (H_dp cm ga gb gd hp rfl) E w vs hr hv
 · cases h
def G_bd : List (Nat × Ag.Spec) := [(139, .pure g_aq)]
def S_bd_0 (gp : Nat) (cm : Nat -> Int) (ga : Nat -> Bool) (gz : Int) : VS := ⟨slotsN 21 0 [(0, AV.rs none gp [CF.I .i64 cm, CF.B ga]), (2, AV.bool false), (3, AV.int .i64 gz)], [], false, 0⟩
def X_bd_0_exit0 (gp : Nat) (cm : Nat -> Int) (ga : Nat -> Bool) (o0 : Int) : VS := ⟨slotsN 21 0 [(0, AV.rs none gp [CF.I .i64 cm, CF.B ga]), (2, AV.bool false), (3, AV.int .i64 o0)], [], false, 0⟩
def X_bd_0_ret (gp : Nat) (cm : Nat -> Int) (ga : Nat -> Bool) (o0 : Bool) (o1 : Int) : VS := ⟨slotsN 21 0 [(0, AV.rs none gp [CF.I .i64 cm, CF.B ga]), (2, AV.bool o0), (3, AV.int .i64 o1)], [], false, 0⟩
theorem N_bd_0 (gp : Nat) (cm : Nat -> Int) (ga : Nat -> Bool) (gz : Int) (Q : Exit -> VS -> Prop) : vwp tab (envL G_bd) (fun _ _ _ => False) 0 (lbody (loopAt (bodyOf Tryz.f222) 0)) (S_bd_0 gp cm ga gz) (QM [0, 2, 3] [] 0 Q) = B_bd_0 gp cm ga gz (fun w0 => Q .normal (S_bd_0 gp cm ga w0)) (fun o0 => Q (.exit 0) (X_bd_0_exit0 gp cm ga o0)) (fun o0 o1 => Q .ret (X_bd_0_ret gp cm ga o0 o1))  := by kernel_rfl
theorem L_bd_0 {X : Cx} (hX : Std Tryz.prog tab (envL G_bd) X) (b : Code) (hb : b = bodyOf Tryz.f222) (gp : Nat) (cm : Nat -> Int) (ga : Nat -> Bool) (fu : Nat) (gz : Int) (Q : Exit -> VS -> Prop) (h : W_bd_0 gp cm ga fu gz (fun o0 => Q (.exit 0) (X_bd_0_exit0 gp cm ga o0)) (fun o0 o1 => Q .ret (X_bd_0_ret gp cm ga o0 o1))) : TrK X b 0 (S_bd_0 gp cm ga gz) Q := by
  subst hb
  refine loop_ok (V := Int) (fun v => S_bd_0 gp cm ga v) (fun f v => W_bd_0 gp cm ga f v (fun o0 => Q (.exit 0) (X_bd_0_exit0 gp cm ga o0)) (fun o0 o1 => Q .ret (X_bd_0_ret gp cm ga o0 o1))) (fun _ h => h) (by kernel_rfl) (fun f v hv => ?_) (fuel := fu) (v0 := (gz)) h
  refine QM_ok (bs := [0, 2, 3]) (ms := []) (nm := 0) ?_
  refine vwp_std hX rfl (tr := (fun _ _ _ => False)) (fun _ _ _ h => h.elim) ?_
  refine Eq.mpr (N_bd_0 gp cm ga v _) ?_
  exact BM_bd_0 gp cm ga v (fun w0 h => ⟨w0, rfl, h⟩) (fun _ h => h) (fun _ _ h => h) hv
def T_bd (gp : Nat) (cm : Nat -> Int) (ga : Nat -> Bool) (k : Nat) (st : VS) (Q : Exit -> VS -> Prop) : Prop := match k with
  | 0 => TL [0, 2, 3] [] 0 (convs st []) (fun st => S_bd_0 gp cm ga (intOf (tAt st 3))) (fun st => W_bd_0 gp cm ga fuel (intOf (tAt st 3)) (fun o0 => Q (.exit 0) (X_bd_0_exit0 gp cm ga o0)) (fun o0 o1 => Q .ret (X_bd_0_ret gp cm ga o0 o1)))
  | _ => False
theorem TS_bd {X : Cx} (hX : Std Tryz.prog tab (envL G_bd) X) (b : Code) (hb : b = bodyOf Tryz.f222) (gp : Nat) (cm : Nat -> Int) (ga : Nat -> Bool) (j : Nat) (st : VS) (Q : Exit -> VS -> Prop) (h : T_bd gp cm ga j st Q) : TrK X b j st Q := by
  unfold T_bd at h
  split at h
  · exact TL_ok h (fun h' => L_bd_0 hX b hb gp cm ga _ _ Q h')
  · exact h.elim
def as_bd (gp : Nat) (cm : Nat -> Int) (ga : Nat -> Bool) : List AV := [AV.rs none gp [CF.I .i64 cm, CF.B ga]]
theorem N_bd (gp : Nat) (cm : Nat -> Int) (ga : Nat -> Bool) (K : AV -> Prop) : vwp tab (envL G_bd) (T_bd gp cm ga) 0 (bodyOf Tryz.f222) (entry (as_bd gp cm ga) 21) (fnPost tab [.tmp 2] fun v s => K (v.frz s.mem)) = B_bd gp cm ga (fun r0 => K (AV.bool r0)) (fun p0 y0 y1 => S_bd_0 gp cm ga p0 = S_bd_0 gp cm ga p0 /\ W_bd_0 gp cm ga fuel p0 y0 y1) := by kernel_rfl
theorem BL_bd (gp : Nat) (cm : Nat -> Int) (ga : Nat -> Bool) {K0 : Bool -> Prop} : B_bd gp cm ga K0 (W_bd_0 gp cm ga fuel) -> B_bd gp cm ga K0 (fun p0 y0 y1 => S_bd_0 gp cm ga p0 = S_bd_0 gp cm ga p0 /\ W_bd_0 gp cm ga fuel p0 y0 y1) := by
  unfold B_bd
  repeat' first
    | exact id
    | refine Ts_imp ?_
    | refine cond_imp ?_ ?_
    | refine and_imp' ?_
    | refine fun h => ⟨rfl, WM_bd_0 _ _ _  (fun _ => ?_) (fun _ _ => ?_) _ _  h⟩
def g_bd : List AV -> Option (Prop × RT)
  | [AV.rs sq0 sn0 sc0] => cond (kindsOK [KC.I .i64, KC.B] sc0) (some (P_bd (nOf sn0 sc0) (colI sc0 0) (colB sc0 1), RT.leaf (AV.bool (F_bd_0 (nOf sn0 sc0) (colI sc0 0) (colB sc0 1))))) none
  | _ => none
theorem S_bd : SpecOK Tryz.prog 222 (.pure g_bd) := by
 intro xs p r h hp E w vs hr hv; unfold g_bd at h; split at h
 · rename_i sq0 sn0 sc0
   obtain ⟨hk0, h⟩ := cond_some h
   obtain ⟨rfl, rfl⟩ := some_pair h
   have hG := (show SpecsOK Tryz.prog G_bd from ⟨S_aq, trivial⟩)
   have hv' := ((AV.les.cons (AV.le.rs hk0) AV.les.nil) _ _ hv : VRs E.bare (as_bd (nOf sn0 sc0) (colI sc0 0) (colB sc0 1)) vs)
   refine walk_pure' (c := bodyOf Tryz.f222) (rs := [.tmp 2]) (ys := as_bd (nOf sn0 sc0) (colI sc0 0) (colB sc0 1)) tab_ok (envL_ok hG) Tryz.func222 rfl (by kernel_rfl) rfl (by decide) (fun X hX hrho => ?_) E w vs hr hv'
   rw [Tryz.ntmps222]
   refine vwp_std hX rfl (tr := T_bd (nOf sn0 sc0) (colI sc0 0) (colB sc0 1)) (fun j st Q h => TS_bd hX _ rfl (nOf sn0 sc0) (colI sc0 0) (colB sc0 1) j st Q h) (Eq.mpr (N_bd (nOf sn0 sc0) (colI sc0 0) (colB sc0 1) (fun x => x = _)) ?_)
   exact BL_bd (nOf sn0 sc0) (colI sc0 0) (colB sc0 1) (H_bd (nOf sn0 sc0) (colI sc0 0) (colB sc0 1) hp rfl)
 · cases h
def G_cj : List (Nat × Ag.Spec) := [(139, .pure g_aq), (143, .pure g_d7), (145, .pure g_ai), (221, .pure g_d6), (222, .pure g_bd)]
def S_cj_0 (gp : Nat) (cm : Nat -> Int) (ga : Nat -> Bool) (ia : Int) (iv : Bool) (iw iy : Int) : VS := ⟨slotsN 30 0 [(0, AV.rs none gp [CF.I .i64 cm, CF.B ga]), (2, AV.ptr false 0 0 0), (3, AV.ptr false 1 0 0), (4, AV.int .i64 ia)], [.one true 64 [AV.int .i64 0, AV.bool false], .one true 185 [AV.bool iv, AV.int .u64 iw, AV.int .u64 iy]], false, 0⟩
def X_cj_0_exit0 (gp : Nat) (cm : Nat -> Int) (ga : Nat -> Bool) (o0 : Int) (o1 : Bool) (o2 o3 : Int) : VS := ⟨slotsN 30 0 [(0, AV.rs none gp [CF.I .i64 cm, CF.B ga]), (2, AV.ptr false 0 0 0), (3, AV.ptr false 1 0 0), (4, AV.int .i64 o0)], [.one true 64 [AV.int .i64 0, AV.bool false], .one true 185 [AV.bool o1, AV.int .u64 o2, AV.int .u64 o3]], false, 0⟩
theorem N_cj_0 (gp : Nat) (cm : Nat -> Int) (ga : Nat -> Bool) (ia : Int) (iv : Bool) (iw iy : Int) (Q : Exit -> VS -> Prop) : vwp tab (envL G_cj) (fun _ _ _ => False) 0 (lbody (loopAt (bodyOf Tryz.f140) 0)) (S_cj_0 gp cm ga ia iv iw iy) (QM [0, 2, 3, 4] [0, 1] 2 Q) = B_cj_0 gp cm ga ia iv iw iy (fun w0 w1 w2 w3 => Q .normal (S_cj_0 gp cm ga w0 w1 w2 w3)) (fun o0 o1 o2 o3 => Q (.exit 0) (X_cj_0_exit0 gp cm ga o0 o1 o2 o3))  := by kernel_rfl
theorem L_cj_0 {X : Cx} (hX : Std Tryz.prog tab (envL G_cj) X) (b : Code) (hb : b = bodyOf Tryz.f140) (gp : Nat) (cm : Nat -> Int) (ga : Nat -> Bool) (fu : Nat) (ia : Int) (iv : Bool) (iw iy : Int) (Q : Exit -> VS -> Prop) (h : W_cj_0 gp cm ga fu ia iv iw iy (fun o0 o1 o2 o3 => Q (.exit 0) (X_cj_0_exit0 gp cm ga o0 o1 o2 o3))) : TrK X b 0 (S_cj_0 gp cm ga ia iv iw iy) Q := by
  subst hb
  refine loop_ok (V := Int × Bool × Int × Int) (fun v => S_cj_0 gp cm ga v.1 v.2.1 v.2.2.1 v.2.2.2) (fun f v => W_cj_0 gp cm ga f v.1 v.2.1 v.2.2.1 v.2.2.2 (fun o0 o1 o2 o3 => Q (.exit 0) (X_cj_0_exit0 gp cm ga o0 o1 o2 o3))) (fun _ h => h) (by kernel_rfl) (fun f v hv => ?_) (fuel := fu) (v0 := (ia, iv, iw, iy)) h
  refine QM_ok (bs := [0, 2, 3, 4]) (ms := [0, 1]) (nm := 2) ?_
  refine vwp_std hX rfl (tr := (fun _ _ _ => False)) (fun _ _ _ h => h.elim) ?_
  refine Eq.mpr (N_cj_0 gp cm ga v.1 v.2.1 v.2.2.1 v.2.2.2 _) ?_
  exact BM_cj_0 gp cm ga v.1 v.2.1 v.2.2.1 v.2.2.2 (fun w0 w1 w2 w3 h => ⟨(w0, w1, w2, w3), rfl, h⟩) (fun _ _ _ _ h => h) hv
def T_cj (gp : Nat) (cm : Nat -> Int) (ga : Nat -> Bool) (k : Nat) (st : VS) (Q : Exit -> VS -> Prop) : Prop := match k with
  | 0 => TL [0, 2, 3, 4] [0, 1] 2 (convs st []) (fun st => S_cj_0 gp cm ga (intOf (tAt st 4)) (boolOf (mAt st 1 0)) (intOf (mAt st 1 1)) (intOf (mAt st 1 2))) (fun st => W_cj_0 gp cm ga fuel (intOf (tAt st 4)) (boolOf (mAt st 1 0)) (intOf (mAt st 1 1)) (intOf (mAt st 1 2)) (fun o0 o1 o2 o3 => Q (.exit 0) (X_cj_0_exit0 gp cm ga o0 o1 o2 o3)))
  | _ => False
theorem TS_cj {X : Cx} (hX : Std Tryz.prog tab (envL G_cj) X) (b : Code) (hb : b = bodyOf Tryz.f140) (gp : Nat) (cm : Nat -> Int) (ga : Nat -> Bool) (j : Nat) (st : VS) (Q : Exit -> VS -> Prop) (h : T_cj gp cm ga j st Q) : TrK X b j st Q := by
  unfold T_cj at h
  split at h
  · exact TL_ok h (fun h' => L_cj_0 hX b hb gp cm ga _ _ _ _ _ Q h')
  · exact h.elim
def as_cj (gp : Nat) (cm : Nat -> Int) (ga : Nat -> Bool) : List AV := [AV.rs none gp [CF.I .i64 cm, CF.B ga]]
theorem N_cj (gp : Nat) (cm : Nat -> Int) (ga : Nat -> Bool) (K : AV -> Prop) : vwp tab (envL G_cj) (T_cj gp cm ga) 0 (bodyOf Tryz.f140) (entry (as_cj gp cm ga) 30) (fnPost tab [.cell 2 64] fun v s => K (v.frz s.mem)) = B_cj gp cm ga (fun r0 r1 => K (AV.agg [AV.int .i64 r0, AV.bool r1])) (fun p0 p1 p2 p3 y0 => S_cj_0 gp cm ga p0 p1 p2 p3 = S_cj_0 gp cm ga p0 p1 p2 p3 /\ W_cj_0 gp cm ga fuel p0 p1 p2 p3 y0) := by kernel_rfl
theorem BL_cj (gp : Nat) (cm : Nat -> Int) (ga : Nat -> Bool) {K0 : Int -> Bool -> Prop} : B_cj gp cm ga K0 (W_cj_0 gp cm ga fuel) -> B_cj gp cm ga K0 (fun p0 p1 p2 p3 y0 => S_cj_0 gp cm ga p0 p1 p2 p3 = S_cj_0 gp cm ga p0 p1 p2 p3 /\ W_cj_0 gp cm ga fuel p0 p1 p2 p3 y0) := by
  unfold B_cj
  repeat' first
    | exact id
    | refine Ts_imp ?_
    | refine cond_imp ?_ ?_
    | refine and_imp' ?_
    | refine fun h => ⟨rfl, WM_cj_0 _ _ _  (fun _ _ _ _ => ?_) _ _ _ _ _  h⟩
def g_cj : List AV -> Option (Prop × RT)
  | [AV.rs sq0 sn0 sc0] => cond (kindsOK [KC.I .i64, KC.B] sc0) (some (P_cj (nOf sn0 sc0) (colI sc0 0) (colB sc0 1), RT.leaf (AV.agg [AV.int .i64 (F_cj_0 (nOf sn0 sc0) (colI sc0 0) (colB sc0 1)), AV.bool (F_cj_1 (nOf sn0 sc0) (colI sc0 0) (colB sc0 1))]))) none
  | _ => none
theorem S_cj : SpecOK Tryz.prog 140 (.pure g_cj) := by
 intro xs p r h hp E w vs hr hv; unfold g_cj at h; split at h
 · rename_i sq0 sn0 sc0
   obtain ⟨hk0, h⟩ := cond_some h
   obtain ⟨rfl, rfl⟩ := some_pair h
   have hG := (show SpecsOK Tryz.prog G_cj from ⟨S_aq, S_d7, S_ai, S_d6, S_bd, trivial⟩)
   have hv' := ((AV.les.cons (AV.le.rs hk0) AV.les.nil) _ _ hv : VRs E.bare (as_cj (nOf sn0 sc0) (colI sc0 0) (colB sc0 1)) vs)
   refine walk_pure' (c := bodyOf Tryz.f140) (rs := [.cell 2 64]) (ys := as_cj (nOf sn0 sc0) (colI sc0 0) (colB sc0 1)) tab_ok (envL_ok hG) Tryz.func140 rfl (by kernel_rfl) rfl (by decide) (fun X hX hrho => ?_) E w vs hr hv'
   rw [Tryz.ntmps140]
   refine vwp_std hX rfl (tr := T_cj (nOf sn0 sc0) (colI sc0 0) (colB sc0 1)) (fun j st Q h => TS_cj hX _ rfl (nOf sn0 sc0) (colI sc0 0) (colB sc0 1) j st Q h) (Eq.mpr (N_cj (nOf sn0 sc0) (colI sc0 0) (colB sc0 1) (fun x => x = _)) ?_)
   exact BL_cj (nOf sn0 sc0) (colI sc0 0) (colB sc0 1) (H_cj (nOf sn0 sc0) (colI sc0 0) (colB sc0 1) hp rfl)
 · cases h
def G_cv : List (Nat × Ag.Spec) := [(139, .pure g_aq), (222, .pure g_bd)]
def S_cv_0 (gp : Nat) (cm : Nat -> Int) (ga : Nat -> Bool) (gz ib : Int) : VS := ⟨slotsN 41 0 [(0, AV.rs none gp [CF.I .i64 cm, CF.B ga]), (2, AV.ptr false 0 0 0), (3, AV.int .i64 gz), (5, AV.int .i64 ib)], [.one true 64 [AV.int .i64 0, AV.bool false]], false, 0⟩
def X_cv_0_exit0 (gp : Nat) (cm : Nat -> Int) (ga : Nat -> Bool) (o0 o1 : Int) : VS := ⟨slotsN 41 0 [(0, AV.rs none gp [CF.I .i64 cm, CF.B ga]), (2, AV.ptr false 0 0 0), (3, AV.int .i64 o0), (5, AV.int .i64 o1)], [.one true 64 [AV.int .i64 0, AV.bool false]], false, 0⟩
theorem N_cv_0 (gp : Nat) (cm : Nat -> Int) (ga : Nat -> Bool) (gz ib : Int) (Q : Exit -> VS -> Prop) : vwp tab (envL G_cv) (fun _ _ _ => False) 0 (lbody (loopAt (bodyOf Tryz.f187) 0)) (S_cv_0 gp cm ga gz ib) (QM [0, 2, 3, 5] [0] 1 Q) = B_cv_0 gp cm ga gz ib (fun w0 w1 => Q .normal (S_cv_0 gp cm ga w0 w1)) (fun o0 o1 => Q (.exit 0) (X_cv_0_exit0 gp cm ga o0 o1))  := by kernel_rfl
theorem L_cv_0 {X : Cx} (hX : Std Tryz.prog tab (envL G_cv) X) (b : Code) (hb : b = bodyOf Tryz.f187) (gp : Nat) (cm : Nat -> Int) (ga : Nat -> Bool) (fu : Nat) (gz ib : Int) (Q : Exit -> VS -> Prop) (h : W_cv_0 gp cm ga fu gz ib (fun o0 o1 => Q (.exit 0) (X_cv_0_exit0 gp cm ga o0 o1))) : TrK X b 0 (S_cv_0 gp cm ga gz ib) Q := by
  subst hb
  refine loop_ok (V := Int × Int) (fun v => S_cv_0 gp cm ga v.1 v.2) (fun f v => W_cv_0 gp cm ga f v.1 v.2 (fun o0 o1 => Q (.exit 0) (X_cv_0_exit0 gp cm ga o0 o1))) (fun _ h => h) (by kernel_rfl) (fun f v hv => ?_) (fuel := fu) (v0 := (gz, ib)) h
  refine QM_ok (bs := [0, 2, 3, 5]) (ms := [0]) (nm := 1) ?_
  refine vwp_std hX rfl (tr := (fun _ _ _ => False)) (fun _ _ _ h => h.elim) ?_
  refine Eq.mpr (N_cv_0 gp cm ga v.1 v.2 _) ?_
  exact BM_cv_0 gp cm ga v.1 v.2 (fun w0 w1 h => ⟨(w0, w1), rfl, h⟩) (fun _ _ h => h) hv
def T_cv (gp : Nat) (cm : Nat -> Int) (ga : Nat -> Bool) (k : Nat) (st : VS) (Q : Exit -> VS -> Prop) : Prop := match k with
  | 0 => TL [0, 2, 3, 5] [0] 1 (convs st []) (fun st => S_cv_0 gp cm ga (intOf (tAt st 3)) (intOf (tAt st 5))) (fun st => W_cv_0 gp cm ga fuel (intOf (tAt st 3)) (intOf (tAt st 5)) (fun o0 o1 => Q (.exit 0) (X_cv_0_exit0 gp cm ga o0 o1)))
  | _ => False
theorem TS_cv {X : Cx} (hX : Std Tryz.prog tab (envL G_cv) X) (b : Code) (hb : b = bodyOf Tryz.f187) (gp : Nat) (cm : Nat -> Int) (ga : Nat -> Bool) (j : Nat) (st : VS) (Q : Exit -> VS -> Prop) (h : T_cv gp cm ga j st Q) : TrK X b j st Q := by
  unfold T_cv at h
  split at h
  · exact TL_ok h (fun h' => L_cv_0 hX b hb gp cm ga _ _ _ Q h')
  · exact h.elim
def as_cv (gp : Nat) (cm : Nat -> Int) (ga : Nat -> Bool) : List AV := [AV.rs none gp [CF.I .i64 cm, CF.B ga]]
theorem N_cv (gp : Nat) (cm : Nat -> Int) (ga : Nat -> Bool) (K : AV -> Prop) : vwp tab (envL G_cv) (T_cv gp cm ga) 0 (bodyOf Tryz.f187) (entry (as_cv gp cm ga) 41) (fnPost tab [.cell 2 64] fun v s => K (v.frz s.mem)) = B_cv gp cm ga (fun r0 r1 => K (AV.agg [AV.int .i64 r0, AV.bool r1])) (fun p0 p1 y0 => S_cv_0 gp cm ga p0 p1 = S_cv_0 gp cm ga p0 p1 /\ W_cv_0 gp cm ga fuel p0 p1 y0) := by kernel_rfl
theorem BL_cv (gp : Nat) (cm : Nat -> Int) (ga : Nat -> Bool) {K0 : Int -> Bool -> Prop} : B_cv gp cm ga K0 (W_cv_0 gp cm ga fuel) -> B_cv gp cm ga K0 (fun p0 p1 y0 => S_cv_0 gp cm ga p0 p1 = S_cv_0 gp cm ga p0 p1 /\ W_cv_0 gp cm ga fuel p0 p1 y0) := by
  unfold B_cv
  repeat' first
    | exact id
    | refine Ts_imp ?_
    | refine cond_imp ?_ ?_
    | refine and_imp' ?_
    | refine fun h => ⟨rfl, WM_cv_0 _ _ _  (fun _ _ => ?_) _ _ _  h⟩
def g_cv : List AV -> Option (Prop × RT)
  | [AV.rs sq0 sn0 sc0] => cond (kindsOK [KC.I .i64, KC.B] sc0) (some (P_cv (nOf sn0 sc0) (colI sc0 0) (colB sc0 1), RT.leaf (AV.agg [AV.int .i64 (F_cv_0 (nOf sn0 sc0) (colI sc0 0) (colB sc0 1)), AV.bool (F_cv_1 (nOf sn0 sc0) (colI sc0 0) (colB sc0 1))]))) none
  | _ => none
theorem S_cv : SpecOK Tryz.prog 187 (.pure g_cv) := by
 intro xs p r h hp E w vs hr hv; unfold g_cv at h; split at h
 · rename_i sq0 sn0 sc0
   obtain ⟨hk0, h⟩ := cond_some h
   obtain ⟨rfl, rfl⟩ := some_pair h
   have hG := (show SpecsOK Tryz.prog G_cv from ⟨S_aq, S_bd, trivial⟩)
   have hv' := ((AV.les.cons (AV.le.rs hk0) AV.les.nil) _ _ hv : VRs E.bare (as_cv (nOf sn0 sc0) (colI sc0 0) (colB sc0 1)) vs)
   refine walk_pure' (c := bodyOf Tryz.f187) (rs := [.cell 2 64]) (ys := as_cv (nOf sn0 sc0) (colI sc0 0) (colB sc0 1)) tab_ok (envL_ok hG) Tryz.func187 rfl (by kernel_rfl) rfl (by decide) (fun X hX hrho => ?_) E w vs hr hv'
   rw [Tryz.ntmps187]
   refine vwp_std hX rfl (tr := T_cv (nOf sn0 sc0) (colI sc0 0) (colB sc0 1)) (fun j st Q h => TS_cv hX _ rfl (nOf sn0 sc0) (colI sc0 0) (colB sc0 1) j st Q h) (Eq.mpr (N_cv (nOf sn0 sc0) (colI sc0 0) (colB sc0 1) (fun x => x = _)) ?_)
   exact BL_cv (nOf sn0 sc0) (colI sc0 0) (colB sc0 1) (H_cv (nOf sn0 sc0) (colI sc0 0) (colB sc0 1) hp rfl)
 · cases h
def G_c7 : List (Nat × Ag.Spec) := [(139, .pure g_aq), (222, .pure g_bd)]
def S_c7_0 (gp : Nat) (cm : Nat -> Int) (ga : Nat -> Bool) (gz ib : Int) : VS := ⟨slotsN 41 0 [(0, AV.rs none gp [CF.I .i64 cm, CF.B ga]), (2, AV.ptr false 0 0 0), (3, AV.int .i64 gz), (5, AV.int .i64 ib)], [.one true 64 [AV.int .i64 0, AV.bool false]], false, 0⟩
def X_c7_0_exit0 (gp : Nat) (cm : Nat -> Int) (ga : Nat -> Bool) (o0 o1 : Int) : VS := ⟨slotsN 41 0 [(0, AV.rs none gp [CF.I .i64 cm, CF.B ga]), (2, AV.ptr false 0 0 0), (3, AV.int .i64 o0), (5, AV.int .i64 o1)], [.one true 64 [AV.int .i64 0, AV.bool false]], false, 0⟩
theorem N_c7_0 (gp : Nat) (cm : Nat -> Int) (ga : Nat -> Bool) (gz ib : Int) (Q : Exit -> VS -> Prop) : vwp tab (envL G_c7) (fun _ _ _ => False) 0 (lbody (loopAt (bodyOf Tryz.f201) 0)) (S_c7_0 gp cm ga gz ib) (QM [0, 2, 3, 5] [0] 1 Q) = B_c7_0 gp cm ga gz ib (fun w0 w1 => Q .normal (S_c7_0 gp cm ga w0 w1)) (fun o0 o1 => Q (.exit 0) (X_c7_0_exit0 gp cm ga o0 o1))  := by kernel_rfl
theorem L_c7_0 {X : Cx} (hX : Std Tryz.prog tab (envL G_c7) X) (b : Code) (hb : b = bodyOf Tryz.f201) (gp : Nat) (cm : Nat -> Int) (ga : Nat -> Bool) (fu : Nat) (gz ib : Int) (Q : Exit -> VS -> Prop) (h : W_c7_0 gp cm ga fu gz ib (fun o0 o1 => Q (.exit 0) (X_c7_0_exit0 gp cm ga o0 o1))) : TrK X b 0 (S_c7_0 gp cm ga gz ib) Q := by
  subst hb
  refine loop_ok (V := Int × Int) (fun v => S_c7_0 gp cm ga v.1 v.2) (fun f v => W_c7_0 gp cm ga f v.1 v.2 (fun o0 o1 => Q (.exit 0) (X_c7_0_exit0 gp cm ga o0 o1))) (fun _ h => h) (by kernel_rfl) (fun f v hv => ?_) (fuel := fu) (v0 := (gz, ib)) h
  refine QM_ok (bs := [0, 2, 3, 5]) (ms := [0]) (nm := 1) ?_
  refine vwp_std hX rfl (tr := (fun _ _ _ => False)) (fun _ _ _ h => h.elim) ?_
  refine Eq.mpr (N_c7_0 gp cm ga v.1 v.2 _) ?_
  exact BM_c7_0 gp cm ga v.1 v.2 (fun w0 w1 h => ⟨(w0, w1), rfl, h⟩) (fun _ _ h => h) hv
def T_c7 (gp : Nat) (cm : Nat -> Int) (ga : Nat -> Bool) (k : Nat) (st : VS) (Q : Exit -> VS -> Prop) : Prop := match k with
  | 0 => TL [0, 2, 3, 5] [0] 1 (convs st []) (fun st => S_c7_0 gp cm ga (intOf (tAt st 3)) (intOf (tAt st 5))) (fun st => W_c7_0 gp cm ga fuel (intOf (tAt st 3)) (intOf (tAt st 5)) (fun o0 o1 => Q (.exit 0) (X_c7_0_exit0 gp cm ga o0 o1)))
  | _ => False
theorem TS_c7 {X : Cx} (hX : Std Tryz.prog tab (envL G_c7) X) (b : Code) (hb : b = bodyOf Tryz.f201) (gp : Nat) (cm : Nat -> Int) (ga : Nat -> Bool) (j : Nat) (st : VS) (Q : Exit -> VS -> Prop) (h : T_c7 gp cm ga j st Q) : TrK X b j st Q := by
  unfold T_c7 at h
  split at h
  · exact TL_ok h (fun h' => L_c7_0 hX b hb gp cm ga _ _ _ Q h')
  · exact h.elim
def as_c7 (gp : Nat) (cm : Nat -> Int) (ga : Nat -> Bool) : List AV := [AV.rs none gp [CF.I .i64 cm, CF.B ga]]
theorem N_c7 (gp : Nat) (cm : Nat -> Int) (ga : Nat -> Bool) (K : AV -> Prop) : vwp tab (envL G_c7) (T_c7 gp cm ga) 0 (bodyOf Tryz.f201) (entry (as_c7 gp cm ga) 41) (fnPost tab [.cell 2 64] fun v s => K (v.frz s.mem)) = B_c7 gp cm ga (fun r0 r1 => K (AV.agg [AV.int .i64 r0, AV.bool r1])) (fun p0 p1 y0 => S_c7_0 gp cm ga p0 p1 = S_c7_0 gp cm ga p0 p1 /\ W_c7_0 gp cm ga fuel p0 p1 y0) := by kernel_rfl
theorem BL_c7 (gp : Nat) (cm : Nat -> Int) (ga : Nat -> Bool) {K0 : Int -> Bool -> Prop} : B_c7 gp cm ga K0 (W_c7_0 gp cm ga fuel) -> B_c7 gp cm ga K0 (fun p0 p1 y0 => S_c7_0 gp cm ga p0 p1 = S_c7_0 gp cm ga p0 p1 /\ W_c7_0 gp cm ga fuel p0 p1 y0) := by
  unfold B_c7
  repeat' first
    | exact id
    | refine Ts_imp ?_
    | refine cond_imp ?_ ?_
    | refine and_imp' ?_
    | refine fun h => ⟨rfl, WM_c7_0 _ _ _  (fun _ _ => ?_) _ _ _  h⟩
def g_c7 : List AV -> Option (Prop × RT)
  | [AV.rs sq0 sn0 sc0] => cond (kindsOK [KC.I .i64, KC.B] sc0) (some (P_c7 (nOf sn0 sc0) (colI sc0 0) (colB sc0 1), RT.leaf (AV.agg [AV.int .i64 (F_c7_0 (nOf sn0 sc0) (colI sc0 0) (colB sc0 1)), AV.bool (F_c7_1 (nOf sn0 sc0) (colI sc0 0) (colB sc0 1))]))) none
  | _ => none
theorem S_c7 : SpecOK Tryz.prog 201 (.pure g_c7) := by
 intro xs p r h hp E w vs hr hv; unfold g_c7 at h; split at h
 · rename_i sq0 sn0 sc0
   obtain ⟨hk0, h⟩ := cond_some h
   obtain ⟨rfl, rfl⟩ := some_pair h
   have hG := (show SpecsOK Tryz.prog G_c7 from ⟨S_aq, S_bd, trivial⟩)
   have hv' := ((AV.les.cons (AV.le.rs hk0) AV.les.nil) _ _ hv : VRs E.bare (as_c7 (nOf sn0 sc0) (colI sc0 0) (colB sc0 1)) vs)
   refine walk_pure' (c := bodyOf Tryz.f201) (rs := [.cell 2 64]) (ys := as_c7 (nOf sn0 sc0) (colI sc0 0) (colB sc0 1)) tab_ok (envL_ok hG) Tryz.func201 rfl (by kernel_rfl) rfl (by decide) (fun X hX hrho => ?_) E w vs hr hv'
   rw [Tryz.ntmps201]
   refine vwp_std hX rfl (tr := T_c7 (nOf sn0 sc0) (colI sc0 0) (colB sc0 1)) (fun j st Q h => TS_c7 hX _ rfl (nOf sn0 sc0) (colI sc0 0) (colB sc0 1) j st Q h) (Eq.mpr (N_c7 (nOf sn0 sc0) (colI sc0 0) (colB sc0 1) (fun x => x = _)) ?_)
   exact BL_c7 (nOf sn0 sc0) (colI sc0 0) (colB sc0 1) (H_c7 (nOf sn0 sc0) (colI sc0 0) (colB sc0 1) hp rfl)
 · cases h
def G_fh : List (Nat × Ag.Spec) := [(140, .pure g_cj), (141, .pure g_ep)]
def as_fh (cm : Int) (ga : Bool) (gb : Int) (gd : Bool) : List AV := [AV.agg [AV.int .i64 cm, AV.bool ga], AV.agg [AV.int .i64 gb, AV.bool gd]]
theorem N_fh (cm : Int) (ga : Bool) (gb : Int) (gd : Bool) (K : AV -> Prop) : vwp tab (envL G_fh) (fun _ _ _ => False) 0 (bodyOf Tryz.f60) (entry (as_fh cm ga gb gd) 10) (fnPost tab [.cell 4 64] fun v s => K (v.frz s.mem)) = B_fh cm ga gb gd (fun r0 r1 => K (AV.agg [AV.int .i64 r0, AV.bool r1]))  := by kernel_rfl
def g_fh : List AV -> Option (Prop × RT)
  | [AV.agg [AV.int .i64 cm, AV.bool ga], AV.agg [AV.int .i64 gb, AV.bool gd]] => some (P_fh cm ga gb gd, RT.leaf (AV.agg [AV.int .i64 (F_fh_0 cm ga gb gd), AV.bool (F_fh_1 cm ga gb gd)]))
  | _ => none
theorem S_fh : SpecOK Tryz.prog 60 (.pure g_fh) := by
 intro xs p r h hp E w vs hr hv; unfold g_fh at h; split at h
 · rename_i cm ga gb gd
   obtain ⟨rfl, rfl⟩ := some_pair h
   exact walk0 (ys := as_fh cm ga gb gd) (rs := [.cell 4 64]) tab_ok (show SpecsOK Tryz.prog G_fh from ⟨S_cj, S_ep, trivial⟩) Tryz.func60 rfl (by kernel_rfl) rfl (by decide) Tryz.ntmps60 (N_fh cm ga gb gd) (H_fh cm ga gb gd hp rfl) E w vs hr hv
 · cases h
def G_ca : List (Nat × Ag.Spec) := [(192, .pure g_fc), (224, .pure g_dy)]
def S_ca_0 (cm : Bool) (ga gm gz ia : Int) : VS := ⟨slotsN 32 0 [(1, AV.ptr false 0 0 0), (2, AV.ptr false 1 0 0), (3, AV.int .u64 gz), (4, AV.int .i64 ia)], [.one true 185 [AV.bool cm, AV.int .u64 ga, AV.int .u64 gm], .one true 185 [AV.bool false, AV.int .u64 0, AV.int .u64 0]], false, 0⟩
def X_ca_0_exit0 (cm : Bool) (ga gm o0 o1 : Int) : VS := ⟨slotsN 32 0 [(1, AV.ptr false 0 0 0), (2, AV.ptr false 1 0 0), (3, AV.int .u64 o0), (4, AV.int .i64 o1)], [.one true 185 [AV.bool cm, AV.int .u64 ga, AV.int .u64 gm], .one true 185 [AV.bool false, AV.int .u64 0, AV.int .u64 0]], false, 0⟩
theorem N_ca_0 (cm : Bool) (ga gm gz ia : Int) (Q : Exit -> VS -> Prop) : vwp tab (envL G_ca) (fun _ _ _ => False) 0 (lbody (loopAt (bodyOf Tryz.f223) 0)) (S_ca_0 cm ga gm gz ia) (QM [1, 2, 3, 4] [0, 1] 2 Q) = B_ca_0 cm ga gm gz ia (fun w0 w1 => Q .normal (S_ca_0 cm ga gm w0 w1)) (fun o0 o1 => Q (.exit 0) (X_ca_0_exit0 cm ga gm o0 o1))  := by kernel_rfl
theorem L_ca_0 {X : Cx} (hX : Std Tryz.prog tab (envL G_ca) X) (b : Code) (hb : b = bodyOf Tryz.f223) (cm : Bool) (ga gm : Int) (fu : Nat) (gz ia : Int) (Q : Exit -> VS -> Prop) (h : W_ca_0 cm ga gm fu gz ia (fun o0 o1 => Q (.exit 0) (X_ca_0_exit0 cm ga gm o0 o1))) : TrK X b 0 (S_ca_0 cm ga gm gz ia) Q := by
  subst hb
  refine loop_ok (V := Int × Int) (fun v => S_ca_0 cm ga gm v.1 v.2) (fun f v => W_ca_0 cm ga gm f v.1 v.2 (fun o0 o1 => Q (.exit 0) (X_ca_0_exit0 cm ga gm o0 o1))) (fun _ h => h) (by kernel_rfl) (fun f v hv => ?_) (fuel := fu) (v0 := (gz, ia)) h
  refine QM_ok (bs := [1, 2, 3, 4]) (ms := [0, 1]) (nm := 2) ?_
  refine vwp_std hX rfl (tr := (fun _ _ _ => False)) (fun _ _ _ h => h.elim) ?_
  refine Eq.mpr (N_ca_0 cm ga gm v.1 v.2 _) ?_
  exact BM_ca_0 cm ga gm v.1 v.2 (fun w0 w1 h => ⟨(w0, w1), rfl, h⟩) (fun _ _ h => h) hv
def T_ca (cm : Bool) (ga gm : Int) (k : Nat) (st : VS) (Q : Exit -> VS -> Prop) : Prop := match k with
  | 0 => TL [1, 2, 3, 4] [0, 1] 2 (convs st []) (fun st => S_ca_0 cm ga gm (intOf (tAt st 3)) (intOf (tAt st 4))) (fun st => W_ca_0 cm ga gm fuel (intOf (tAt st 3)) (intOf (tAt st 4)) (fun o0 o1 => Q (.exit 0) (X_ca_0_exit0 cm ga gm o0 o1)))
  | _ => False
theorem TS_ca {X : Cx} (hX : Std Tryz.prog tab (envL G_ca) X) (b : Code) (hb : b = bodyOf Tryz.f223) (cm : Bool) (ga gm : Int) (j : Nat) (st : VS) (Q : Exit -> VS -> Prop) (h : T_ca cm ga gm j st Q) : TrK X b j st Q := by
  unfold T_ca at h
  split at h
  · exact TL_ok h (fun h' => L_ca_0 hX b hb cm ga gm _ _ _ Q h')
  · exact h.elim
def as_ca (cm : Bool) (ga gm : Int) : List AV := [AV.agg [AV.bool cm, AV.int .u64 ga, AV.int .u64 gm]]
theorem N_ca (cm : Bool) (ga gm : Int) (K : AV -> Prop) : vwp tab (envL G_ca) (T_ca cm ga gm) 0 (bodyOf Tryz.f223) (entry (as_ca cm ga gm) 32) (fnPost tab [.cell 2 185] fun v s => K (v.frz s.mem)) = B_ca cm ga gm (fun r0 r1 r2 => K (AV.agg [AV.bool r0, AV.int .u64 r1, AV.int .u64 r2])) (fun p0 p1 y0 => S_ca_0 cm ga gm p0 p1 = S_ca_0 cm ga gm p0 p1 /\ W_ca_0 cm ga gm fuel p0 p1 y0) := by kernel_rfl
theorem BL_ca (cm : Bool) (ga gm : Int) {K0 : Bool -> Int -> Int -> Prop} : B_ca cm ga gm K0 (W_ca_0 cm ga gm fuel) -> B_ca cm ga gm K0 (fun p0 p1 y0 => S_ca_0 cm ga gm p0 p1 = S_ca_0 cm ga gm p0 p1 /\ W_ca_0 cm ga gm fuel p0 p1 y0) := by
  unfold B_ca
  repeat' first
    | exact id
    | refine Ts_imp ?_
    | refine cond_imp ?_ ?_
    | refine and_imp' ?_
    | refine fun h => ⟨rfl, WM_ca_0 _ _ _  (fun _ _ => ?_) _ _ _  h⟩
def g_ca : List AV -> Option (Prop × RT)
  | [AV.agg [AV.bool cm, AV.int .u64 ga, AV.int .u64 gm]] => some (P_ca cm ga gm, RT.leaf (AV.agg [AV.bool (F_ca_0 cm ga gm), AV.int .u64 (F_ca_1 cm ga gm), AV.int .u64 (F_ca_2 cm ga gm)]))
  | _ => none
theorem S_ca : SpecOK Tryz.prog 223 (.pure g_ca) := by
 intro xs p r h hp E w vs hr hv; unfold g_ca at h; split at h
 · rename_i cm ga gm
   obtain ⟨rfl, rfl⟩ := some_pair h
   have hG := (show SpecsOK Tryz.prog G_ca from ⟨S_fc, S_dy, trivial⟩)
   refine walk_pure' (c := bodyOf Tryz.f223) (rs := [.cell 2 185]) (ys := as_ca cm ga gm) tab_ok (envL_ok hG) Tryz.func223 rfl (by kernel_rfl) rfl (by decide) (fun X hX hrho => ?_) E w vs hr hv
   rw [Tryz.ntmps223]
   refine vwp_std hX rfl (tr := T_ca cm ga gm) (fun j st Q h => TS_ca hX _ rfl cm ga gm j st Q h) (Eq.mpr (N_ca cm ga gm (fun x => x = _)) ?_)
   exact BL_ca cm ga gm (H_ca cm ga gm hp rfl)
 · cases h
def G_bj : List (Nat × Ag.Spec) := [(139, .pure g_aq), (143, .pure g_d7), (147, .pure g_be), (221, .pure g_d6), (223, .pure g_ca)]
def as_bj (cm : Int) (ga : Bool) (gb : Int) (gd : Bool) : List AV := [AV.agg [AV.int .i64 cm, AV.bool ga], AV.agg [AV.int .i64 gb, AV.bool gd]]
theorem N_bj (cm : Int) (ga : Bool) (gb : Int) (gd : Bool) (K : AV -> Prop) : vwp tab (envL G_bj) (fun _ _ _ => False) 0 (bodyOf Tryz.f142) (entry (as_bj cm ga gb gd) 32) (fnPost tab [.cell 4 64] fun v s => K (v.frz s.mem)) = B_bj cm ga gb gd (fun r0 r1 => K (AV.agg [AV.int .i64 r0, AV.bool r1]))  := by kernel_rfl
def g_bj : List AV -> Option (Prop × RT)
  | [AV.agg [AV.int .i64 cm, AV.bool ga], AV.agg [AV.int .i64 gb, AV.bool gd]] => some (P_bj cm ga gb gd, RT.leaf (AV.agg [AV.int .i64 (F_bj_0 cm ga gb gd), AV.bool (F_bj_1 cm ga gb gd)]))
  | _ => none
theorem S_bj : SpecOK Tryz.prog 142 (.pure g_bj) := by
 intro xs p r h hp E w vs hr hv; unfold g_bj at h; split at h
 · rename_i cm ga gb gd
   obtain ⟨rfl, rfl⟩ := some_pair h
   exact walk0 (ys := as_bj cm ga gb gd) (rs := [.cell 4 64]) tab_ok (show SpecsOK Tryz.prog G_bj from ⟨S_aq, S_d7, S_be, S_d6, S_ca, trivial⟩) Tryz.func142 rfl (by kernel_rfl) rfl (by decide) Tryz.ntmps142 (N_bj cm ga gb gd) (H_bj cm ga gb gd hp rfl) E w vs hr hv
 · cases h
def G_eh : List (Nat × Ag.Spec) := [(147, .pure g_be), (192, .pure g_fc)]
def as_eh (a0 a1 a2 a3 : Int) : List AV := [AV.int .i64 a0, AV.int .i64 a1, AV.int .i64 a2, AV.int .i64 a3]
theorem N_eh (a0 a1 a2 a3 : Int) (K : AV -> Prop) : vwp tab (envL G_eh) (fun _ _ _ => False) 0 (bodyOf Tryz.f116) (entry (as_eh a0 a1 a2 a3) 33) (fnPost tab [.tmp 8] fun v s => K (v.frz s.mem)) = B_eh a0 a1 a2 a3 (fun r0 => K (AV.int .i64 r0))  := by kernel_rfl
def g_eh : List AV -> Option (Prop × RT)
  | [AV.int .i64 a0, AV.int .i64 a1, AV.int .i64 a2, AV.int .i64 a3] => some (P_eh a0 a1 a2 a3, RT.leaf (AV.int .i64 (F_eh_0 a0 a1 a2 a3)))
  | _ => none
theorem S_eh : SpecOK Tryz.prog 116 (.pure g_eh) := by
 intro xs p r h hp E w vs hr hv; unfold g_eh at h; split at h
 · rename_i a0 a1 a2 a3
   obtain ⟨rfl, rfl⟩ := some_pair h
   exact walk0 (ys := as_eh a0 a1 a2 a3) (rs := [.tmp 8]) tab_ok (show SpecsOK Tryz.prog G_eh from ⟨S_be, S_fc, trivial⟩) Tryz.func116 rfl (by kernel_rfl) rfl (by decide) Tryz.ntmps116 (N_eh a0 a1 a2 a3) (H_eh a0 a1 a2 a3 hp rfl) E w vs hr hv
 · cases h
def G_bx : List (Nat × Ag.Spec) := [(139, .pure g_aq)]
def as_bx (a0 : Int) : List AV := [AV.int .i64 a0]
theorem N_bx (a0 : Int) (K : AV -> Prop) : vwp tab (envL G_bx) (fun _ _ _ => False) 0 (bodyOf Tryz.f267) (entry (as_bx a0) 14) (fnPost tab [.cell 2 64] fun v s => K (v.frz s.mem)) = B_bx a0 (fun r0 r1 => K (AV.agg [AV.int .i64 r0, AV.bool r1]))  := by kernel_rfl
def g_bx : List AV -> Option (Prop × RT)
  | [AV.int .i64 a0] => some (P_bx a0, RT.leaf (AV.agg [AV.int .i64 (F_bx_0 a0), AV.bool (F_bx_1 a0)]))
  | _ => none
theorem S_bx : SpecOK Tryz.prog 267 (.pure g_bx) := by
 intro xs p r h hp E w vs hr hv; unfold g_bx at h; split at h
 · rename_i a0
   obtain ⟨rfl, rfl⟩ := some_pair h
   exact walk0 (ys := as_bx a0) (rs := [.cell 2 64]) tab_ok (show SpecsOK Tryz.prog G_bx from ⟨S_aq, trivial⟩) Tryz.func267 rfl (by kernel_rfl) rfl (by decide) Tryz.ntmps267 (N_bx a0) (H_bx a0 hp rfl) E w vs hr hv
 · cases h
def G_dc : List (Nat × Ag.Spec) := [(139, .pure g_aq), (143, .pure g_d7), (144, .pure g_dr), (145, .pure g_ai), (223, .pure g_ca)]
def as_dc (cm : Int) (ga : Bool) : List AV := [AV.agg [AV.int .i64 cm, AV.bool ga]]
theorem N_dc (cm : Int) (ga : Bool) (K : AV -> Prop) : vwp tab (envL G_dc) (fun _ _ _ => False) 0 (bodyOf Tryz.f186) (entry (as_dc cm ga) 19) (fnPost tab [.cell 2 64] fun v s => K (v.frz s.mem)) = B_dc cm ga (fun r0 r1 => K (AV.agg [AV.int .i64 r0, AV.bool r1]))  := by kernel_rfl
def g_dc : List AV -> Option (Prop × RT)
  | [AV.agg [AV.int .i64 cm, AV.bool ga]] => some (P_dc cm ga, RT.leaf (AV.agg [AV.int .i64 (F_dc_0 cm ga), AV.bool (F_dc_1 cm ga)]))
  | _ => none
theorem S_dc : SpecOK Tryz.prog 186 (.pure g_dc) := by
 intro xs p r h hp E w vs hr hv; unfold g_dc at h; split at h
 · rename_i cm ga
   obtain ⟨rfl, rfl⟩ := some_pair h
   exact walk0 (ys := as_dc cm ga) (rs := [.cell 2 64]) tab_ok (show SpecsOK Tryz.prog G_dc from ⟨S_aq, S_d7, S_dr, S_ai, S_ca, trivial⟩) Tryz.func186 rfl (by kernel_rfl) rfl (by decide) Tryz.ntmps186 (N_dc cm ga) (H_dc cm ga hp rfl) E w vs hr hv
 · cases h
def G_eu : List (Nat × Ag.Spec) := [(187, .pure g_cv), (201, .pure g_c7)]
def as_eu (cm : Int) (ga : Bool) (gb : Int) (gd : Bool) (gh : Int) (gj : Bool) : List AV := [AV.agg [AV.int .i64 cm, AV.bool ga], AV.agg [AV.int .i64 gb, AV.bool gd], AV.agg [AV.int .i64 gh, AV.bool gj]]
theorem N_eu (cm : Int) (ga : Bool) (gb : Int) (gd : Bool) (gh : Int) (gj : Bool) (K : AV -> Prop) : vwp tab (envL G_eu) (fun _ _ _ => False) 0 (bodyOf Tryz.f190) (entry (as_eu cm ga gb gd gh gj) 14) (fnPost tab [.cell 6 64] fun v s => K (v.frz s.mem)) = B_eu cm ga gb gd gh gj (fun r0 r1 => K (AV.agg [AV.int .i64 r0, AV.bool r1]))  := by kernel_rfl
def g_eu : List AV -> Option (Prop × RT)
  | [AV.agg [AV.int .i64 cm, AV.bool ga], AV.agg [AV.int .i64 gb, AV.bool gd], AV.agg [AV.int .i64 gh, AV.bool gj]] => some (P_eu cm ga gb gd gh gj, RT.leaf (AV.agg [AV.int .i64 (F_eu_0 cm ga gb gd gh gj), AV.bool (F_eu_1 cm ga gb gd gh gj)]))
  | _ => none
theorem S_eu : SpecOK Tryz.prog 190 (.pure g_eu) := by
 intro xs p r h hp E w vs hr hv; unfold g_eu at h; split at h
 · rename_i cm ga gb gd gh gj
   obtain ⟨rfl, rfl⟩ := some_pair h
   exact walk0 (ys := as_eu cm ga gb gd gh gj) (rs := [.cell 6 64]) tab_ok (show SpecsOK Tryz.prog G_eu from ⟨S_cv, S_c7, trivial⟩) Tryz.func190 rfl (by kernel_rfl) rfl (by decide) Tryz.ntmps190 (N_eu cm ga gb gd gh gj) (H_eu cm ga gb gd gh gj hp rfl) E w vs hr hv
 · cases h
def G_bu : List (Nat × Ag.Spec) := []
def S_bu_0 (gp : Nat) (cm : Nat -> Int) (ga : Nat -> Bool) (ic : Int) : VS := ⟨slotsN 14 0 [(2, AV.bool false), (5, AV.rs none gp [CF.I .i64 cm, CF.B ga]), (6, AV.int .i64 ((gp : Nat) : Int)), (7, AV.int .i64 ic)], [], false, 0⟩
def X_bu_0_exit0 (gp : Nat) (cm : Nat -> Int) (ga : Nat -> Bool) (o0 : Int) : VS := ⟨slotsN 14 0 [(2, AV.bool false), (5, AV.rs none gp [CF.I .i64 cm, CF.B ga]), (6, AV.int .i64 ((gp : Nat) : Int)), (7, AV.int .i64 o0)], [], false, 0⟩
def X_bu_0_ret (gp : Nat) (cm : Nat -> Int) (ga : Nat -> Bool) (o0 : Bool) (o1 : Int) : VS := ⟨slotsN 14 0 [(2, AV.bool o0), (5, AV.rs none gp [CF.I .i64 cm, CF.B ga]), (6, AV.int .i64 ((gp : Nat) : Int)), (7, AV.int .i64 o1)], [], false, 0⟩
theorem N_bu_0 (gp : Nat) (cm : Nat -> Int) (ga : Nat -> Bool) (ic : Int) (Q : Exit -> VS -> Prop) : vwp tab (envL G_bu) (fun _ _ _ => False) 0 (lbody (loopAt (bodyOf Tryz.f258) 0)) (S_bu_0 gp cm ga ic) (QM [2, 5, 6, 7] [] 0 Q) = B_bu_0 gp cm ga ic (fun w0 => Q .normal (S_bu_0 gp cm ga w0)) (fun o0 => Q (.exit 0) (X_bu_0_exit0 gp cm ga o0)) (fun o0 o1 => Q .ret (X_bu_0_ret gp cm ga o0 o1))  := by kernel_rfl
theorem L_bu_0 {X : Cx} (hX : Std Tryz.prog tab (envL G_bu) X) (b : Code) (hb : b = bodyOf Tryz.f258) (gp : Nat) (cm : Nat -> Int) (ga : Nat -> Bool) (fu : Nat) (ic : Int) (Q : Exit -> VS -> Prop) (h : W_bu_0 gp cm ga fu ic (fun o0 => Q (.exit 0) (X_bu_0_exit0 gp cm ga o0)) (fun o0 o1 => Q .ret (X_bu_0_ret gp cm ga o0 o1))) : TrK X b 0 (S_bu_0 gp cm ga ic) Q := by
  subst hb
  refine loop_ok (V := Int) (fun v => S_bu_0 gp cm ga v) (fun f v => W_bu_0 gp cm ga f v (fun o0 => Q (.exit 0) (X_bu_0_exit0 gp cm ga o0)) (fun o0 o1 => Q .ret (X_bu_0_ret gp cm ga o0 o1))) (fun _ h => h) (by kernel_rfl) (fun f v hv => ?_) (fuel := fu) (v0 := (ic)) h
  refine QM_ok (bs := [2, 5, 6, 7]) (ms := []) (nm := 0) ?_
  refine vwp_std hX rfl (tr := (fun _ _ _ => False)) (fun _ _ _ h => h.elim) ?_
  refine Eq.mpr (N_bu_0 gp cm ga v _) ?_
  exact BM_bu_0 gp cm ga v (fun w0 h => ⟨w0, rfl, h⟩) (fun _ h => h) (fun _ _ h => h) hv
def T_bu (gp : Nat) (cm : Nat -> Int) (ga : Nat -> Bool) (k : Nat) (st : VS) (Q : Exit -> VS -> Prop) : Prop := match k with
  | 0 => TL [2, 5, 6, 7] [] 0 (convs st []) (fun st => S_bu_0 gp cm ga (intOf (tAt st 7))) (fun st => W_bu_0 gp cm ga fuel (intOf (tAt st 7)) (fun o0 => Q (.exit 0) (X_bu_0_exit0 gp cm ga o0)) (fun o0 o1 => Q .ret (X_bu_0_ret gp cm ga o0 o1)))
  | _ => False
theorem TS_bu {X : Cx} (hX : Std Tryz.prog tab (envL G_bu) X) (b : Code) (hb : b = bodyOf Tryz.f258) (gp : Nat) (cm : Nat -> Int) (ga : Nat -> Bool) (j : Nat) (st : VS) (Q : Exit -> VS -> Prop) (h : T_bu gp cm ga j st Q) : TrK X b j st Q := by
  unfold T_bu at h
  split at h
  · exact TL_ok h (fun h' => L_bu_0 hX b hb gp cm ga _ _ Q h')
  · exact h.elim
def as_bu (gp : Nat) (cm : Nat -> Int) (ga : Nat -> Bool) : List AV := [AV.rs none gp [CF.I .i64 cm, CF.B ga]]
theorem N_bu (gp : Nat) (cm : Nat -> Int) (ga : Nat -> Bool) (K : AV -> Prop) : vwp tab (envL G_bu) (T_bu gp cm ga) 0 (bodyOf Tryz.f258) (entry (as_bu gp cm ga) 14) (fnPost tab [.tmp 2] fun v s => K (v.frz s.mem)) = B_bu gp cm ga (fun r0 => K (AV.bool r0)) (fun p0 y0 y1 => S_bu_0 gp cm ga p0 = S_bu_0 gp cm ga p0 /\ W_bu_0 gp cm ga fuel p0 y0 y1) := by kernel_rfl
theorem BL_bu (gp : Nat) (cm : Nat -> Int) (ga : Nat -> Bool) {K0 : Bool -> Prop} : B_bu gp cm ga K0 (W_bu_0 gp cm ga fuel) -> B_bu gp cm ga K0 (fun p0 y0 y1 => S_bu_0 gp cm ga p0 = S_bu_0 gp cm ga p0 /\ W_bu_0 gp cm ga fuel p0 y0 y1) := by
  unfold B_bu
  repeat' first
    | exact id
    | refine Ts_imp ?_
    | refine cond_imp ?_ ?_
    | refine and_imp' ?_
    | refine fun h => ⟨rfl, WM_bu_0 _ _ _  (fun _ => ?_) (fun _ _ => ?_) _ _  h⟩
def g_bu : List AV -> Option (Prop × RT)
  | [AV.rs sq0 sn0 sc0] => cond (kindsOK [KC.I .i64, KC.B] sc0) (some (P_bu (nOf sn0 sc0) (colI sc0 0) (colB sc0 1), RT.leaf (AV.bool (F_bu_0 (nOf sn0 sc0) (colI sc0 0) (colB sc0 1))))) none
  | _ => none
theorem S_bu : SpecOK Tryz.prog 258 (.pure g_bu) := by
 intro xs p r h hp E w vs hr hv; unfold g_bu at h; split at h
 · rename_i sq0 sn0 sc0
   obtain ⟨hk0, h⟩ := cond_some h
   obtain ⟨rfl, rfl⟩ := some_pair h
   have hG := (show SpecsOK Tryz.prog G_bu from trivial)
   have hv' := ((AV.les.cons (AV.le.rs hk0) AV.les.nil) _ _ hv : VRs E.bare (as_bu (nOf sn0 sc0) (colI sc0 0) (colB sc0 1)) vs)
   refine walk_pure' (c := bodyOf Tryz.f258) (rs := [.tmp 2]) (ys := as_bu (nOf sn0 sc0) (colI sc0 0) (colB sc0 1)) tab_ok (envL_ok hG) Tryz.func258 rfl (by kernel_rfl) rfl (by decide) (fun X hX hrho => ?_) E w vs hr hv'
   rw [Tryz.ntmps258]
   refine vwp_std hX rfl (tr := T_bu (nOf sn0 sc0) (colI sc0 0) (colB sc0 1)) (fun j st Q h => TS_bu hX _ rfl (nOf sn0 sc0) (colI sc0 0) (colB sc0 1) j st Q h) (Eq.mpr (N_bu (nOf sn0 sc0) (colI sc0 0) (colB sc0 1) (fun x => x = _)) ?_)
   exact BL_bu (nOf sn0 sc0) (colI sc0 0) (colB sc0 1) (H_bu (nOf sn0 sc0) (colI sc0 0) (colB sc0 1) hp rfl)
 · cases h
def G_av : List (Nat × Ag.Spec) := []
def as_av (cm : Int) (ga : Bool) : List AV := [AV.agg [AV.int .i64 cm, AV.bool ga]]
theorem N_av (cm : Int) (ga : Bool) (K : AV -> Prop) : vwp tab (envL G_av) (fun _ _ _ => False) 0 (bodyOf Tryz.f196) (entry (as_av cm ga) 8) (fnPost tab [.cell 2 64] fun v s => K (v.frz s.mem)) = B_av cm ga (fun r0 r1 => K (AV.agg [AV.int .i64 r0, AV.bool r1]))  := by kernel_rfl
def g_av : List AV -> Option (Prop × RT)
  | [AV.agg [AV.int .i64 cm, AV.bool ga]] => some (P_av cm ga, RT.leaf (AV.agg [AV.int .i64 (F_av_0 cm ga), AV.bool (F_av_1 cm ga)]))
  | _ => none
theorem S_av : SpecOK Tryz.prog 196 (.pure g_av) := by
 intro xs p r h hp E w vs hr hv; unfold g_av at h; split at h
 · rename_i cm ga
   obtain ⟨rfl, rfl⟩ := some_pair h
   exact walk0 (ys := as_av cm ga) (rs := [.cell 2 64]) tab_ok (show SpecsOK Tryz.prog G_av from trivial) Tryz.func196 rfl (by kernel_rfl) rfl (by decide) Tryz.ntmps196 (N_av cm ga) (H_av cm ga hp rfl) E w vs hr hv
 · cases h
def G_az : List (Nat × Ag.Spec) := [(196, .pure g_av)]
def S_az_0 (gp : Nat) (cm : Nat -> Int) (ga : Nat -> Bool) (ib : Bool) (i5 : Int) (i7 : (Nat -> Int)) : VS := ⟨slotsN 33 0 [(2, AV.nils), (3, AV.bool false), (4, AV.sl (some false) 0 (Int.toNat ((gp : Nat) : Int)) 1), (5, AV.bool ib), (11, AV.rs none gp [CF.I .i64 cm, CF.B ga]), (12, AV.int .i64 ((gp : Nat) : Int)), (13, AV.int .i64 i5)], [.many true 2 (Int.toNat ((gp : Nat) : Int)) [CF.I .i64 i7]], false, 0⟩
def X_az_0_exit0 (gp : Nat) (cm : Nat -> Int) (ga : Nat -> Bool) (o0 : Bool) (o1 : Int) (o2 : (Nat -> Int)) : VS := ⟨slotsN 33 0 [(2, AV.nils), (3, AV.bool false), (4, AV.sl (some false) 0 (Int.toNat ((gp : Nat) : Int)) 1), (5, AV.bool o0), (11, AV.rs none gp [CF.I .i64 cm, CF.B ga]), (12, AV.int .i64 ((gp : Nat) : Int)), (13, AV.int .i64 o1)], [.many true 2 (Int.toNat ((gp : Nat) : Int)) [CF.I .i64 o2]], false, 0⟩
theorem N_az_0 (gp : Nat) (cm : Nat -> Int) (ga : Nat -> Bool) (ib : Bool) (i5 : Int) (i7 : (Nat -> Int)) (Q : Exit -> VS -> Prop) : vwp tab (envL G_az) (fun _ _ _ => False) 0 (lbody (loopAt (bodyOf Tryz.f290) 0)) (S_az_0 gp cm ga ib i5 i7) (QM [2, 3, 4, 5, 11, 12, 13] [0] 1 Q) = B_az_0 gp cm ga ib i5 i7 (fun w0 w1 w2 => Q .normal (S_az_0 gp cm ga w0 w1 w2)) (fun o0 o1 o2 => Q (.exit 0) (X_az_0_exit0 gp cm ga o0 o1 o2))  := by kernel_rfl
theorem L_az_0 {X : Cx} (hX : Std Tryz.prog tab (envL G_az) X) (b : Code) (hb : b = bodyOf Tryz.f290) (gp : Nat) (cm : Nat -> Int) (ga : Nat -> Bool) (fu : Nat) (ib : Bool) (i5 : Int) (i7 : (Nat -> Int)) (Q : Exit -> VS -> Prop) (h : W_az_0 gp cm ga fu ib i5 i7 (fun o0 o1 o2 => Q (.exit 0) (X_az_0_exit0 gp cm ga o0 o1 o2))) : TrK X b 0 (S_az_0 gp cm ga ib i5 i7) Q := by
  subst hb
  refine loop_ok (V := Bool × Int × (Nat -> Int)) (fun v => S_az_0 gp cm ga v.1 v.2.1 v.2.2) (fun f v => W_az_0 gp cm ga f v.1 v.2.1 v.2.2 (fun o0 o1 o2 => Q (.exit 0) (X_az_0_exit0 gp cm ga o0 o1 o2))) (fun _ h => h) (by kernel_rfl) (fun f v hv => ?_) (fuel := fu) (v0 := (ib, i5, i7)) h
  refine QM_ok (bs := [2, 3, 4, 5, 11, 12, 13]) (ms := [0]) (nm := 1) ?_
  refine vwp_std hX rfl (tr := (fun _ _ _ => False)) (fun _ _ _ h => h.elim) ?_
  refine Eq.mpr (N_az_0 gp cm ga v.1 v.2.1 v.2.2 _) ?_
  exact BM_az_0 gp cm ga v.1 v.2.1 v.2.2 (fun w0 w1 w2 h => ⟨(w0, w1, w2), rfl, h⟩) (fun _ _ _ h => h) hv
def T_az (gp : Nat) (cm : Nat -> Int) (ga : Nat -> Bool) (k : Nat) (st : VS) (Q : Exit -> VS -> Prop) : Prop := match k with
  | 0 => TL [2, 3, 4, 5, 11, 12, 13] [0] 1 (convs st []) (fun st => S_az_0 gp cm ga (boolOf (tAt st 5)) (intOf (tAt st 13)) (colI (cAB (blkAt st 0)) 0)) (fun st => W_az_0 gp cm ga fuel (boolOf (tAt st 5)) (intOf (tAt st 13)) (colI (cAB (blkAt st 0)) 0) (fun o0 o1 o2 => Q (.exit 0) (X_az_0_exit0 gp cm ga o0 o1 o2)))
  | _ => False
theorem TS_az {X : Cx} (hX : Std Tryz.prog tab (envL G_az) X) (b : Code) (hb : b = bodyOf Tryz.f290) (gp : Nat) (cm : Nat -> Int) (ga : Nat -> Bool) (j : Nat) (st : VS) (Q : Exit -> VS -> Prop) (h : T_az gp cm ga j st Q) : TrK X b j st Q := by
  unfold T_az at h
  split at h
  · exact TL_ok h (fun h' => L_az_0 hX b hb gp cm ga _ _ _ _ Q h')
  · exact h.elim
def as_az (gp : Nat) (cm : Nat -> Int) (ga : Nat -> Bool) : List AV := [AV.rs none gp [CF.I .i64 cm, CF.B ga]]
theorem N_az (gp : Nat) (cm : Nat -> Int) (ga : Nat -> Bool) (K : AV -> Prop) : vwp tab (envL G_az) (T_az gp cm ga) 0 (bodyOf Tryz.f290) (entry (as_az gp cm ga) 33) (fnPost tab [.tmp 2, .tmp 3] fun v s => K (v.frz s.mem)) = B_az gp cm ga (fun r0 r1 r2 => K (AV.tup [AV.rs none r0 [CF.I .i64 r1], AV.bool r2])) (fun p0 p1 p2 y0 => S_az_0 gp cm ga p0 p1 p2 = S_az_0 gp cm ga p0 p1 p2 /\ W_az_0 gp cm ga fuel p0 p1 p2 y0) := by kernel_rfl
theorem BL_az (gp : Nat) (cm : Nat -> Int) (ga : Nat -> Bool) {K0 : Nat -> (Nat -> Int) -> Bool -> Prop} : B_az gp cm ga K0 (W_az_0 gp cm ga fuel) -> B_az gp cm ga K0 (fun p0 p1 p2 y0 => S_az_0 gp cm ga p0 p1 p2 = S_az_0 gp cm ga p0 p1 p2 /\ W_az_0 gp cm ga fuel p0 p1 p2 y0) := by
  unfold B_az
  repeat' first
    | exact id
    | refine Ts_imp ?_
    | refine cond_imp ?_ ?_
    | refine and_imp' ?_
    | refine fun h => ⟨rfl, WM_az_0 _ _ _  (fun _ _ _ => ?_) _ _ _ _  h⟩
def g_az : List AV -> Option (Prop × RT)
  | [AV.rs sq0 sn0 sc0] => cond (kindsOK [KC.I .i64, KC.B] sc0) (some (P_az (nOf sn0 sc0) (colI sc0 0) (colB sc0 1), RT.leaf (AV.tup [AV.rs none (F_az_0 (nOf sn0 sc0) (colI sc0 0) (colB sc0 1)) [CF.I .i64 (F_az_1 (nOf sn0 sc0) (colI sc0 0) (colB sc0 1))], AV.bool (F_az_2 (nOf sn0 sc0) (colI sc0 0) (colB sc0 1))]))) none
  | _ => none
theorem S_az : SpecOK Tryz.prog 290 (.pure g_az) := by
 intro xs p r h hp E w vs hr hv; unfold g_az at h; split at h
 · rename_i sq0 sn0 sc0
   obtain ⟨hk0, h⟩ := cond_some h
   obtain ⟨rfl, rfl⟩ := some_pair h
   have hG := (show SpecsOK Tryz.prog G_az from ⟨S_av, trivial⟩)
   have hv' := ((AV.les.cons (AV.le.rs hk0) AV.les.nil) _ _ hv : VRs E.bare (as_az (nOf sn0 sc0) (colI sc0 0) (colB sc0 1)) vs)
   refine walk_pure' (c := bodyOf Tryz.f290) (rs := [.tmp 2, .tmp 3]) (ys := as_az (nOf sn0 sc0) (colI sc0 0) (colB sc0 1)) tab_ok (envL_ok hG) Tryz.func290 rfl (by kernel_rfl) rfl (by decide) (fun X hX hrho => ?_) E w vs hr hv'
   rw [Tryz.ntmps290]
   refine vwp_std hX rfl (tr := T_az (nOf sn0 sc0) (colI sc0 0) (colB sc0 1)) (fun j st Q h => TS_az hX _ rfl (nOf sn0 sc0) (colI sc0 0) (colB sc0 1) j st Q h) (Eq.mpr (N_az (nOf sn0 sc0) (colI sc0 0) (colB sc0 1) (fun x => x = _)) ?_)
   exact BL_az (nOf sn0 sc0) (colI sc0 0) (colB sc0 1) (H_az (nOf sn0 sc0) (colI sc0 0) (colB sc0 1) hp rfl)
 · cases h
def G_br : List (Nat × Ag.Spec) := []
def as_br (cm : Bool) (ge gg : Int) (a1 : Bool) : List AV := [AV.agg [AV.bool cm, AV.int .u64 ge, AV.int .u64 gg], AV.bool a1]
theorem N_br (cm : Bool) (ge gg : Int) (a1 : Bool) (K : AV -> Prop) : vwp tab (envL G_br) (fun _ _ _ => False) 0 (bodyOf Tryz.f257) (entry (as_br cm ge gg a1) 30) (fnPost tab [.cell 4 64] fun v s => K (v.frz s.mem)) = B_br cm ge gg a1 (fun r0 r1 => K (AV.agg [AV.int .i64 r0, AV.bool r1]))  := by kernel_rfl
def g_br : List AV -> Option (Prop × RT)
  | [AV.agg [AV.bool cm, AV.int .u64 ge, AV.int .u64 gg], AV.bool a1] => some (P_br cm ge gg a1, RT.leaf (AV.agg [AV.int .i64 (F_br_0 cm ge gg a1), AV.bool (F_br_1 cm ge gg a1)]))
  | _ => none
theorem S_br : SpecOK Tryz.prog 257 (.pure g_br) := by
 intro xs p r h hp E w vs hr hv; unfold g_br at h; split at h
 · rename_i cm ge gg a1
   obtain ⟨rfl, rfl⟩ := some_pair h
   exact walk0 (ys := as_br cm ge gg a1) (rs := [.cell 4 64]) tab_ok (show SpecsOK Tryz.prog G_br from trivial) Tryz.func257 rfl (by kernel_rfl) rfl (by decide) Tryz.ntmps257 (N_br cm ge gg a1) (H_br cm ge gg a1 hp rfl) E w vs hr hv
 · cases h
def G_bf : List (Nat × Ag.Spec) := []
def as_bf (a0 : Int) : List AV := [AV.int .i64 a0]
theorem N_bf (a0 : Int) (K : AV -> Prop) : vwp tab (envL G_bf) (fun _ _ _ => False) 0 (bodyOf Tryz.f259) (entry (as_bf a0) 14) (fnPost tab [.cell 2 270] fun v s => K (v.frz s.mem)) = B_bf a0 (fun r0 r1 r2 => K (AV.agg [AV.bool r0, AV.int .u64 r1, AV.int .u64 r2]))  := by kernel_rfl
def g_bf : List AV -> Option (Prop × RT)
  | [AV.int .i64 a0] => some (P_bf a0, RT.leaf (AV.agg [AV.bool (F_bf_0 a0), AV.int .u64 (F_bf_1 a0), AV.int .u64 (F_bf_2 a0)]))
  | _ => none
theorem S_bf : SpecOK Tryz.prog 259 (.pure g_bf) := by
 intro xs p r h hp E w vs hr hv; unfold g_bf at h; split at h
 · rename_i a0
   obtain ⟨rfl, rfl⟩ := some_pair h
   exact walk0 (ys := as_bf a0) (rs := [.cell 2 270]) tab_ok (show SpecsOK Tryz.prog G_bf from trivial) Tryz.func259 rfl (by kernel_rfl) rfl (by decide) Tryz.ntmps259 (N_bf a0) (H_bf a0 hp rfl) E w vs hr hv
 · cases h
def G_bk : List (Nat × Ag.Spec) := []
def as_bk (cm : Bool) (ge gg : Int) : List AV := [AV.agg [AV.bool cm, AV.int .u64 ge, AV.int .u64 gg]]
theorem N_bk (cm : Bool) (ge gg : Int) (K : AV -> Prop) : vwp tab (envL G_bk) (fun _ _ _ => False) 0 (bodyOf Tryz.f260) (entry (as_bk cm ge gg) 19) (fnPost tab [.cell 2 270] fun v s => K (v.frz s.mem)) = B_bk cm ge gg (fun r0 r1 r2 => K (AV.agg [AV.bool r0, AV.int .u64 r1, AV.int .u64 r2]))  := by kernel_rfl
def g_bk : List AV -> Option (Prop × RT)
  | [AV.agg [AV.bool cm, AV.int .u64 ge, AV.int .u64 gg]] => some (P_bk cm ge gg, RT.leaf (AV.agg [AV.bool (F_bk_0 cm ge gg), AV.int .u64 (F_bk_1 cm ge gg), AV.int .u64 (F_bk_2 cm ge gg)]))
  | _ => none
theorem S_bk : SpecOK Tryz.prog 260 (.pure g_bk) := by
 intro xs p r h hp E w vs hr hv; unfold g_bk at h; split at h
 · rename_i cm ge gg
   obtain ⟨rfl, rfl⟩ := some_pair h
   exact walk0 (ys := as_bk cm ge gg) (rs := [.cell 2 270]) tab_ok (show SpecsOK Tryz.prog G_bk from trivial) Tryz.func260 rfl (by kernel_rfl) rfl (by decide) Tryz.ntmps260 (N_bk cm ge gg) (H_bk cm ge gg hp rfl) E w vs hr hv
 · cases h
def G_cn : List (Nat × Ag.Spec) := [(81, .pure g_cl), (257, .pure g_br), (259, .pure g_bf), (260, .pure g_bk), (262, .pure g_a9)]
def as_cn (a0 a1 : Int) : List AV := [AV.int .i64 a0, AV.int .i64 a1]
theorem N_cn (a0 a1 : Int) (K : AV -> Prop) : vwp tab (envL G_cn) (fun _ _ _ => False) 0 (bodyOf Tryz.f176) (entry (as_cn a0 a1) 53) (fnPost tab [.cell 4 64] fun v s => K (v.frz s.mem)) = B_cn a0 a1 (fun r0 r1 => K (AV.agg [AV.int .i64 r0, AV.bool r1]))  := by kernel_rfl
def g_cn : List AV -> Option (Prop × RT)
  | [AV.int .i64 a0, AV.int .i64 a1] => some (P_cn a0 a1, RT.leaf (AV.agg [AV.int .i64 (F_cn_0 a0 a1), AV.bool (F_cn_1 a0 a1)]))
  | _ => none
theorem S_cn : SpecOK Tryz.prog 176 (.pure g_cn) := by
 intro xs p r h hp E w vs hr hv; unfold g_cn at h; split at h
 · rename_i a0 a1
   obtain ⟨rfl, rfl⟩ := some_pair h
   exact walk0 (ys := as_cn a0 a1) (rs := [.cell 4 64]) tab_ok (show SpecsOK Tryz.prog G_cn from ⟨S_cl, S_br, S_bf, S_bk, S_a9, trivial⟩) Tryz.func176 rfl (by kernel_rfl) rfl (by decide) Tryz.ntmps176 (N_cn a0 a1) (H_cn a0 a1 hp rfl) E w vs hr hv
 · cases h
def G_et : List (Nat × Ag.Spec) := [(257, .pure g_br), (259, .pure g_bf), (260, .pure g_bk)]
def as_et (a0 : Int) : List AV := [AV.int .i64 a0]
theorem N_et (a0 : Int) (K : AV -> Prop) : vwp tab (envL G_et) (fun _ _ _ => False) 0 (bodyOf Tryz.f171) (entry (as_et a0) 7) (fnPost tab [.cell 2 64] fun v s => K (v.frz s.mem)) = B_et a0 (fun r0 r1 => K (AV.agg [AV.int .i64 r0, AV.bool r1]))  := by kernel_rfl
def g_et : List AV -> Option (Prop × RT)
  | [AV.int .i64 a0] => some (P_et a0, RT.leaf (AV.agg [AV.int .i64 (F_et_0 a0), AV.bool (F_et_1 a0)]))
  | _ => none
theorem S_et : SpecOK Tryz.prog 171 (.pure g_et) := by
 intro xs p r h hp E w vs hr hv; unfold g_et at h; split at h
 · rename_i a0
   obtain ⟨rfl, rfl⟩ := some_pair h
   exact walk0 (ys := as_et a0) (rs := [.cell 2 64]) tab_ok (show SpecsOK Tryz.prog G_et from ⟨S_br, S_bf, S_bk, trivial⟩) Tryz.func171 rfl (by kernel_rfl) rfl (by decide) Tryz.ntmps171 (N_et a0) (H_et a0 hp rfl) E w vs hr hv
 · cases h
def G_ao : List (Nat × Ag.Spec) := [(224, .pure g_dy), (259, .pure g_bf)]
def as_ao (a0 a1 : Int) : List AV := [AV.int .i64 a0, AV.int .i64 a1]
theorem N_ao (a0 a1 : Int) (K : AV -> Prop) : vwp tab (envL G_ao) (fun _ _ _ => False) 0 (bodyOf Tryz.f254) (entry (as_ao a0 a1) 32) (fnPost tab [.cell 4 270] fun v s => K (v.frz s.mem)) = B_ao a0 a1 (fun r0 r1 r2 => K (AV.agg [AV.bool r0, AV.int .u64 r1, AV.int .u64 r2]))  := by kernel_rfl
def g_ao : List AV -> Option (Prop × RT)
  | [AV.int .i64 a0, AV.int .i64 a1] => some (P_ao a0 a1, RT.leaf (AV.agg [AV.bool (F_ao_0 a0 a1), AV.int .u64 (F_ao_1 a0 a1), AV.int .u64 (F_ao_2 a0 a1)]))
  | _ => none
theorem S_ao : SpecOK Tryz.prog 254 (.pure g_ao) := by
 intro xs p r h hp E w vs hr hv; unfold g_ao at h; split at h
 · rename_i a0 a1
   obtain ⟨rfl, rfl⟩ := some_pair h
   exact walk0 (ys := as_ao a0 a1) (rs := [.cell 4 270]) tab_ok (show SpecsOK Tryz.prog G_ao from ⟨S_dy, S_bf, trivial⟩) Tryz.func254 rfl (by kernel_rfl) rfl (by decide) Tryz.ntmps254 (N_ao a0 a1) (H_ao a0 a1 hp rfl) E w vs hr hv
 · cases h
def G_cb : List (Nat × Ag.Spec) := []
def as_cb (cm : Bool) (ge gg : Int) : List AV := [AV.agg [AV.bool cm, AV.int .u64 ge, AV.int .u64 gg]]
theorem N_cb (cm : Bool) (ge gg : Int) (K : AV -> Prop) : vwp tab (envL G_cb) (fun _ _ _ => False) 0 (bodyOf Tryz.f256) (entry (as_cb cm ge gg) 19) (fnPost tab [.cell 2 270] fun v s => K (v.frz s.mem)) = B_cb cm ge gg (fun r0 r1 r2 => K (AV.agg [AV.bool r0, AV.int .u64 r1, AV.int .u64 r2]))  := by kernel_rfl
def g_cb : List AV -> Option (Prop × RT)
  | [AV.agg [AV.bool cm, AV.int .u64 ge, AV.int .u64 gg]] => some (P_cb cm ge gg, RT.leaf (AV.agg [AV.bool (F_cb_0 cm ge gg), AV.int .u64 (F_cb_1 cm ge gg), AV.int .u64 (F_cb_2 cm ge gg)]))
  | _ => none
theorem S_cb : SpecOK Tryz.prog 256 (.pure g_cb) := by
 intro xs p r h hp E w vs hr hv; unfold g_cb at h; split at h
 · rename_i cm ge gg
   obtain ⟨rfl, rfl⟩ := some_pair h
   exact walk0 (ys := as_cb cm ge gg) (rs := [.cell 2 270]) tab_ok (show SpecsOK Tryz.prog G_cb from trivial) Tryz.func256 rfl (by kernel_rfl) rfl (by decide) Tryz.ntmps256 (N_cb cm ge gg) (H_cb cm ge gg hp rfl) E w vs hr hv
 · cases h
def G_c8 : List (Nat × Ag.Spec) := [(196, .pure g_av), (254, .pure g_ao), (256, .pure g_cb), (257, .pure g_br), (258, .pure g_bu)]
def as_c8 (cm : Int) (ga : Bool) (gb : Int) (gd : Bool) : List AV := [AV.agg [AV.int .i64 cm, AV.bool ga], AV.agg [AV.int .i64 gb, AV.bool gd]]
theorem N_c8 (cm : Int) (ga : Bool) (gb : Int) (gd : Bool) (K : AV -> Prop) : vwp tab (envL G_c8) (fun _ _ _ => False) 0 (bodyOf Tryz.f173) (entry (as_c8 cm ga gb gd) 20) (fnPost tab [.cell 4 64] fun v s => K (v.frz s.mem)) = B_c8 cm ga gb gd (fun r0 r1 => K (AV.agg [AV.int .i64 r0, AV.bool r1]))  := by kernel_rfl
def g_c8 : List AV -> Option (Prop × RT)
  | [AV.agg [AV.int .i64 cm, AV.bool ga], AV.agg [AV.int .i64 gb, AV.bool gd]] => some (P_c8 cm ga gb gd, RT.leaf (AV.agg [AV.int .i64 (F_c8_0 cm ga gb gd), AV.bool (F_c8_1 cm ga gb gd)]))
  | _ => none
theorem S_c8 : SpecOK Tryz.prog 173 (.pure g_c8) := by
 intro xs p r h hp E w vs hr hv; unfold g_c8 at h; split at h
 · rename_i cm ga gb gd
   obtain ⟨rfl, rfl⟩ := some_pair h
   exact walk0 (ys := as_c8 cm ga gb gd) (rs := [.cell 4 64]) tab_ok (show SpecsOK Tryz.prog G_c8 from ⟨S_av, S_ao, S_cb, S_br, S_bu, trivial⟩) Tryz.func173 rfl (by kernel_rfl) rfl (by decide) Tryz.ntmps173 (N_c8 cm ga gb gd) (H_c8 cm ga gb gd hp rfl) E w vs hr hv
 · cases h
def G_cf : List (Nat × Ag.Spec) := [(80, .pure g_bv), (305, .pure g_bt)]
def as_cf (cm ga gb gd : Int) : List AV := [AV.agg [AV.int .u64 cm, AV.int .u64 ga], AV.agg [AV.int .u64 gb, AV.int .u64 gd]]
theorem N_cf (cm ga gb gd : Int) (K : AV -> Prop) : vwp tab (envL G_cf) (fun _ _ _ => False) 0 (bodyOf Tryz.f289) (entry (as_cf cm ga gb gd) 17) (fnPost tab [.tmp 4] fun v s => K (v.frz s.mem)) = B_cf cm ga gb gd (fun r0 => K (AV.int .i64 r0))  := by kernel_rfl
def g_cf : List AV -> Option (Prop × RT)
  | [AV.agg [AV.int .u64 cm, AV.int .u64 ga], AV.agg [AV.int .u64 gb, AV.int .u64 gd]] => some (P_cf cm ga gb gd, RT.leaf (AV.int .i64 (F_cf_0 cm ga gb gd)))
  | _ => none
theorem S_cf : SpecOK Tryz.prog 289 (.pure g_cf) := by
 intro xs p r h hp E w vs hr hv; unfold g_cf at h; split at h
 · rename_i cm ga gb gd
   obtain ⟨rfl, rfl⟩ := some_pair h
   exact walk0 (ys := as_cf cm ga gb gd) (rs := [.tmp 4]) tab_ok (show SpecsOK Tryz.prog G_cf from ⟨S_bv, S_bt, trivial⟩) Tryz.func289 rfl (by kernel_rfl) rfl (by decide) Tryz.ntmps289 (N_cf cm ga gb gd) (H_cf cm ga gb gd hp rfl) E w vs hr hv
 · cases h
def G_bm : List (Nat × Ag.Spec) := [(275, .pure g_mb_Add64), (276, .pure g_mb_Sub64), (289, .pure g_cf)]
def as_bm (cm : Bool) (ge gg : Int) (gb : Bool) (g8 g9 : Int) : List AV := [AV.agg [AV.bool cm, AV.int .u64 ge, AV.int .u64 gg], AV.agg [AV.bool gb, AV.int .u64 g8, AV.int .u64 g9]]
theorem N_bm (cm : Bool) (ge gg : Int) (gb : Bool) (g8 g9 : Int) (K : AV -> Prop) : vwp tab (envL G_bm) (fun _ _ _ => False) 0 (bodyOf Tryz.f255) (entry (as_bm cm ge gg gb g8 g9) 80) (fnPost tab [.cell 4 270] fun v s => K (v.frz s.mem)) = B_bm cm ge gg gb g8 g9 (fun r0 r1 r2 => K (AV.agg [AV.bool r0, AV.int .u64 r1, AV.int .u64 r2]))  := by kernel_rfl
def g_bm : List AV -> Option (Prop × RT)
  | [AV.agg [AV.bool cm, AV.int .u64 ge, AV.int .u64 gg], AV.agg [AV.bool gb, AV.int .u64 g8, AV.int .u64 g9]] => some (P_bm cm ge gg gb g8 g9, RT.leaf (AV.agg [AV.bool (F_bm_0 cm ge gg gb g8 g9), AV.int .u64 (F_bm_1 cm ge gg gb g8 g9), AV.int .u64 (F_bm_2 cm ge gg gb g8 g9)]))
  | _ => none
theorem S_bm : SpecOK Tryz.prog 255 (.pure g_bm) := by
 intro xs p r h hp E w vs hr hv; unfold g_bm at h; split at h
 · rename_i cm ge gg gb g8 g9
   obtain ⟨rfl, rfl⟩ := some_pair h
   exact walk0 (ys := as_bm cm ge gg gb g8 g9) (rs := [.cell 4 270]) tab_ok (show SpecsOK Tryz.prog G_bm from ⟨S_mb_Add64, S_mb_Sub64, S_cf, trivial⟩) Tryz.func255 rfl (by kernel_rfl) rfl (by decide) Tryz.ntmps255 (N_bm cm ge gg gb g8 g9) (H_bm cm ge gg gb g8 g9 hp rfl) E w vs hr hv
 · cases h
def G_cp : List (Nat × Ag.Spec) := [(255, .pure g_bm), (257, .pure g_br), (259, .pure g_bf), (290, .pure g_az)]
def S_cp_0 (gp : Nat) (cm : Nat -> Int) (ga : Nat -> Bool) (il : Int) (iv : Bool) (iw iy : Int) : VS := ⟨slotsN 27 0 [(2, AV.ptr false 0 0 0), (4, AV.bool (F_az_2 gp cm ga)), (5, AV.ptr false 1 0 0), (13, AV.rs none (F_az_0 gp cm ga) [CF.I .i64 (F_az_1 gp cm ga)]), (14, AV.int .i64 (((F_az_0 gp cm ga) : Nat) : Int)), (15, AV.int .i64 il)], [.one true 64 [AV.int .i64 0, AV.bool false], .one true 270 [AV.bool iv, AV.int .u64 iw, AV.int .u64 iy]], false, 0⟩
def X_cp_0_exit0 (gp : Nat) (cm : Nat -> Int) (ga : Nat -> Bool) (o0 : Int) (o1 : Bool) (o2 o3 : Int) : VS := ⟨slotsN 27 0 [(2, AV.ptr false 0 0 0), (4, AV.bool (F_az_2 gp cm ga)), (5, AV.ptr false 1 0 0), (13, AV.rs none (F_az_0 gp cm ga) [CF.I .i64 (F_az_1 gp cm ga)]), (14, AV.int .i64 (((F_az_0 gp cm ga) : Nat) : Int)), (15, AV.int .i64 o0)], [.one true 64 [AV.int .i64 0, AV.bool false], .one true 270 [AV.bool o1, AV.int .u64 o2, AV.int .u64 o3]], false, 0⟩
theorem N_cp_0 (gp : Nat) (cm : Nat -> Int) (ga : Nat -> Bool) (il : Int) (iv : Bool) (iw iy : Int) (Q : Exit -> VS -> Prop) : vwp tab (envL G_cp) (fun _ _ _ => False) 0 (lbody (loopAt (bodyOf Tryz.f261) 0)) (S_cp_0 gp cm ga il iv iw iy) (QM [2, 4, 5, 13, 14, 15] [0, 1] 2 Q) = B_cp_0 gp cm ga il iv iw iy (fun w0 w1 w2 w3 => Q .normal (S_cp_0 gp cm ga w0 w1 w2 w3)) (fun o0 o1 o2 o3 => Q (.exit 0) (X_cp_0_exit0 gp cm ga o0 o1 o2 o3))  := by kernel_rfl
theorem L_cp_0 {X : Cx} (hX : Std Tryz.prog tab (envL G_cp) X) (b : Code) (hb : b = bodyOf Tryz.f261) (gp : Nat) (cm : Nat -> Int) (ga : Nat -> Bool) (fu : Nat) (il : Int) (iv : Bool) (iw iy : Int) (Q : Exit -> VS -> Prop) (h : W_cp_0 gp cm ga fu il iv iw iy (fun o0 o1 o2 o3 => Q (.exit 0) (X_cp_0_exit0 gp cm ga o0 o1 o2 o3))) : TrK X b 0 (S_cp_0 gp cm ga il iv iw iy) Q := by
  subst hb
  refine loop_ok (V := Int × Bool × Int × Int) (fun v => S_cp_0 gp cm ga v.1 v.2.1 v.2.2.1 v.2.2.2) (fun f v => W_cp_0 gp cm ga f v.1 v.2.1 v.2.2.1 v.2.2.2 (fun o0 o1 o2 o3 => Q (.exit 0) (X_cp_0_exit0 gp cm ga o0 o1 o2 o3))) (fun _ h => h) (by kernel_rfl) (fun f v hv => ?_) (fuel := fu) (v0 := (il, iv, iw, iy)) h
  refine QM_ok (bs := [2, 4, 5, 13, 14, 15]) (ms := [0, 1]) (nm := 2) ?_
  refine vwp_std hX rfl (tr := (fun _ _ _ => False)) (fun _ _ _ h => h.elim) ?_
  refine Eq.mpr (N_cp_0 gp cm ga v.1 v.2.1 v.2.2.1 v.2.2.2 _) ?_
  exact BM_cp_0 gp cm ga v.1 v.2.1 v.2.2.1 v.2.2.2 (fun w0 w1 w2 w3 h => ⟨(w0, w1, w2, w3), rfl, h⟩) (fun _ _ _ _ h => h) hv
def T_cp (gp : Nat) (cm : Nat -> Int) (ga : Nat -> Bool) (k : Nat) (st : VS) (Q : Exit -> VS -> Prop) : Prop := match k with
  | 0 => TL [2, 4, 5, 13, 14, 15] [0, 1] 2 (convs st []) (fun st => S_cp_0 gp cm ga (intOf (tAt st 15)) (boolOf (mAt st 1 0)) (intOf (mAt st 1 1)) (intOf (mAt st 1 2))) (fun st => W_cp_0 gp cm ga fuel (intOf (tAt st 15)) (boolOf (mAt st 1 0)) (intOf (mAt st 1 1)) (intOf (mAt st 1 2)) (fun o0 o1 o2 o3 => Q (.exit 0) (X_cp_0_exit0 gp cm ga o0 o1 o2 o3)))
  | _ => False
theorem TS_cp {X : Cx} (hX : Std Tryz.prog tab (envL G_cp) X) (b : Code) (hb : b = bodyOf Tryz.f261) (gp : Nat) (cm : Nat -> Int) (ga : Nat -> Bool) (j : Nat) (st : VS) (Q : Exit -> VS -> Prop) (h : T_cp gp cm ga j st Q) : TrK X b j st Q := by
  unfold T_cp at h
  split at h
  · exact TL_ok h (fun h' => L_cp_0 hX b hb gp cm ga _ _ _ _ _ Q h')
  · exact h.elim
def as_cp (gp : Nat) (cm : Nat -> Int) (ga : Nat -> Bool) : List AV := [AV.rs none gp [CF.I .i64 cm, CF.B ga]]
theorem N_cp (gp : Nat) (cm : Nat -> Int) (ga : Nat -> Bool) (K : AV -> Prop) : vwp tab (envL G_cp) (T_cp gp cm ga) 0 (bodyOf Tryz.f261) (entry (as_cp gp cm ga) 27) (fnPost tab [.cell 2 64] fun v s => K (v.frz s.mem)) = B_cp gp cm ga (fun r0 r1 => K (AV.agg [AV.int .i64 r0, AV.bool r1])) (fun p0 p1 p2 p3 y0 => S_cp_0 gp cm ga p0 p1 p2 p3 = S_cp_0 gp cm ga p0 p1 p2 p3 /\ W_cp_0 gp cm ga fuel p0 p1 p2 p3 y0) := by kernel_rfl
theorem BL_cp (gp : Nat) (cm : Nat -> Int) (ga : Nat -> Bool) {K0 : Int -> Bool -> Prop} : B_cp gp cm ga K0 (W_cp_0 gp cm ga fuel) -> B_cp gp cm ga K0 (fun p0 p1 p2 p3 y0 => S_cp_0 gp cm ga p0 p1 p2 p3 = S_cp_0 gp cm ga p0 p1 p2 p3 /\ W_cp_0 gp cm ga fuel p0 p1 p2 p3 y0) := by
  unfold B_cp
  repeat' first
    | exact id
    | refine Ts_imp ?_
    | refine cond_imp ?_ ?_
    | refine and_imp' ?_
    | refine fun h => ⟨rfl, WM_cp_0 _ _ _  (fun _ _ _ _ => ?_) _ _ _ _ _  h⟩
def g_cp : List AV -> Option (Prop × RT)
  | [AV.rs sq0 sn0 sc0] => cond (kindsOK [KC.I .i64, KC.B] sc0) (some (P_cp (nOf sn0 sc0) (colI sc0 0) (colB sc0 1), RT.leaf (AV.agg [AV.int .i64 (F_cp_0 (nOf sn0 sc0) (colI sc0 0) (colB sc0 1)), AV.bool (F_cp_1 (nOf sn0 sc0) (colI sc0 0) (colB sc0 1))]))) none
  | _ => none
theorem S_cp : SpecOK Tryz.prog 261 (.pure g_cp) := by
 intro xs p r h hp E w vs hr hv; unfold g_cp at h; split at h
 · rename_i sq0 sn0 sc0
   obtain ⟨hk0, h⟩ := cond_some h
   obtain ⟨rfl, rfl⟩ := some_pair h
   have hG := (show SpecsOK Tryz.prog G_cp from ⟨S_bm, S_br, S_bf, S_az, trivial⟩)
   have hv' := ((AV.les.cons (AV.le.rs hk0) AV.les.nil) _ _ hv : VRs E.bare (as_cp (nOf sn0 sc0) (colI sc0 0) (colB sc0 1)) vs)
   refine walk_pure' (c := bodyOf Tryz.f261) (rs := [.cell 2 64]) (ys := as_cp (nOf sn0 sc0) (colI sc0 0) (colB sc0 1)) tab_ok (envL_ok hG) Tryz.func261 rfl (by kernel_rfl) rfl (by decide) (fun X hX hrho => ?_) E w vs hr hv'
   rw [Tryz.ntmps261]
   refine vwp_std hX rfl (tr := T_cp (nOf sn0 sc0) (colI sc0 0) (colB sc0 1)) (fun j st Q h => TS_cp hX _ rfl (nOf sn0 sc0) (colI sc0 0) (colB sc0 1) j st Q h) (Eq.mpr (N_cp (nOf sn0 sc0) (colI sc0 0) (colB sc0 1) (fun x => x = _)) ?_)
   exact BL_cp (nOf sn0 sc0) (colI sc0 0) (colB sc0 1) (H_cp (nOf sn0 sc0) (colI sc0 0) (colB sc0 1) hp rfl)
 · cases h
def G_ed : List (Nat × Ag.Spec) := [(196, .pure g_av)]
def as_ed (cm : Int) (ga : Bool) : List AV := [AV.agg [AV.int .i64 cm, AV.bool ga]]
theorem N_ed (cm : Int) (ga : Bool) (K : AV -> Prop) : vwp tab (envL G_ed) (fun _ _ _ => False) 0 (bodyOf Tryz.f217) (entry (as_ed cm ga) 10) (fnPost tab [.cell 2 64] fun v s => K (v.frz s.mem)) = B_ed cm ga (fun r0 r1 => K (AV.agg [AV.int .i64 r0, AV.bool r1]))  := by kernel_rfl
def g_ed : List AV -> Option (Prop × RT)
  | [AV.agg [AV.int .i64 cm, AV.bool ga]] => some (P_ed cm ga, RT.leaf (AV.agg [AV.int .i64 (F_ed_0 cm ga), AV.bool (F_ed_1 cm ga)]))
  | _ => none
theorem S_ed : SpecOK Tryz.prog 217 (.pure g_ed) := by
 intro xs p r h hp E w vs hr hv; unfold g_ed at h; split at h
 · rename_i cm ga
   obtain ⟨rfl, rfl⟩ := some_pair h
   exact walk0 (ys := as_ed cm ga) (rs := [.cell 2 64]) tab_ok (show SpecsOK Tryz.prog G_ed from ⟨S_av, trivial⟩) Tryz.func217 rfl (by kernel_rfl) rfl (by decide) Tryz.ntmps217 (N_ed cm ga) (H_ed cm ga hp rfl) E w vs hr hv
 · cases h
def G_fi : List (Nat × Ag.Spec) := [(217, .pure g_ed), (261, .pure g_cp)]
def as_fi (cm : Int) (ga : Bool) (gb : Int) (gd : Bool) : List AV := [AV.agg [AV.int .i64 cm, AV.bool ga], AV.agg [AV.int .i64 gb, AV.bool gd]]
theorem N_fi (cm : Int) (ga : Bool) (gb : Int) (gd : Bool) (K : AV -> Prop) : vwp tab (envL G_fi) (fun _ _ _ => False) 0 (bodyOf Tryz.f198) (entry (as_fi cm ga gb gd) 10) (fnPost tab [.cell 4 64] fun v s => K (v.frz s.mem)) = B_fi cm ga gb gd (fun r0 r1 => K (AV.agg [AV.int .i64 r0, AV.bool r1]))  := by kernel_rfl
def g_fi : List AV -> Option (Prop × RT)
  | [AV.agg [AV.int .i64 cm, AV.bool ga], AV.agg [AV.int .i64 gb, AV.bool gd]] => some (P_fi cm ga gb gd, RT.leaf (AV.agg [AV.int .i64 (F_fi_0 cm ga gb gd), AV.bool (F_fi_1 cm ga gb gd)]))
  | _ => none
theorem S_fi : SpecOK Tryz.prog 198 (.pure g_fi) := by
 intro xs p r h hp E w vs hr hv; unfold g_fi at h; split at h
 · rename_i cm ga gb gd
   obtain ⟨rfl, rfl⟩ := some_pair h
   exact walk0 (ys := as_fi cm ga gb gd) (rs := [.cell 4 64]) tab_ok (show SpecsOK Tryz.prog G_fi from ⟨S_ed, S_cp, trivial⟩) Tryz.func198 rfl (by kernel_rfl) rfl (by decide) Tryz.ntmps198 (N_fi cm ga gb gd) (H_fi cm ga gb gd hp rfl) E w vs hr hv
 · cases h
def G_ax : List (Nat × Ag.Spec) := [(238, .pure g_d9), (262, .pure g_a9), (275, .pure g_mb_Add64)]
def S_ax_0 (cm ga ia : Int) : VS := ⟨slotsN 64 0 [(1, AV.ptr false 0 0 0), (2, AV.int .u64 0), (4, AV.int .u64 ia)], [.one true 268 [AV.int .u64 cm, AV.int .u64 ga]], false, 0⟩
def X_ax_0_ret (cm ga o0 o1 : Int) : VS := ⟨slotsN 64 0 [(1, AV.ptr false 0 0 0), (2, AV.int .u64 o0), (4, AV.int .u64 o1)], [.one true 268 [AV.int .u64 cm, AV.int .u64 ga]], false, 0⟩
theorem N_ax_0 (cm ga ia : Int) (Q : Exit -> VS -> Prop) : vwp tab (envL G_ax) (fun _ _ _ => False) 0 (lbody (loopAt (bodyOf Tryz.f293) 0)) (S_ax_0 cm ga ia) (QM [1, 2, 4] [0] 1 Q) = B_ax_0 cm ga ia (fun w0 => Q .normal (S_ax_0 cm ga w0)) (fun o0 o1 => Q .ret (X_ax_0_ret cm ga o0 o1))  := by kernel_rfl
theorem L_ax_0 {X : Cx} (hX : Std Tryz.prog tab (envL G_ax) X) (b : Code) (hb : b = bodyOf Tryz.f293) (cm ga : Int) (fu : Nat) (ia : Int) (Q : Exit -> VS -> Prop) (h : W_ax_0 cm ga fu ia (fun o0 o1 => Q .ret (X_ax_0_ret cm ga o0 o1))) : TrK X b 0 (S_ax_0 cm ga ia) Q := by
  subst hb
  refine loop_ok (V := Int) (fun v => S_ax_0 cm ga v) (fun f v => W_ax_0 cm ga f v (fun o0 o1 => Q .ret (X_ax_0_ret cm ga o0 o1))) (fun _ h => h) (by kernel_rfl) (fun f v hv => ?_) (fuel := fu) (v0 := (ia)) h
  refine QM_ok (bs := [1, 2, 4]) (ms := [0]) (nm := 1) ?_
  refine vwp_std hX rfl (tr := (fun _ _ _ => False)) (fun _ _ _ h => h.elim) ?_
  refine Eq.mpr (N_ax_0 cm ga v _) ?_
  exact BM_ax_0 cm ga v (fun w0 h => ⟨w0, rfl, h⟩) (fun _ _ h => h) hv
def T_ax (cm ga : Int) (k : Nat) (st : VS) (Q : Exit -> VS -> Prop) : Prop := match k with
  | 0 => TL [1, 2, 4] [0] 1 (convs st []) (fun st => S_ax_0 cm ga (intOf (tAt st 4))) (fun st => W_ax_0 cm ga fuel (intOf (tAt st 4)) (fun o0 o1 => Q .ret (X_ax_0_ret cm ga o0 o1)))
  | _ => False
theorem TS_ax {X : Cx} (hX : Std Tryz.prog tab (envL G_ax) X) (b : Code) (hb : b = bodyOf Tryz.f293) (cm ga : Int) (j : Nat) (st : VS) (Q : Exit -> VS -> Prop) (h : T_ax cm ga j st Q) : TrK X b j st Q := by
  unfold T_ax at h
  split at h
  · exact TL_ok h (fun h' => L_ax_0 hX b hb cm ga _ _ Q h')
  · exact h.elim
def as_ax (cm ga : Int) : List AV := [AV.agg [AV.int .u64 cm, AV.int .u64 ga]]
theorem N_ax (cm ga : Int) (K : AV -> Prop) : vwp tab (envL G_ax) (T_ax cm ga) 0 (bodyOf Tryz.f293) (entry (as_ax cm ga) 64) (fnPost tab [.tmp 2] fun v s => K (v.frz s.mem)) = B_ax cm ga (fun r0 => K (AV.int .u64 r0)) (fun p0 y0 => S_ax_0 cm ga p0 = S_ax_0 cm ga p0 /\ W_ax_0 cm ga fuel p0 y0) := by kernel_rfl
theorem BL_ax (cm ga : Int) {K0 : Int -> Prop} : B_ax cm ga K0 (W_ax_0 cm ga fuel) -> B_ax cm ga K0 (fun p0 y0 => S_ax_0 cm ga p0 = S_ax_0 cm ga p0 /\ W_ax_0 cm ga fuel p0 y0) := by
  unfold B_ax
  repeat' first
    | exact id
    | refine Ts_imp ?_
    | refine cond_imp ?_ ?_
    | refine and_imp' ?_
    | refine fun h => ⟨rfl, WM_ax_0 _ _  (fun _ _ => ?_) _ _  h⟩
def g_ax : List AV -> Option (Prop × RT)
  | [AV.agg [AV.int .u64 cm, AV.int .u64 ga]] => some (P_ax cm ga, RT.leaf (AV.int .u64 (F_ax_0 cm ga)))
  | _ => none
theorem S_ax : SpecOK Tryz.prog 293 (.pure g_ax) := by
 intro xs p r h hp E w vs hr hv; unfold g_ax at h; split at h
 · rename_i cm ga
   obtain ⟨rfl, rfl⟩ := some_pair h
   have hG := (show SpecsOK Tryz.prog G_ax from ⟨S_d9, S_a9, S_mb_Add64, trivial⟩)
   refine walk_pure' (c := bodyOf Tryz.f293) (rs := [.tmp 2]) (ys := as_ax cm ga) tab_ok (envL_ok hG) Tryz.func293 rfl (by kernel_rfl) rfl (by decide) (fun X hX hrho => ?_) E w vs hr hv
   rw [Tryz.ntmps293]
   refine vwp_std hX rfl (tr := T_ax cm ga) (fun j st Q h => TS_ax hX _ rfl cm ga j st Q h) (Eq.mpr (N_ax cm ga (fun x => x = _)) ?_)
   exact BL_ax cm ga (H_ax cm ga hp rfl)
 · cases h
def G_bz : List (Nat × Ag.Spec) := [(196, .pure g_av), (254, .pure g_ao), (255, .pure g_bm), (257, .pure g_br), (258, .pure g_bu), (293, .pure g_ax)]
def as_bz (cm : Int) (ga : Bool) (gb : Int) (gd : Bool) : List AV := [AV.agg [AV.int .i64 cm, AV.bool ga], AV.agg [AV.int .i64 gb, AV.bool gd]]
theorem N_bz (cm : Int) (ga : Bool) (gb : Int) (gd : Bool) (K : AV -> Prop) : vwp tab (envL G_bz) (fun _ _ _ => False) 0 (bodyOf Tryz.f271) (entry (as_bz cm ga gb gd) 29) (fnPost tab [.cell 4 64] fun v s => K (v.frz s.mem)) = B_bz cm ga gb gd (fun r0 r1 => K (AV.agg [AV.int .i64 r0, AV.bool r1]))  := by kernel_rfl
def g_bz : List AV -> Option (Prop × RT)
  | [AV.agg [AV.int .i64 cm, AV.bool ga], AV.agg [AV.int .i64 gb, AV.bool gd]] => some (P_bz cm ga gb gd, RT.leaf (AV.agg [AV.int .i64 (F_bz_0 cm ga gb gd), AV.bool (F_bz_1 cm ga gb gd)]))
  | _ => none
theorem S_bz : SpecOK Tryz.prog 271 (.pure g_bz) := by
 intro xs p r h hp E w vs hr hv; unfold g_bz at h; split at h
 · rename_i cm ga gb gd
   obtain ⟨rfl, rfl⟩ := some_pair h
   exact walk0 (ys := as_bz cm ga gb gd) (rs := [.cell 4 64]) tab_ok (show SpecsOK Tryz.prog G_bz from ⟨S_av, S_ao, S_bm, S_br, S_bu, S_ax, trivial⟩) Tryz.func271 rfl (by kernel_rfl) rfl (by decide) Tryz.ntmps271 (N_bz cm ga gb gd) (H_bz cm ga gb gd hp rfl) E w vs hr hv
 · cases h
def G_ej : List (Nat × Ag.Spec) := [(176, .pure g_cn), (196, .pure g_av), (258, .pure g_bu)]
def as_ej (cm : Int) (ga : Bool) (gb : Int) (gd : Bool) : List AV := [AV.agg [AV.int .i64 cm, AV.bool ga], AV.agg [AV.int .i64 gb, AV.bool gd]]
theorem N_ej (cm : Int) (ga : Bool) (gb : Int) (gd : Bool) (K : AV -> Prop) : vwp tab (envL G_ej) (fun _ _ _ => False) 0 (bodyOf Tryz.f206) (entry (as_ej cm ga gb gd) 25) (fnPost tab [.cell 4 64] fun v s => K (v.frz s.mem)) = B_ej cm ga gb gd (fun r0 r1 => K (AV.agg [AV.int .i64 r0, AV.bool r1]))  := by kernel_rfl
def g_ej : List AV -> Option (Prop × RT)
  | [AV.agg [AV.int .i64 cm, AV.bool ga], AV.agg [AV.int .i64 gb, AV.bool gd]] => some (P_ej cm ga gb gd, RT.leaf (AV.agg [AV.int .i64 (F_ej_0 cm ga gb gd), AV.bool (F_ej_1 cm ga gb gd)]))
  | _ => none
theorem S_ej : SpecOK Tryz.prog 206 (.pure g_ej) := by
 intro xs p r h hp E w vs hr hv; unfold g_ej at h; split at h
 · rename_i cm ga gb gd
   obtain ⟨rfl, rfl⟩ := some_pair h
   exact walk0 (ys := as_ej cm ga gb gd) (rs := [.cell 4 64]) tab_ok (show SpecsOK Tryz.prog G_ej from ⟨S_cn, S_av, S_bu, trivial⟩) Tryz.func206 rfl (by kernel_rfl) rfl (by decide) Tryz.ntmps206 (N_ej cm ga gb gd) (H_ej cm ga gb gd hp rfl) E w vs hr hv
 · cases h
def G_au : List (Nat × Ag.Spec) := [(81, .pure g_cl)]
def S_au_0 (a0 a1 : Int) (iq : Nat) (a2 : Nat -> Int) (j9 io : Int) : VS := ⟨slotsN 24 0 [(0, AV.int .i64 a0), (1, AV.int .i64 j9), (6, AV.int .i64 0), (9, AV.rs none iq [CF.I .i64 a2]), (10, AV.int .i64 ((iq : Nat) : Int)), (11, AV.int .i64 io)], [], false, 0⟩
def X_au_0_exit0 (a0 a1 : Int) (iq : Nat) (a2 : Nat -> Int) (o0 o1 : Int) : VS := ⟨slotsN 24 0 [(0, AV.int .i64 a0), (1, AV.int .i64 o0), (6, AV.int .i64 0), (9, AV.rs none iq [CF.I .i64 a2]), (10, AV.int .i64 ((iq : Nat) : Int)), (11, AV.int .i64 o1)], [], false, 0⟩
theorem N_au_0 (a0 a1 : Int) (iq : Nat) (a2 : Nat -> Int) (j9 io : Int) (Q : Exit -> VS -> Prop) : vwp tab (envL G_au) (fun _ _ _ => False) 0 (lbody (loopAt (bodyOf Tryz.f306) 0)) (S_au_0 a0 a1 iq a2 j9 io) (QM [0, 1, 6, 9, 10, 11] [] 0 Q) = B_au_0 a0 a1 iq a2 j9 io (fun w0 w1 => Q .normal (S_au_0 a0 a1 iq a2 w0 w1)) (fun o0 o1 => Q (.exit 0) (X_au_0_exit0 a0 a1 iq a2 o0 o1))  := by kernel_rfl
theorem L_au_0 {X : Cx} (hX : Std Tryz.prog tab (envL G_au) X) (b : Code) (hb : b = bodyOf Tryz.f306) (a0 a1 : Int) (iq : Nat) (a2 : Nat -> Int) (fu : Nat) (j9 io : Int) (Q : Exit -> VS -> Prop) (h : W_au_0 a0 a1 iq a2 fu j9 io (fun o0 o1 => Q (.exit 0) (X_au_0_exit0 a0 a1 iq a2 o0 o1))) : TrK X b 0 (S_au_0 a0 a1 iq a2 j9 io) Q := by
  subst hb
  refine loop_ok (V := Int × Int) (fun v => S_au_0 a0 a1 iq a2 v.1 v.2) (fun f v => W_au_0 a0 a1 iq a2 f v.1 v.2 (fun o0 o1 => Q (.exit 0) (X_au_0_exit0 a0 a1 iq a2 o0 o1))) (fun _ h => h) (by kernel_rfl) (fun f v hv => ?_) (fuel := fu) (v0 := (j9, io)) h
  refine QM_ok (bs := [0, 1, 6, 9, 10, 11]) (ms := []) (nm := 0) ?_
  refine vwp_std hX rfl (tr := (fun _ _ _ => False)) (fun _ _ _ h => h.elim) ?_
  refine Eq.mpr (N_au_0 a0 a1 iq a2 v.1 v.2 _) ?_
  exact BM_au_0 a0 a1 iq a2 v.1 v.2 (fun w0 w1 h => ⟨(w0, w1), rfl, h⟩) (fun _ _ h => h) hv
def T_au (a0 a1 : Int) (iq : Nat) (a2 : Nat -> Int) (k : Nat) (st : VS) (Q : Exit -> VS -> Prop) : Prop := match k with
  | 0 => TL [0, 1, 6, 9, 10, 11] [] 0 (convs st []) (fun st => S_au_0 a0 a1 iq a2 (intOf (tAt st 1)) (intOf (tAt st 11))) (fun st => W_au_0 a0 a1 iq a2 fuel (intOf (tAt st 1)) (intOf (tAt st 11)) (fun o0 o1 => Q (.exit 0) (X_au_0_exit0 a0 a1 iq a2 o0 o1)))
  | _ => False
theorem TS_au {X : Cx} (hX : Std Tryz.prog tab (envL G_au) X) (b : Code) (hb : b = bodyOf Tryz.f306) (a0 a1 : Int) (iq : Nat) (a2 : Nat -> Int) (j : Nat) (st : VS) (Q : Exit -> VS -> Prop) (h : T_au a0 a1 iq a2 j st Q) : TrK X b j st Q := by
  unfold T_au at h
  split at h
  · exact TL_ok h (fun h' => L_au_0 hX b hb a0 a1 iq a2 _ _ _ Q h')
  · exact h.elim
def as_au (a0 a1 : Int) (iq : Nat) (a2 : Nat -> Int) : List AV := [AV.int .i64 a0, AV.int .i64 a1, AV.rs none iq [CF.I .i64 a2]]
theorem N_au (a0 a1 : Int) (iq : Nat) (a2 : Nat -> Int) (K : AV -> Prop) : vwp tab (envL G_au) (T_au a0 a1 iq a2) 0 (bodyOf Tryz.f306) (entry (as_au a0 a1 iq a2) 24) (fnPost tab [.tmp 6] fun v s => K (v.frz s.mem)) = B_au a0 a1 iq a2 (fun r0 => K (AV.int .i64 r0)) (fun p0 p1 y0 => S_au_0 a0 a1 iq a2 p0 p1 = S_au_0 a0 a1 iq a2 p0 p1 /\ W_au_0 a0 a1 iq a2 fuel p0 p1 y0) := by kernel_rfl
theorem BL_au (a0 a1 : Int) (iq : Nat) (a2 : Nat -> Int) {K0 : Int -> Prop} : B_au a0 a1 iq a2 K0 (W_au_0 a0 a1 iq a2 fuel) -> B_au a0 a1 iq a2 K0 (fun p0 p1 y0 => S_au_0 a0 a1 iq a2 p0 p1 = S_au_0 a0 a1 iq a2 p0 p1 /\ W_au_0 a0 a1 iq a2 fuel p0 p1 y0) := by
  unfold B_au
  repeat' first
    | exact id
    | refine Ts_imp ?_
    | refine cond_imp ?_ ?_
    | refine and_imp' ?_
    | refine fun h => ⟨rfl, WM_au_0 _ _ _ _  (fun _ _ => ?_) _ _ _  h⟩
def g_au : List AV -> Option (Prop × RT)
  | [AV.int .i64 a0, AV.int .i64 a1, AV.rs sq0 sn0 sc0] => cond (kindsOK [KC.I .i64] sc0) (some (P_au a0 a1 (nOf sn0 sc0) (colI sc0 0), RT.leaf (AV.int .i64 (F_au_0 a0 a1 (nOf sn0 sc0) (colI sc0 0))))) none
  | _ => none
theorem S_au : SpecOK Tryz.prog 306 (.pure g_au) := by
 intro xs p r h hp E w vs hr hv; unfold g_au at h; split at h
 · rename_i a0 a1 sq0 sn0 sc0
   obtain ⟨hk0, h⟩ := cond_some h
   obtain ⟨rfl, rfl⟩ := some_pair h
   have hG := (show SpecsOK Tryz.prog G_au from ⟨S_cl, trivial⟩)
   have hv' := ((AV.les.cons (AV.le.refl _) (AV.les.cons (AV.le.refl _) (AV.les.cons (AV.le.rs hk0) AV.les.nil))) _ _ hv : VRs E.bare (as_au a0 a1 (nOf sn0 sc0) (colI sc0 0)) vs)
   refine walk_pure' (c := bodyOf Tryz.f306) (rs := [.tmp 6]) (ys := as_au a0 a1 (nOf sn0 sc0) (colI sc0 0)) tab_ok (envL_ok hG) Tryz.func306 rfl (by kernel_rfl) rfl (by decide) (fun X hX hrho => ?_) E w vs hr hv'
   rw [Tryz.ntmps306]
   refine vwp_std hX rfl (tr := T_au a0 a1 (nOf sn0 sc0) (colI sc0 0)) (fun j st Q h => TS_au hX _ rfl a0 a1 (nOf sn0 sc0) (colI sc0 0) j st Q h) (Eq.mpr (N_au a0 a1 (nOf sn0 sc0) (colI sc0 0) (fun x => x = _)) ?_)
   exact BL_au a0 a1 (nOf sn0 sc0) (colI sc0 0) (H_au a0 a1 (nOf sn0 sc0) (colI sc0 0) hp rfl)
 · cases h
def G_ez : List (Nat × Ag.Spec) := [(290, .pure g_az), (306, .pure g_au)]
def as_ez (a0 : Int) (ij : Nat) (gb : Nat -> Int) (gd : Nat -> Bool) : List AV := [AV.int .i64 a0, AV.rs none ij [CF.I .i64 gb, CF.B gd]]
theorem N_ez (a0 : Int) (ij : Nat) (gb : Nat -> Int) (gd : Nat -> Bool) (K : AV -> Prop) : vwp tab (envL G_ez) (fun _ _ _ => False) 0 (bodyOf Tryz.f292) (entry (as_ez a0 ij gb gd) 25) (fnPost tab [.cell 4 64] fun v s => K (v.frz s.mem)) = B_ez a0 ij gb gd (fun r0 r1 => K (AV.agg [AV.int .i64 r0, AV.bool r1]))  := by kernel_rfl
def g_ez : List AV -> Option (Prop × RT)
  | [AV.int .i64 a0, AV.rs sq0 sn0 sc0] => cond (kindsOK [KC.I .i64, KC.B] sc0) (some (P_ez a0 (nOf sn0 sc0) (colI sc0 0) (colB sc0 1), RT.leaf (AV.agg [AV.int .i64 (F_ez_0 a0 (nOf sn0 sc0) (colI sc0 0) (colB sc0 1)), AV.bool (F_ez_1 a0 (nOf sn0 sc0) (colI sc0 0) (colB sc0 1))]))) none
  | _ => none
theorem S_ez : SpecOK Tryz.prog 292 (.pure g_ez) := by
 intro xs p r h hp E w vs hr hv; unfold g_ez at h; split at h
 · rename_i a0 sq0 sn0 sc0
   obtain ⟨hk0, h⟩ := cond_some h
   obtain ⟨rfl, rfl⟩ := some_pair h
   exact walk0 (ys := as_ez a0 (nOf sn0 sc0) (colI sc0 0) (colB sc0 1)) (rs := [.cell 4 64]) tab_ok (show SpecsOK Tryz.prog G_ez from ⟨S_az, S_au, trivial⟩) Tryz.func292 rfl (by kernel_rfl) rfl (by decide) Tryz.ntmps292 (N_ez a0 (nOf sn0 sc0) (colI sc0 0) (colB sc0 1)) (H_ez a0 (nOf sn0 sc0) (colI sc0 0) (colB sc0 1) hp rfl) E w vs hr ((AV.les.cons (AV.le.refl _) (AV.les.cons (AV.le.rs hk0) AV.les.nil)) _ _ hv : VRs E.bare (as_ez a0 (nOf sn0 sc0) (colI sc0 0) (colB sc0 1)) vs)
 · cases h
def G_fm : List (Nat × Ag.Spec) := [(292, .pure g_ez)]
def as_fm (gp : Nat) (cm : Nat -> Int) (ga : Nat -> Bool) : List AV := [AV.rs none gp [CF.I .i64 cm, CF.B ga]]
theorem N_fm (gp : Nat) (cm : Nat -> Int) (ga : Nat -> Bool) (K : AV -> Prop) : vwp tab (envL G_fm) (fun _ _ _ => False) 0 (bodyOf Tryz.f272) (entry (as_fm gp cm ga) 5) (fnPost tab [.cell 2 64] fun v s => K (v.frz s.mem)) = B_fm gp cm ga (fun r0 r1 => K (AV.agg [AV.int .i64 r0, AV.bool r1]))  := by kernel_rfl
def g_fm : List AV -> Option (Prop × RT)
  | [AV.rs sq0 sn0 sc0] => cond (kindsOK [KC.I .i64, KC.B] sc0) (some (P_fm (nOf sn0 sc0) (colI sc0 0) (colB sc0 1), RT.leaf (AV.agg [AV.int .i64 (F_fm_0 (nOf sn0 sc0) (colI sc0 0) (colB sc0 1)), AV.bool (F_fm_1 (nOf sn0 sc0) (colI sc0 0) (colB sc0 1))]))) none
  | _ => none
theorem S_fm : SpecOK Tryz.prog 272 (.pure g_fm) := by
 intro xs p r h hp E w vs hr hv; unfold g_fm at h; split at h
 · rename_i sq0 sn0 sc0
   obtain ⟨hk0, h⟩ := cond_some h
   obtain ⟨rfl, rfl⟩ := some_pair h
   exact walk0 (ys := as_fm (nOf sn0 sc0) (colI sc0 0) (colB sc0 1)) (rs := [.cell 2 64]) tab_ok (show SpecsOK Tryz.prog G_fm from ⟨S_ez, trivial⟩) Tryz.func272 rfl (by kernel_rfl) rfl (by decide) Tryz.ntmps272 (N_fm (nOf sn0 sc0) (colI sc0 0) (colB sc0 1)) (H_fm (nOf sn0 sc0) (colI sc0 0) (colB sc0 1) hp rfl) E w vs hr ((AV.les.cons (AV.le.rs hk0) AV.les.nil) _ _ hv : VRs E.bare (as_fm (nOf sn0 sc0) (colI sc0 0) (colB sc0 1)) vs)
 · cases h
def G_fo : List (Nat × Ag.Spec) := [(292, .pure g_ez)]
def as_fo (gp : Nat) (cm : Nat -> Int) (ga : Nat -> Bool) : List AV := [AV.rs none gp [CF.I .i64 cm, CF.B ga]]
theorem N_fo (gp : Nat) (cm : Nat -> Int) (ga : Nat -> Bool) (K : AV -> Prop) : vwp tab (envL G_fo) (fun _ _ _ => False) 0 (bodyOf Tryz.f270) (entry (as_fo gp cm ga) 5) (fnPost tab [.cell 2 64] fun v s => K (v.frz s.mem)) = B_fo gp cm ga (fun r0 r1 => K (AV.agg [AV.int .i64 r0, AV.bool r1]))  := by kernel_rfl
def g_fo : List AV -> Option (Prop × RT)
  | [AV.rs sq0 sn0 sc0] => cond (kindsOK [KC.I .i64, KC.B] sc0) (some (P_fo (nOf sn0 sc0) (colI sc0 0) (colB sc0 1), RT.leaf (AV.agg [AV.int .i64 (F_fo_0 (nOf sn0 sc0) (colI sc0 0) (colB sc0 1)), AV.bool (F_fo_1 (nOf sn0 sc0) (colI sc0 0) (colB sc0 1))]))) none
  | _ => none
theorem S_fo : SpecOK Tryz.prog 270 (.pure g_fo) := by
 intro xs p r h hp E w vs hr hv; unfold g_fo at h; split at h
 · rename_i sq0 sn0 sc0
   obtain ⟨hk0, h⟩ := cond_some h
   obtain ⟨rfl, rfl⟩ := some_pair h
   exact walk0 (ys := as_fo (nOf sn0 sc0) (colI sc0 0) (colB sc0 1)) (rs := [.cell 2 64]) tab_ok (show SpecsOK Tryz.prog G_fo from ⟨S_ez, trivial⟩) Tryz.func270 rfl (by kernel_rfl) rfl (by decide) Tryz.ntmps270 (N_fo (nOf sn0 sc0) (colI sc0 0) (colB sc0 1)) (H_fo (nOf sn0 sc0) (colI sc0 0) (colB sc0 1) hp rfl) E w vs hr ((AV.les.cons (AV.le.rs hk0) AV.les.nil) _ _ hv : VRs E.bare (as_fo (nOf sn0 sc0) (colI sc0 0) (colB sc0 1)) vs)
 · cases h
def G_e9 : List (Nat × Ag.Spec) := [(270, .pure g_fo), (272, .pure g_fm)]
def as_e9 (cm : Int) (ga : Bool) (gb : Int) (gd : Bool) (gh : Int) (gj : Bool) : List AV := [AV.agg [AV.int .i64 cm, AV.bool ga], AV.agg [AV.int .i64 gb, AV.bool gd], AV.agg [AV.int .i64 gh, AV.bool gj]]
theorem N_e9 (cm : Int) (ga : Bool) (gb : Int) (gd : Bool) (gh : Int) (gj : Bool) (K : AV -> Prop) : vwp tab (envL G_e9) (fun _ _ _ => False) 0 (bodyOf Tryz.f209) (entry (as_e9 cm ga gb gd gh gj) 14) (fnPost tab [.cell 6 64] fun v s => K (v.frz s.mem)) = B_e9 cm ga gb gd gh gj (fun r0 r1 => K (AV.agg [AV.int .i64 r0, AV.bool r1]))  := by kernel_rfl
def g_e9 : List AV -> Option (Prop × RT)
  | [AV.agg [AV.int .i64 cm, AV.bool ga], AV.agg [AV.int .i64 gb, AV.bool gd], AV.agg [AV.int .i64 gh, AV.bool gj]] => some (P_e9 cm ga gb gd gh gj, RT.leaf (AV.agg [AV.int .i64 (F_e9_0 cm ga gb gd gh gj), AV.bool (F_e9_1 cm ga gb gd gh gj)]))
  | _ => none
theorem S_e9 : SpecOK Tryz.prog 209 (.pure g_e9) := by
 intro xs p r h hp E w vs hr hv; unfold g_e9 at h; split at h
 · rename_i cm ga gb gd gh gj
   obtain ⟨rfl, rfl⟩ := some_pair h
   exact walk0 (ys := as_e9 cm ga gb gd gh gj) (rs := [.cell 6 64]) tab_ok (show SpecsOK Tryz.prog G_e9 from ⟨S_fo, S_fm, trivial⟩) Tryz.func209 rfl (by kernel_rfl) rfl (by decide) Tryz.ntmps209 (N_e9 cm ga gb gd gh gj) (H_e9 cm ga gb gd gh gj hp rfl) E w vs hr hv
 · cases h
def G_cc : List (Nat × Ag.Spec) := [(196, .pure g_av), (254, .pure g_ao), (255, .pure g_bm), (256, .pure g_cb), (257, .pure g_br), (258, .pure g_bu)]
def as_cc (cm : Int) (ga : Bool) (gb : Int) (gd : Bool) (gh : Int) (gj : Bool) (g6 : Int) (g7 : Bool) : List AV := [AV.agg [AV.int .i64 cm, AV.bool ga], AV.agg [AV.int .i64 gb, AV.bool gd], AV.agg [AV.int .i64 gh, AV.bool gj], AV.agg [AV.int .i64 g6, AV.bool g7]]
theorem N_cc (cm : Int) (ga : Bool) (gb : Int) (gd : Bool) (gh : Int) (gj : Bool) (g6 : Int) (g7 : Bool) (K : AV -> Prop) : vwp tab (envL G_cc) (fun _ _ _ => False) 0 (bodyOf Tryz.f169) (entry (as_cc cm ga gb gd gh gj g6 g7) 36) (fnPost tab [.cell 8 64] fun v s => K (v.frz s.mem)) = B_cc cm ga gb gd gh gj g6 g7 (fun r0 r1 => K (AV.agg [AV.int .i64 r0, AV.bool r1]))  := by kernel_rfl
def g_cc : List AV -> Option (Prop × RT)
  | [AV.agg [AV.int .i64 cm, AV.bool ga], AV.agg [AV.int .i64 gb, AV.bool gd], AV.agg [AV.int .i64 gh, AV.bool gj], AV.agg [AV.int .i64 g6, AV.bool g7]] => some (P_cc cm ga gb gd gh gj g6 g7, RT.leaf (AV.agg [AV.int .i64 (F_cc_0 cm ga gb gd gh gj g6 g7), AV.bool (F_cc_1 cm ga gb gd gh gj g6 g7)]))
  | _ => none
theorem S_cc : SpecOK Tryz.prog 169 (.pure g_cc) := by
 intro xs p r h hp E w vs hr hv; unfold g_cc at h; split at h
 · rename_i cm ga gb gd gh gj g6 g7
   obtain ⟨rfl, rfl⟩ := some_pair h
   exact walk0 (ys := as_cc cm ga gb gd gh gj g6 g7) (rs := [.cell 8 64]) tab_ok (show SpecsOK Tryz.prog G_cc from ⟨S_av, S_ao, S_bm, S_cb, S_br, S_bu, trivial⟩) Tryz.func169 rfl (by kernel_rfl) rfl (by decide) Tryz.ntmps169 (N_cc cm ga gb gd gh gj g6 g7) (H_cc cm ga gb gd gh gj g6 g7 hp rfl) E w vs hr hv
 · cases h
def G_fd : List (Nat × Ag.Spec) := [(254, .pure g_ao), (255, .pure g_bm)]
def as_fd (a0 a1 a2 a3 : Int) : List AV := [AV.int .i64 a0, AV.int .i64 a1, AV.int .i64 a2, AV.int .i64 a3]
theorem N_fd (a0 a1 a2 a3 : Int) (K : AV -> Prop) : vwp tab (envL G_fd) (fun _ _ _ => False) 0 (bodyOf Tryz.f247) (entry (as_fd a0 a1 a2 a3) 33) (fnPost tab [.tmp 8] fun v s => K (v.frz s.mem)) = B_fd a0 a1 a2 a3 (fun r0 => K (AV.int .i64 r0))  := by kernel_rfl
def g_fd : List AV -> Option (Prop × RT)
  | [AV.int .i64 a0, AV.int .i64 a1, AV.int .i64 a2, AV.int .i64 a3] => some (P_fd a0 a1 a2 a3, RT.leaf (AV.int .i64 (F_fd_0 a0 a1 a2 a3)))
  | _ => none
theorem S_fd : SpecOK Tryz.prog 247 (.pure g_fd) := by
 intro xs p r h hp E w vs hr hv; unfold g_fd at h; split at h
 · rename_i a0 a1 a2 a3
   obtain ⟨rfl, rfl⟩ := some_pair h
   exact walk0 (ys := as_fd a0 a1 a2 a3) (rs := [.tmp 8]) tab_ok (show SpecsOK Tryz.prog G_fd from ⟨S_ao, S_bm, trivial⟩) Tryz.func247 rfl (by kernel_rfl) rfl (by decide) Tryz.ntmps247 (N_fd a0 a1 a2 a3) (H_fd a0 a1 a2 a3 hp rfl) E w vs hr hv
 · cases h
def G_d8 : List (Nat × Ag.Spec) := [(196, .pure g_av), (257, .pure g_br), (259, .pure g_bf), (260, .pure g_bk), (293, .pure g_ax)]
def as_d8 (cm : Int) (ga : Bool) : List AV := [AV.agg [AV.int .i64 cm, AV.bool ga]]
theorem N_d8 (cm : Int) (ga : Bool) (K : AV -> Prop) : vwp tab (envL G_d8) (fun _ _ _ => False) 0 (bodyOf Tryz.f332) (entry (as_d8 cm ga) 20) (fnPost tab [.cell 2 64] fun v s => K (v.frz s.mem)) = B_d8 cm ga (fun r0 r1 => K (AV.agg [AV.int .i64 r0, AV.bool r1]))  := by kernel_rfl
def g_d8 : List AV -> Option (Prop × RT)
  | [AV.agg [AV.int .i64 cm, AV.bool ga]] => some (P_d8 cm ga, RT.leaf (AV.agg [AV.int .i64 (F_d8_0 cm ga), AV.bool (F_d8_1 cm ga)]))
  | _ => none
theorem S_d8 : SpecOK Tryz.prog 332 (.pure g_d8) := by
 intro xs p r h hp E w vs hr hv; unfold g_d8 at h; split at h
 · rename_i cm ga
   obtain ⟨rfl, rfl⟩ := some_pair h
   exact walk0 (ys := as_d8 cm ga) (rs := [.cell 2 64]) tab_ok (show SpecsOK Tryz.prog G_d8 from ⟨S_av, S_br, S_bf, S_bk, S_ax, trivial⟩) Tryz.func332 rfl (by kernel_rfl) rfl (by decide) Tryz.ntmps332 (N_d8 cm ga) (H_d8 cm ga hp rfl) E w vs hr hv
 · cases h
def G_bo : List (Nat × Ag.Spec) := [(142, .pure g_bj)]
def as_bo (gk : Int) (gn : Bool) (ge : Int) (gg : Bool) : List AV := [AV.agg [AV.int .i64 gk, AV.bool gn, AV.int .i64 ge, AV.bool gg]]
theorem N_bo (gk : Int) (gn : Bool) (ge : Int) (gg : Bool) (K : AV -> Prop) : vwp tab (envL G_bo) (fun _ _ _ => False) 0 (bodyOf Tryz.f61) (entry (as_bo gk gn ge gg) 8) (fnPost tab [.cell 2 64] fun v s => K (v.frz s.mem)) = B_bo gk gn ge gg (fun r0 r1 => K (AV.agg [AV.int .i64 r0, AV.bool r1]))  := by kernel_rfl
def g_bo : List AV -> Option (Prop × RT)
  | [AV.agg [AV.int .i64 gk, AV.bool gn, AV.int .i64 ge, AV.bool gg]] => some (P_bo gk gn ge gg, RT.leaf (AV.agg [AV.int .i64 (F_bo_0 gk gn ge gg), AV.bool (F_bo_1 gk gn ge gg)]))
  | _ => none
theorem S_bo : SpecOK Tryz.prog 61 (.pure g_bo) := by
 intro xs p r h hp E w vs hr hv; unfold g_bo at h; split at h
 · rename_i gk gn ge gg
   obtain ⟨rfl, rfl⟩ := some_pair h
   exact walk0 (ys := as_bo gk gn ge gg) (rs := [.cell 2 64]) tab_ok (show SpecsOK Tryz.prog G_bo from ⟨S_bj, trivial⟩) Tryz.func61 rfl (by kernel_rfl) rfl (by decide) Tryz.ntmps61 (N_bo gk gn ge gg) (H_bo gk gn ge gg hp rfl) E w vs hr hv
 · cases h
def G_dt : List (Nat × Ag.Spec) := [(68, .pure g_b6)]
def as_dt (cm ga : Int) : List AV := [AV.agg [AV.int .i64 cm, AV.int .i64 ga]]
theorem N_dt (cm ga : Int) (K : AV -> Prop) : vwp tab (envL G_dt) (fun _ _ _ => False) 0 (bodyOf Tryz.f104) (entry (as_dt cm ga) 10) (fnPost tab [.cell 2 66] fun v s => K (v.frz s.mem)) = B_dt cm ga (fun r0 r1 r2 r3 => K (AV.agg [AV.int .i64 r0, AV.bool r1, AV.int .i64 r2, AV.bool r3]))  := by kernel_rfl
def g_dt : List AV -> Option (Prop × RT)
  | [AV.agg [AV.int .i64 cm, AV.int .i64 ga]] => some (P_dt cm ga, RT.leaf (AV.agg [AV.int .i64 (F_dt_0 cm ga), AV.bool (F_dt_1 cm ga), AV.int .i64 (F_dt_2 cm ga), AV.bool (F_dt_3 cm ga)]))
  | _ => none
theorem S_dt : SpecOK Tryz.prog 104 (.pure g_dt) := by
 intro xs p r h hp E w vs hr hv; unfold g_dt at h; split at h
 · rename_i cm ga
   obtain ⟨rfl, rfl⟩ := some_pair h
   exact walk0 (ys := as_dt cm ga) (rs := [.cell 2 66]) tab_ok (show SpecsOK Tryz.prog G_dt from ⟨S_b6, trivial⟩) Tryz.func104 rfl (by kernel_rfl) rfl (by decide) Tryz.ntmps104 (N_dt cm ga) (H_dt cm ga hp rfl) E w vs hr hv
 · cases h
def G_cz : List (Nat × Ag.Spec) := [(140, .pure g_cj)]
def S_cz_0 (gp : Nat) (gk : Nat -> Int) (gn : Nat -> Bool) (ge : Nat -> Int) (gg : Nat -> Bool) (je kf : Bool) (ib : Int) (jy : Nat) (ja : (Nat -> Int)) (jb : (Nat -> Bool)) (jz : Nat) (jc : (Nat -> Int)) (jd : (Nat -> Bool)) : VS := ⟨slotsN 33 0 [(0, AV.rs none gp [CF.I .i64 gk, CF.B gn, CF.I .i64 ge, CF.B gg]), (2, AV.ptr false 0 0 0), (3, AV.sl (some je) 1 jy 2), (4, AV.sl (some kf) 2 jz 2), (5, AV.int .i64 ib)], [.one true 66 [AV.int .i64 0, AV.bool false, AV.int .i64 0, AV.bool false], .many true 64 jy [CF.I .i64 ja, CF.B jb], .many true 64 jz [CF.I .i64 jc, CF.B jd]], false, 0⟩
def X_cz_0_exit0 (gp : Nat) (gk : Nat -> Int) (gn : Nat -> Bool) (ge : Nat -> Int) (gg : Nat -> Bool) (o0 o1 : Bool) (o2 : Int) (o3 : Nat) (o4 : (Nat -> Int)) (o5 : (Nat -> Bool)) (o6 : Nat) (o7 : (Nat -> Int)) (o8 : (Nat -> Bool)) : VS := ⟨slotsN 33 0 [(0, AV.rs none gp [CF.I .i64 gk, CF.B gn, CF.I .i64 ge, CF.B gg]), (2, AV.ptr false 0 0 0), (3, AV.sl (some o0) 1 o3 2), (4, AV.sl (some o1) 2 o6 2), (5, AV.int .i64 o2)], [.one true 66 [AV.int .i64 0, AV.bool false, AV.int .i64 0, AV.bool false], .many true 64 o3 [CF.I .i64 o4, CF.B o5], .many true 64 o6 [CF.I .i64 o7, CF.B o8]], false, 0⟩
theorem N_cz_0 (gp : Nat) (gk : Nat -> Int) (gn : Nat -> Bool) (ge : Nat -> Int) (gg : Nat -> Bool) (je kf : Bool) (ib : Int) (jy : Nat) (ja : (Nat -> Int)) (jb : (Nat -> Bool)) (jz : Nat) (jc : (Nat -> Int)) (jd : (Nat -> Bool)) (Q : Exit -> VS -> Prop) : vwp tab (envL G_cz) (fun _ _ _ => False) 0 (lbody (loopAt (bodyOf Tryz.f182) 0)) (S_cz_0 gp gk gn ge gg je kf ib jy ja jb jz jc jd) (QM [0, 2, 3, 4, 5] [0, 1, 2] 3 Q) = B_cz_0 gp gk gn ge gg je kf ib jy ja jb jz jc jd (fun w0 w1 w2 w3 w4 w5 w6 w7 w8 => Q .normal (S_cz_0 gp gk gn ge gg w0 w1 w2 w3 w4 w5 w6 w7 w8)) (fun o0 o1 o2 o3 o4 o5 o6 o7 o8 => Q (.exit 0) (X_cz_0_exit0 gp gk gn ge gg o0 o1 o2 o3 o4 o5 o6 o7 o8))  := by kernel_rfl
theorem L_cz_0 {X : Cx} (hX : Std Tryz.prog tab (envL G_cz) X) (b : Code) (hb : b = bodyOf Tryz.f182) (gp : Nat) (gk : Nat -> Int) (gn : Nat -> Bool) (ge : Nat -> Int) (gg : Nat -> Bool) (fu : Nat) (je kf : Bool) (ib : Int) (jy : Nat) (ja : (Nat -> Int)) (jb : (Nat -> Bool)) (jz : Nat) (jc : (Nat -> Int)) (jd : (Nat -> Bool)) (Q : Exit -> VS -> Prop) (h : W_cz_0 gp gk gn ge gg fu je kf ib jy ja jb jz jc jd (fun o0 o1 o2 o3 o4 o5 o6 o7 o8 => Q (.exit 0) (X_cz_0_exit0 gp gk gn ge gg o0 o1 o2 o3 o4 o5 o6 o7 o8))) : TrK X b 0 (S_cz_0 gp gk gn ge gg je kf ib jy ja jb jz jc jd) Q := by
  subst hb
  refine loop_ok (V := Bool × Bool × Int × Nat × (Nat -> Int) × (Nat -> Bool) × Nat × (Nat -> Int) × (Nat -> Bool)) (fun v => S_cz_0 gp gk gn ge gg v.1 v.2.1 v.2.2.1 v.2.2.2.1 v.2.2.2.2.1 v.2.2.2.2.2.1 v.2.2.2.2.2.2.1 v.2.2.2.2.2.2.2.1 v.2.2.2.2.2.2.2.2) (fun f v => W_cz_0 gp gk gn ge gg f v.1 v.2.1 v.2.2.1 v.2.2.2.1 v.2.2.2.2.1 v.2.2.2.2.2.1 v.2.2.2.2.2.2.1 v.2.2.2.2.2.2.2.1 v.2.2.2.2.2.2.2.2 (fun o0 o1 o2 o3 o4 o5 o6 o7 o8 => Q (.exit 0) (X_cz_0_exit0 gp gk gn ge gg o0 o1 o2 o3 o4 o5 o6 o7 o8))) (fun _ h => h) (by kernel_rfl) (fun f v hv => ?_) (fuel := fu) (v0 := (je, kf, ib, jy, ja, jb, jz, jc, jd)) h
  refine QM_ok (bs := [0, 2, 3, 4, 5]) (ms := [0, 1, 2]) (nm := 3) ?_
  refine vwp_std hX rfl (tr := (fun _ _ _ => False)) (fun _ _ _ h => h.elim) ?_
  refine Eq.mpr (N_cz_0 gp gk gn ge gg v.1 v.2.1 v.2.2.1 v.2.2.2.1 v.2.2.2.2.1 v.2.2.2.2.2.1 v.2.2.2.2.2.2.1 v.2.2.2.2.2.2.2.1 v.2.2.2.2.2.2.2.2 _) ?_
  exact BM_cz_0 gp gk gn ge gg v.1 v.2.1 v.2.2.1 v.2.2.2.1 v.2.2.2.2.1 v.2.2.2.2.2.1 v.2.2.2.2.2.2.1 v.2.2.2.2.2.2.2.1 v.2.2.2.2.2.2.2.2 (fun w0 w1 w2 w3 w4 w5 w6 w7 w8 h => ⟨(w0, w1, w2, w3, w4, w5, w6, w7, w8), rfl, h⟩) (fun _ _ _ _ _ _ _ _ _ h => h) hv
def T_cz (gp : Nat) (gk : Nat -> Int) (gn : Nat -> Bool) (ge : Nat -> Int) (gg : Nat -> Bool) (k : Nat) (st : VS) (Q : Exit -> VS -> Prop) : Prop := match k with
  | 0 => TL [0, 2, 3, 4, 5] [0, 1, 2] 3 (convs st [⟨.t 3, 64, [CF.I .i64 (fun _ => 0), CF.B (fun _ => false)]⟩, ⟨.t 4, 64, [CF.I .i64 (fun _ => 0), CF.B (fun _ => false)]⟩]) (fun st => S_cz_0 gp gk gn ge gg (qAV (tAt st 3)) (qAV (tAt st 4)) (intOf (tAt st 5)) (nAB (blkAt st 1)) (colI (cAB (blkAt st 1)) 0) (colB (cAB (blkAt st 1)) 1) (nAB (blkAt st 2)) (colI (cAB (blkAt st 2)) 0) (colB (cAB (blkAt st 2)) 1)) (fun st => W_cz_0 gp gk gn ge gg fuel (qAV (tAt st 3)) (qAV (tAt st 4)) (intOf (tAt st 5)) (nAB (blkAt st 1)) (colI (cAB (blkAt st 1)) 0) (colB (cAB (blkAt st 1)) 1) (nAB (blkAt st 2)) (colI (cAB (blkAt st 2)) 0) (colB (cAB (blkAt st 2)) 1) (fun o0 o1 o2 o3 o4 o5 o6 o7 o8 => Q (.exit 0) (X_cz_0_exit0 gp gk gn ge gg o0 o1 o2 o3 o4 o5 o6 o7 o8)))
  | _ => False
theorem TS_cz {X : Cx} (hX : Std Tryz.prog tab (envL G_cz) X) (b : Code) (hb : b = bodyOf Tryz.f182) (gp : Nat) (gk : Nat -> Int) (gn : Nat -> Bool) (ge : Nat -> Int) (gg : Nat -> Bool) (j : Nat) (st : VS) (Q : Exit -> VS -> Prop) (h : T_cz gp gk gn ge gg j st Q) : TrK X b j st Q := by
  unfold T_cz at h
  split at h
  · exact TL_ok h (fun h' => L_cz_0 hX b hb gp gk gn ge gg _ _ _ _ _ _ _ _ _ _ Q h')
  · exact h.elim
def as_cz (gp : Nat) (gk : Nat -> Int) (gn : Nat -> Bool) (ge : Nat -> Int) (gg : Nat -> Bool) : List AV := [AV.rs none gp [CF.I .i64 gk, CF.B gn, CF.I .i64 ge, CF.B gg]]
theorem N_cz (gp : Nat) (gk : Nat -> Int) (gn : Nat -> Bool) (ge : Nat -> Int) (gg : Nat -> Bool) (K : AV -> Prop) : vwp tab (envL G_cz) (T_cz gp gk gn ge gg) 0 (bodyOf Tryz.f182) (entry (as_cz gp gk gn ge gg) 33) (fnPost tab [.cell 2 66] fun v s => K (v.frz s.mem)) = B_cz gp gk gn ge gg (fun r0 r1 r2 r3 => K (AV.agg [AV.int .i64 r0, AV.bool r1, AV.int .i64 r2, AV.bool r3])) (fun p0 p1 p2 p3 p4 p5 p6 p7 p8 y0 => S_cz_0 gp gk gn ge gg p0 p1 p2 p3 p4 p5 p6 p7 p8 = S_cz_0 gp gk gn ge gg p0 p1 p2 p3 p4 p5 p6 p7 p8 /\ W_cz_0 gp gk gn ge gg fuel p0 p1 p2 p3 p4 p5 p6 p7 p8 y0) := by kernel_rfl
theorem BL_cz (gp : Nat) (gk : Nat -> Int) (gn : Nat -> Bool) (ge : Nat -> Int) (gg : Nat -> Bool) {K0 : Int -> Bool -> Int -> Bool -> Prop} : B_cz gp gk gn ge gg K0 (W_cz_0 gp gk gn ge gg fuel) -> B_cz gp gk gn ge gg K0 (fun p0 p1 p2 p3 p4 p5 p6 p7 p8 y0 => S_cz_0 gp gk gn ge gg p0 p1 p2 p3 p4 p5 p6 p7 p8 = S_cz_0 gp gk gn ge gg p0 p1 p2 p3 p4 p5 p6 p7 p8 /\ W_cz_0 gp gk gn ge gg fuel p0 p1 p2 p3 p4 p5 p6 p7 p8 y0) := by
  unfold B_cz
  repeat' first
    | exact id
    | refine Ts_imp ?_
    | refine cond_imp ?_ ?_
    | refine and_imp' ?_
    | refine fun h => ⟨rfl, WM_cz_0 _ _ _ _ _  (fun _ _ _ _ _ _ _ _ _ => ?_) _ _ _ _ _ _ _ _ _ _  h⟩
def g_cz : List AV -> Option (Prop × RT)
  | [AV.rs sq0 sn0 sc0] => cond (kindsOK [KC.I .i64, KC.B, KC.I .i64, KC.B] sc0) (some (P_cz (nOf sn0 sc0) (colI sc0 0) (colB sc0 1) (colI sc0 2) (colB sc0 3), RT.leaf (AV.agg [AV.int .i64 (F_cz_0 (nOf sn0 sc0) (colI sc0 0) (colB sc0 1) (colI sc0 2) (colB sc0 3)), AV.bool (F_cz_1 (nOf sn0 sc0) (colI sc0 0) (colB sc0 1) (colI sc0 2) (colB sc0 3)), AV.int .i64 (F_cz_2 (nOf sn0 sc0) (colI sc0 0) (colB sc0 1) (colI sc0 2) (colB sc0 3)), AV.bool (F_cz_3 (nOf sn0 sc0) (colI sc0 0) (colB sc0 1) (colI sc0 2) (colB sc0 3))]))) none
  | _ => none
theorem S_cz : SpecOK Tryz.prog 182 (.pure g_cz) := by
 intro xs p r h hp E w vs hr hv; unfold g_cz at h; split at h
 · rename_i sq0 sn0 sc0
   obtain ⟨hk0, h⟩ := cond_some h
   obtain ⟨rfl, rfl⟩ := some_pair h
   have hG := (show SpecsOK Tryz.prog G_cz from ⟨S_cj, trivial⟩)
   have hv' := ((AV.les.cons (AV.le.rs hk0) AV.les.nil) _ _ hv : VRs E.bare (as_cz (nOf sn0 sc0) (colI sc0 0) (colB sc0 1) (colI sc0 2) (colB sc0 3)) vs)
   refine walk_pure' (c := bodyOf Tryz.f182) (rs := [.cell 2 66]) (ys := as_cz (nOf sn0 sc0) (colI sc0 0) (colB sc0 1) (colI sc0 2) (colB sc0 3)) tab_ok (envL_ok hG) Tryz.func182 rfl (by kernel_rfl) rfl (by decide) (fun X hX hrho => ?_) E w vs hr hv'
   rw [Tryz.ntmps182]
   refine vwp_std hX rfl (tr := T_cz (nOf sn0 sc0) (colI sc0 0) (colB sc0 1) (colI sc0 2) (colB sc0 3)) (fun j st Q h => TS_cz hX _ rfl (nOf sn0 sc0) (colI sc0 0) (colB sc0 1) (colI sc0 2) (colB sc0 3) j st Q h) (Eq.mpr (N_cz (nOf sn0 sc0) (colI sc0 0) (colB sc0 1) (colI sc0 2) (colB sc0 3) (fun x => x = _)) ?_)
   exact BL_cz (nOf sn0 sc0) (colI sc0 0) (colB sc0 1) (colI sc0 2) (colB sc0 3) (H_cz (nOf sn0 sc0) (colI sc0 0) (colB sc0 1) (colI sc0 2) (colB sc0 3) hp rfl)
 · cases h
def G_dx : List (Nat × Ag.Spec) := [(140, .pure g_cj)]
def as_dx (cm : Int) (ga : Bool) : List AV := [AV.agg [AV.int .i64 cm, AV.bool ga]]
theorem N_dx (cm : Int) (ga : Bool) (K : AV -> Prop) : vwp tab (envL G_dx) (fun _ _ _ => False) 0 (bodyOf Tryz.f181) (entry (as_dx cm ga) 7) (fnPost tab [.tmp 2] fun v s => K (v.frz s.mem)) = B_dx cm ga (fun r0 => K (AV.bool r0))  := by kernel_rfl
def g_dx : List AV -> Option (Prop × RT)
  | [AV.agg [AV.int .i64 cm, AV.bool ga]] => some (P_dx cm ga, RT.leaf (AV.bool (F_dx_0 cm ga)))
  | _ => none
theorem S_dx : SpecOK Tryz.prog 181 (.pure g_dx) := by
 intro xs p r h hp E w vs hr hv; unfold g_dx at h; split at h
 · rename_i cm ga
   obtain ⟨rfl, rfl⟩ := some_pair h
   exact walk0 (ys := as_dx cm ga) (rs := [.tmp 2]) tab_ok (show SpecsOK Tryz.prog G_dx from ⟨S_cj, trivial⟩) Tryz.func181 rfl (by kernel_rfl) rfl (by decide) Tryz.ntmps181 (N_dx cm ga) (H_dx cm ga hp rfl) E w vs hr hv
 · cases h
def G_b7 : List (Nat × Ag.Spec) := [(181, .pure g_dx)]
def S_b7_0 (gp : Nat) (gk : Nat -> Int) (gn : Nat -> Bool) (ge : Nat -> Int) (gg : Nat -> Bool) (gz : Int) : VS := ⟨slotsN 24 0 [(0, AV.rs none gp [CF.I .i64 gk, CF.B gn, CF.I .i64 ge, CF.B gg]), (2, AV.bool false), (3, AV.int .i64 gz)], [], false, 0⟩
def X_b7_0_exit0 (gp : Nat) (gk : Nat -> Int) (gn : Nat -> Bool) (ge : Nat -> Int) (gg : Nat -> Bool) (o0 : Int) : VS := ⟨slotsN 24 0 [(0, AV.rs none gp [CF.I .i64 gk, CF.B gn, CF.I .i64 ge, CF.B gg]), (2, AV.bool false), (3, AV.int .i64 o0)], [], false, 0⟩
def X_b7_0_ret (gp : Nat) (gk : Nat -> Int) (gn : Nat -> Bool) (ge : Nat -> Int) (gg : Nat -> Bool) (o0 : Bool) (o1 : Int) : VS := ⟨slotsN 24 0 [(0, AV.rs none gp [CF.I .i64 gk, CF.B gn, CF.I .i64 ge, CF.B gg]), (2, AV.bool o0), (3, AV.int .i64 o1)], [], false, 0⟩
theorem N_b7_0 (gp : Nat) (gk : Nat -> Int) (gn : Nat -> Bool) (ge : Nat -> Int) (gg : Nat -> Bool) (gz : Int) (Q : Exit -> VS -> Prop) : vwp tab (envL G_b7) (fun _ _ _ => False) 0 (lbody (loopAt (bodyOf Tryz.f266) 0)) (S_b7_0 gp gk gn ge gg gz) (QM [0, 2, 3] [] 0 Q) = B_b7_0 gp gk gn ge gg gz (fun w0 => Q .normal (S_b7_0 gp gk gn ge gg w0)) (fun o0 => Q (.exit 0) (X_b7_0_exit0 gp gk gn ge gg o0)) (fun o0 o1 => Q .ret (X_b7_0_ret gp gk gn ge gg o0 o1))  := by kernel_rfl
theorem L_b7_0 {X : Cx} (hX : Std Tryz.prog tab (envL G_b7) X) (b : Code) (hb : b = bodyOf Tryz.f266) (gp : Nat) (gk : Nat -> Int) (gn : Nat -> Bool) (ge : Nat -> Int) (gg : Nat -> Bool) (fu : Nat) (gz : Int) (Q : Exit -> VS -> Prop) (h : W_b7_0 gp gk gn ge gg fu gz (fun o0 => Q (.exit 0) (X_b7_0_exit0 gp gk gn ge gg o0)) (fun o0 o1 => Q .ret (X_b7_0_ret gp gk gn ge gg o0 o1))) : TrK X b 0 (S_b7_0 gp gk gn ge gg gz) Q := by
  subst hb
  refine loop_ok (V := Int) (fun v => S_b7_0 gp gk gn ge gg v) (fun f v => W_b7_0 gp gk gn ge gg f v (fun o0 => Q (.exit 0) (X_b7_0_exit0 gp gk gn ge gg o0)) (fun o0 o1 => Q .ret (X_b7_0_ret gp gk gn ge gg o0 o1))) (fun _ h => h) (by kernel_rfl) (fun f v hv => ?_) (fuel := fu) (v0 := (gz)) h
  refine QM_ok (bs := [0, 2, 3]) (ms := []) (nm := 0) ?_
  refine vwp_std hX rfl (tr := (fun _ _ _ => False)) (fun _ _ _ h => h.elim) ?_
  refine Eq.mpr (N_b7_0 gp gk gn ge gg v _) ?_
  exact BM_b7_0 gp gk gn ge gg v (fun w0 h => ⟨w0, rfl, h⟩) (fun _ h => h) (fun _ _ h => h) hv
def T_b7 (gp : Nat) (gk : Nat -> Int) (gn : Nat -> Bool) (ge : Nat -> Int) (gg : Nat -> Bool) (k : Nat) (st : VS) (Q : Exit -> VS -> Prop) : Prop := match k with
  | 0 => TL [0, 2, 3] [] 0 (convs st []) (fun st => S_b7_0 gp gk gn ge gg (intOf (tAt st 3))) (fun st => W_b7_0 gp gk gn ge gg fuel (intOf (tAt st 3)) (fun o0 => Q (.exit 0) (X_b7_0_exit0 gp gk gn ge gg o0)) (fun o0 o1 => Q .ret (X_b7_0_ret gp gk gn ge gg o0 o1)))
  | _ => False
theorem TS_b7 {X : Cx} (hX : Std Tryz.prog tab (envL G_b7) X) (b : Code) (hb : b = bodyOf Tryz.f266) (gp : Nat) (gk : Nat -> Int) (gn : Nat -> Bool) (ge : Nat -> Int) (gg : Nat -> Bool) (j : Nat) (st : VS) (Q : Exit -> VS -> Prop) (h : T_b7 gp gk gn ge gg j st Q) : TrK X b j st Q := by
  unfold T_b7 at h
  split at h
  · exact TL_ok h (fun h' => L_b7_0 hX b hb gp gk gn ge gg _ _ Q h')
  · exact h.elim
def as_b7 (gp : Nat) (gk : Nat -> Int) (gn : Nat -> Bool) (ge : Nat -> Int) (gg : Nat -> Bool) : List AV := [AV.rs none gp [CF.I .i64 gk, CF.B gn, CF.I .i64 ge, CF.B gg]]
theorem N_b7 (gp : Nat) (gk : Nat -> Int) (gn : Nat -> Bool) (ge : Nat -> Int) (gg : Nat -> Bool) (K : AV -> Prop) : vwp tab (envL G_b7) (T_b7 gp gk gn ge gg) 0 (bodyOf Tryz.f266) (entry (as_b7 gp gk gn ge gg) 24) (fnPost tab [.tmp 2] fun v s => K (v.frz s.mem)) = B_b7 gp gk gn ge gg (fun r0 => K (AV.bool r0)) (fun p0 y0 y1 => S_b7_0 gp gk gn ge gg p0 = S_b7_0 gp gk gn ge gg p0 /\ W_b7_0 gp gk gn ge gg fuel p0 y0 y1) := by kernel_rfl
theorem BL_b7 (gp : Nat) (gk : Nat -> Int) (gn : Nat -> Bool) (ge : Nat -> Int) (gg : Nat -> Bool) {K0 : Bool -> Prop} : B_b7 gp gk gn ge gg K0 (W_b7_0 gp gk gn ge gg fuel) -> B_b7 gp gk gn ge gg K0 (fun p0 y0 y1 => S_b7_0 gp gk gn ge gg p0 = S_b7_0 gp gk gn ge gg p0 /\ W_b7_0 gp gk gn ge gg fuel p0 y0 y1) := by
  unfold B_b7
  repeat' first
    | exact id
    | refine Ts_imp ?_
    | refine cond_imp ?_ ?_
    | refine and_imp' ?_
    | refine fun h => ⟨rfl, WM_b7_0 _ _ _ _ _  (fun _ => ?_) (fun _ _ => ?_) _ _  h⟩
def g_b7 : List AV -> Option (Prop × RT)
  | [AV.rs sq0 sn0 sc0] => cond (kindsOK [KC.I .i64, KC.B, KC.I .i64, KC.B] sc0) (some (P_b7 (nOf sn0 sc0) (colI sc0 0) (colB sc0 1) (colI sc0 2) (colB sc0 3), RT.leaf (AV.bool (F_b7_0 (nOf sn0 sc0) (colI sc0 0) (colB sc0 1) (colI sc0 2) (colB sc0 3))))) none
  | _ => none
theorem S_b7 : SpecOK Tryz.prog 266 (.pure g_b7) := by
 intro xs p r h hp E w vs hr hv; unfold g_b7 at h; split at h
 · rename_i sq0 sn0 sc0
   obtain ⟨hk0, h⟩ := cond_some h
   obtain ⟨rfl, rfl⟩ := some_pair h
   have hG := (show SpecsOK Tryz.prog G_b7 from ⟨S_dx, trivial⟩)
   have hv' := ((AV.les.cons (AV.le.rs hk0) AV.les.nil) _ _ hv : VRs E.bare (as_b7 (nOf sn0 sc0) (colI sc0 0) (colB sc0 1) (colI sc0 2) (colB sc0 3)) vs)
   refine walk_pure' (c := bodyOf Tryz.f266) (rs := [.tmp 2]) (ys := as_b7 (nOf sn0 sc0) (colI sc0 0) (colB sc0 1) (colI sc0 2) (colB sc0 3)) tab_ok (envL_ok hG) Tryz.func266 rfl (by kernel_rfl) rfl (by decide) (fun X hX hrho => ?_) E w vs hr hv'
   rw [Tryz.ntmps266]
   refine vwp_std hX rfl (tr := T_b7 (nOf sn0 sc0) (colI sc0 0) (colB sc0 1) (colI sc0 2) (colB sc0 3)) (fun j st Q h => TS_b7 hX _ rfl (nOf sn0 sc0) (colI sc0 0) (colB sc0 1) (colI sc0 2) (colB sc0 3) j st Q h) (Eq.mpr (N_b7 (nOf sn0 sc0) (colI sc0 0) (colB sc0 1) (colI sc0 2) (colB sc0 3) (fun x => x = _)) ?_)
   exact BL_b7 (nOf sn0 sc0) (colI sc0 0) (colB sc0 1) (colI sc0 2) (colB sc0 3) (H_b7 (nOf sn0 sc0) (colI sc0 0) (colB sc0 1) (colI sc0 2) (colB sc0 3) hp rfl)
 · cases h
def G_di : List (Nat × Ag.Spec) := [(59, .pure g_fg), (61, .pure g_bo), (188, .pure g_dp), (266, .pure g_b7), (267, .pure g_bx)]
def as_di (gk : Int) (gn : Bool) (ge : Int) (gg : Bool) : List AV := [AV.agg [AV.int .i64 gk, AV.bool gn, AV.int .i64 ge, AV.bool gg]]
theorem N_di (gk : Int) (gn : Bool) (ge : Int) (gg : Bool) (K : AV -> Prop) : vwp tab (envL G_di) (fun _ _ _ => False) 0 (bodyOf Tryz.f184) (entry (as_di gk gn ge gg) 53) (fnPost tab [.cell 2 66, .tmp 3] fun v s => K (v.frz s.mem)) = B_di gk gn ge gg (fun r0 r1 r2 r3 r4 => K (AV.tup [AV.agg [AV.int .i64 r0, AV.bool r1, AV.int .i64 r2, AV.bool r3], AV.bool r4]))  := by kernel_rfl
def g_di : List AV -> Option (Prop × RT)
  | [AV.agg [AV.int .i64 gk, AV.bool gn, AV.int .i64 ge, AV.bool gg]] => some (P_di gk gn ge gg, RT.leaf (AV.tup [AV.agg [AV.int .i64 (F_di_0 gk gn ge gg), AV.bool (F_di_1 gk gn ge gg), AV.int .i64 (F_di_2 gk gn ge gg), AV.bool (F_di_3 gk gn ge gg)], AV.bool (F_di_4 gk gn ge gg)]))
  | _ => none
theorem S_di : SpecOK Tryz.prog 184 (.pure g_di) := by
 intro xs p r h hp E w vs hr hv; unfold g_di at h; split at h
 · rename_i gk gn ge gg
   obtain ⟨rfl, rfl⟩ := some_pair h
   exact walk0 (ys := as_di gk gn ge gg) (rs := [.cell 2 66, .tmp 3]) tab_ok (show SpecsOK Tryz.prog G_di from ⟨S_fg, S_bo, S_dp, S_b7, S_bx, trivial⟩) Tryz.func184 rfl (by kernel_rfl) rfl (by decide) Tryz.ntmps184 (N_di gk gn ge gg) (H_di gk gn ge gg hp rfl) E w vs hr hv
 · cases h
def G_ew : List (Nat × Ag.Spec) := [(141, .pure g_ep), (180, .pure g_bw)]
def as_ew (gk : Int) (gn : Bool) (ge : Int) (gg : Bool) (ig : Int) (ii : Bool) (g8 : Int) (g9 : Bool) : List AV := [AV.agg [AV.int .i64 gk, AV.bool gn, AV.int .i64 ge, AV.bool gg], AV.agg [AV.int .i64 ig, AV.bool ii, AV.int .i64 g8, AV.bool g9]]
theorem N_ew (gk : Int) (gn : Bool) (ge : Int) (gg : Bool) (ig : Int) (ii : Bool) (g8 : Int) (g9 : Bool) (K : AV -> Prop) : vwp tab (envL G_ew) (fun _ _ _ => False) 0 (bodyOf Tryz.f185) (entry (as_ew gk gn ge gg ig ii g8 g9) 15) (fnPost tab [.cell 4 64] fun v s => K (v.frz s.mem)) = B_ew gk gn ge gg ig ii g8 g9 (fun r0 r1 => K (AV.agg [AV.int .i64 r0, AV.bool r1]))  := by kernel_rfl
def g_ew : List AV -> Option (Prop × RT)
  | [AV.agg [AV.int .i64 gk, AV.bool gn, AV.int .i64 ge, AV.bool gg], AV.agg [AV.int .i64 ig, AV.bool ii, AV.int .i64 g8, AV.bool g9]] => some (P_ew gk gn ge gg ig ii g8 g9, RT.leaf (AV.agg [AV.int .i64 (F_ew_0 gk gn ge gg ig ii g8 g9), AV.bool (F_ew_1 gk gn ge gg ig ii g8 g9)]))
  | _ => none
theorem S_ew : SpecOK Tryz.prog 185 (.pure g_ew) := by
 intro xs p r h hp E w vs hr hv; unfold g_ew at h; split at h
 · rename_i gk gn ge gg ig ii g8 g9
   obtain ⟨rfl, rfl⟩ := some_pair h
   exact walk0 (ys := as_ew gk gn ge gg ig ii g8 g9) (rs := [.cell 4 64]) tab_ok (show SpecsOK Tryz.prog G_ew from ⟨S_ep, S_bw, trivial⟩) Tryz.func185 rfl (by kernel_rfl) rfl (by decide) Tryz.ntmps185 (N_ew gk gn ge gg ig ii g8 g9) (H_ew gk gn ge gg ig ii g8 g9 hp rfl) E w vs hr hv
 · cases h
def G_ft : List (Nat × Ag.Spec) := [(180, .pure g_bw)]
def as_ft (gk : Int) (gn : Bool) (ge : Int) (gg : Bool) (ig : Int) (ii : Bool) (g8 : Int) (g9 : Bool) : List AV := [AV.agg [AV.int .i64 gk, AV.bool gn, AV.int .i64 ge, AV.bool gg], AV.agg [AV.int .i64 ig, AV.bool ii, AV.int .i64 g8, AV.bool g9]]
theorem N_ft (gk : Int) (gn : Bool) (ge : Int) (gg : Bool) (ig : Int) (ii : Bool) (g8 : Int) (g9 : Bool) (K : AV -> Prop) : vwp tab (envL G_ft) (fun _ _ _ => False) 0 (bodyOf Tryz.f189) (entry (as_ft gk gn ge gg ig ii g8 g9) 14) (fnPost tab [.cell 4 64] fun v s => K (v.frz s.mem)) = B_ft gk gn ge gg ig ii g8 g9 (fun r0 r1 => K (AV.agg [AV.int .i64 r0, AV.bool r1]))  := by kernel_rfl
def g_ft : List AV -> Option (Prop × RT)
  | [AV.agg [AV.int .i64 gk, AV.bool gn, AV.int .i64 ge, AV.bool gg], AV.agg [AV.int .i64 ig, AV.bool ii, AV.int .i64 g8, AV.bool g9]] => some (P_ft gk gn ge gg ig ii g8 g9, RT.leaf (AV.agg [AV.int .i64 (F_ft_0 gk gn ge gg ig ii g8 g9), AV.bool (F_ft_1 gk gn ge gg ig ii g8 g9)]))
  | _ => none
theorem S_ft : SpecOK Tryz.prog 189 (.pure g_ft) := by
 intro xs p r h hp E w vs hr hv; unfold g_ft at h; split at h
 · rename_i gk gn ge gg ig ii g8 g9
   obtain ⟨rfl, rfl⟩ := some_pair h
   exact walk0 (ys := as_ft gk gn ge gg ig ii g8 g9) (rs := [.cell 4 64]) tab_ok (show SpecsOK Tryz.prog G_ft from ⟨S_bw, trivial⟩) Tryz.func189 rfl (by kernel_rfl) rfl (by decide) Tryz.ntmps189 (N_ft gk gn ge gg ig ii g8 g9) (H_ft gk gn ge gg ig ii g8 g9 hp rfl) E w vs hr hv
 · cases h
def G_ef : List (Nat × Ag.Spec) := [(66, .pure g_ct)]
def as_ef (gk : Int) (gn : Bool) (ge : Int) (gg : Bool) (gb : Int) (gd : Bool) : List AV := [AV.agg [AV.int .i64 gk, AV.bool gn, AV.int .i64 ge, AV.bool gg], AV.agg [AV.int .i64 gb, AV.bool gd]]
theorem N_ef (gk : Int) (gn : Bool) (ge : Int) (gg : Bool) (gb : Int) (gd : Bool) (K : AV -> Prop) : vwp tab (envL G_ef) (fun _ _ _ => False) 0 (bodyOf Tryz.f191) (entry (as_ef gk gn ge gg gb gd) 14) (fnPost tab [.cell 4 66] fun v s => K (v.frz s.mem)) = B_ef gk gn ge gg gb gd (fun r0 r1 r2 r3 => K (AV.agg [AV.int .i64 r0, AV.bool r1, AV.int .i64 r2, AV.bool r3]))  := by kernel_rfl
def g_ef : List AV -> Option (Prop × RT)
  | [AV.agg [AV.int .i64 gk, AV.bool gn, AV.int .i64 ge, AV.bool gg], AV.agg [AV.int .i64 gb, AV.bool gd]] => some (P_ef gk gn ge gg gb gd, RT.leaf (AV.agg [AV.int .i64 (F_ef_0 gk gn ge gg gb gd), AV.bool (F_ef_1 gk gn ge gg gb gd), AV.int .i64 (F_ef_2 gk gn ge gg gb gd), AV.bool (F_ef_3 gk gn ge gg gb gd)]))
  | _ => none
theorem S_ef : SpecOK Tryz.prog 191 (.pure g_ef) := by
 intro xs p r h hp E w vs hr hv; unfold g_ef at h; split at h
 · rename_i gk gn ge gg gb gd
   obtain ⟨rfl, rfl⟩ := some_pair h
   exact walk0 (ys := as_ef gk gn ge gg gb gd) (rs := [.cell 4 66]) tab_ok (show SpecsOK Tryz.prog G_ef from ⟨S_ct, trivial⟩) Tryz.func191 rfl (by kernel_rfl) rfl (by decide) Tryz.ntmps191 (N_ef gk gn ge gg gb gd) (H_ef gk gn ge gg gb gd hp rfl) E w vs hr hv
 · cases h
def G_dz : List (Nat × Ag.Spec) := [(176, .pure g_cn)]
def as_dz (cm ga : Int) : List AV := [AV.agg [AV.int .i64 cm, AV.int .i64 ga]]
theorem N_dz (cm ga : Int) (K : AV -> Prop) : vwp tab (envL G_dz) (fun _ _ _ => False) 0 (bodyOf Tryz.f98) (entry (as_dz cm ga) 10) (fnPost tab [.cell 2 66] fun v s => K (v.frz s.mem)) = B_dz cm ga (fun r0 r1 r2 r3 => K (AV.agg [AV.int .i64 r0, AV.bool r1, AV.int .i64 r2, AV.bool r3]))  := by kernel_rfl
def g_dz : List AV -> Option (Prop × RT)
  | [AV.agg [AV.int .i64 cm, AV.int .i64 ga]] => some (P_dz cm ga, RT.leaf (AV.agg [AV.int .i64 (F_dz_0 cm ga), AV.bool (F_dz_1 cm ga), AV.int .i64 (F_dz_2 cm ga), AV.bool (F_dz_3 cm ga)]))
  | _ => none
theorem S_dz : SpecOK Tryz.prog 98 (.pure g_dz) := by
 intro xs p r h hp E w vs hr hv; unfold g_dz at h; split at h
 · rename_i cm ga
   obtain ⟨rfl, rfl⟩ := some_pair h
   exact walk0 (ys := as_dz cm ga) (rs := [.cell 2 66]) tab_ok (show SpecsOK Tryz.prog G_dz from ⟨S_cn, trivial⟩) Tryz.func98 rfl (by kernel_rfl) rfl (by decide) Tryz.ntmps98 (N_dz cm ga) (H_dz cm ga hp rfl) E w vs hr hv
 · cases h
def G_c9 : List (Nat × Ag.Spec) := [(261, .pure g_cp)]
def S_c9_0 (gp : Nat) (gk : Nat -> Int) (gn : Nat -> Bool) (ge : Nat -> Int) (gg : Nat -> Bool) (il : Int) (ja : (Nat -> Int)) (jb : (Nat -> Bool)) (jc : (Nat -> Int)) (jd : (Nat -> Bool)) : VS := ⟨slotsN 36 0 [(2, AV.ptr false 0 0 0), (3, AV.sl (some false) 1 (Int.toNat ((gp : Nat) : Int)) 2), (4, AV.sl (some false) 2 (Int.toNat ((gp : Nat) : Int)) 2), (13, AV.rs none gp [CF.I .i64 gk, CF.B gn, CF.I .i64 ge, CF.B gg]), (14, AV.int .i64 ((gp : Nat) : Int)), (15, AV.int .i64 il)], [.one true 66 [AV.int .i64 0, AV.bool false, AV.int .i64 0, AV.bool false], .many true 64 (Int.toNat ((gp : Nat) : Int)) [CF.I .i64 ja, CF.B jb], .many true 64 (Int.toNat ((gp : Nat) : Int)) [CF.I .i64 jc, CF.B jd]], false, 0⟩
def X_c9_0_exit0 (gp : Nat) (gk : Nat -> Int) (gn : Nat -> Bool) (ge : Nat -> Int) (gg : Nat -> Bool) (o0 : Int) (o1 : (Nat -> Int)) (o2 : (Nat -> Bool)) (o3 : (Nat -> Int)) (o4 : (Nat -> Bool)) : VS := ⟨slotsN 36 0 [(2, AV.ptr false 0 0 0), (3, AV.sl (some false) 1 (Int.toNat ((gp : Nat) : Int)) 2), (4, AV.sl (some false) 2 (Int.toNat ((gp : Nat) : Int)) 2), (13, AV.rs none gp [CF.I .i64 gk, CF.B gn, CF.I .i64 ge, CF.B gg]), (14, AV.int .i64 ((gp : Nat) : Int)), (15, AV.int .i64 o0)], [.one true 66 [AV.int .i64 0, AV.bool false, AV.int .i64 0, AV.bool false], .many true 64 (Int.toNat ((gp : Nat) : Int)) [CF.I .i64 o1, CF.B o2], .many true 64 (Int.toNat ((gp : Nat) : Int)) [CF.I .i64 o3, CF.B o4]], false, 0⟩
theorem N_c9_0 (gp : Nat) (gk : Nat -> Int) (gn : Nat -> Bool) (ge : Nat -> Int) (gg : Nat -> Bool) (il : Int) (ja : (Nat -> Int)) (jb : (Nat -> Bool)) (jc : (Nat -> Int)) (jd : (Nat -> Bool)) (Q : Exit -> VS -> Prop) : vwp tab (envL G_c9) (fun _ _ _ => False) 0 (lbody (loopAt (bodyOf Tryz.f174) 0)) (S_c9_0 gp gk gn ge gg il ja jb jc jd) (QM [2, 3, 4, 13, 14, 15] [0, 1, 2] 3 Q) = B_c9_0 gp gk gn ge gg il ja jb jc jd (fun w0 w1 w2 w3 w4 => Q .normal (S_c9_0 gp gk gn ge gg w0 w1 w2 w3 w4)) (fun o0 o1 o2 o3 o4 => Q (.exit 0) (X_c9_0_exit0 gp gk gn ge gg o0 o1 o2 o3 o4))  := by kernel_rfl
theorem L_c9_0 {X : Cx} (hX : Std Tryz.prog tab (envL G_c9) X) (b : Code) (hb : b = bodyOf Tryz.f174) (gp : Nat) (gk : Nat -> Int) (gn : Nat -> Bool) (ge : Nat -> Int) (gg : Nat -> Bool) (fu : Nat) (il : Int) (ja : (Nat -> Int)) (jb : (Nat -> Bool)) (jc : (Nat -> Int)) (jd : (Nat -> Bool)) (Q : Exit -> VS -> Prop) (h : W_c9_0 gp gk gn ge gg fu il ja jb jc jd (fun o0 o1 o2 o3 o4 => Q (.exit 0) (X_c9_0_exit0 gp gk gn ge gg o0 o1 o2 o3 o4))) : TrK X b 0 (S_c9_0 gp gk gn ge gg il ja jb jc jd) Q := by
  subst hb
  refine loop_ok (V := Int × (Nat -> Int) × (Nat -> Bool) × (Nat -> Int) × (Nat -> Bool)) (fun v => S_c9_0 gp gk gn ge gg v.1 v.2.1 v.2.2.1 v.2.2.2.1 v.2.2.2.2) (fun f v => W_c9_0 gp gk gn ge gg f v.1 v.2.1 v.2.2.1 v.2.2.2.1 v.2.2.2.2 (fun o0 o1 o2 o3 o4 => Q (.exit 0) (X_c9_0_exit0 gp gk gn ge gg o0 o1 o2 o3 o4))) (fun _ h => h) (by kernel_rfl) (fun f v hv => ?_) (fuel := fu) (v0 := (il, ja, jb, jc, jd)) h
  refine QM_ok (bs := [2, 3, 4, 13, 14, 15]) (ms := [0, 1, 2]) (nm := 3) ?_
  refine vwp_std hX rfl (tr := (fun _ _ _ => False)) (fun _ _ _ h => h.elim) ?_
  refine Eq.mpr (N_c9_0 gp gk gn ge gg v.1 v.2.1 v.2.2.1 v.2.2.2.1 v.2.2.2.2 _) ?_
  exact BM_c9_0 gp gk gn ge gg v.1 v.2.1 v.2.2.1 v.2.2.2.1 v.2.2.2.2 (fun w0 w1 w2 w3 w4 h => ⟨(w0, w1, w2, w3, w4), rfl, h⟩) (fun _ _ _ _ _ h => h) hv
def T_c9 (gp : Nat) (gk : Nat -> Int) (gn : Nat -> Bool) (ge : Nat -> Int) (gg : Nat -> Bool) (k : Nat) (st : VS) (Q : Exit -> VS -> Prop) : Prop := match k with
  | 0 => TL [2, 3, 4, 13, 14, 15] [0, 1, 2] 3 (convs st []) (fun st => S_c9_0 gp gk gn ge gg (intOf (tAt st 15)) (colI (cAB (blkAt st 1)) 0) (colB (cAB (blkAt st 1)) 1) (colI (cAB (blkAt st 2)) 0) (colB (cAB (blkAt st 2)) 1)) (fun st => W_c9_0 gp gk gn ge gg fuel (intOf (tAt st 15)) (colI (cAB (blkAt st 1)) 0) (colB (cAB (blkAt st 1)) 1) (colI (cAB (blkAt st 2)) 0) (colB (cAB (blkAt st 2)) 1) (fun o0 o1 o2 o3 o4 => Q (.exit 0) (X_c9_0_exit0 gp gk gn ge gg o0 o1 o2 o3 o4)))
  | _ => False
theorem TS_c9 {X : Cx} (hX : Std Tryz.prog tab (envL G_c9) X) (b : Code) (hb : b = bodyOf Tryz.f174) (gp : Nat) (gk : Nat -> Int) (gn : Nat -> Bool) (ge : Nat -> Int) (gg : Nat -> Bool) (j : Nat) (st : VS) (Q : Exit -> VS -> Prop) (h : T_c9 gp gk gn ge gg j st Q) : TrK X b j st Q := by
  unfold T_c9 at h
  split at h
  · exact TL_ok h (fun h' => L_c9_0 hX b hb gp gk gn ge gg _ _ _ _ _ _ Q h')
  · exact h.elim
def as_c9 (gp : Nat) (gk : Nat -> Int) (gn : Nat -> Bool) (ge : Nat -> Int) (gg : Nat -> Bool) : List AV := [AV.rs none gp [CF.I .i64 gk, CF.B gn, CF.I .i64 ge, CF.B gg]]
theorem N_c9 (gp : Nat) (gk : Nat -> Int) (gn : Nat -> Bool) (ge : Nat -> Int) (gg : Nat -> Bool) (K : AV -> Prop) : vwp tab (envL G_c9) (T_c9 gp gk gn ge gg) 0 (bodyOf Tryz.f174) (entry (as_c9 gp gk gn ge gg) 36) (fnPost tab [.cell 2 66] fun v s => K (v.frz s.mem)) = B_c9 gp gk gn ge gg (fun r0 r1 r2 r3 => K (AV.agg [AV.int .i64 r0, AV.bool r1, AV.int .i64 r2, AV.bool r3])) (fun p0 p1 p2 p3 p4 y0 => S_c9_0 gp gk gn ge gg p0 p1 p2 p3 p4 = S_c9_0 gp gk gn ge gg p0 p1 p2 p3 p4 /\ W_c9_0 gp gk gn ge gg fuel p0 p1 p2 p3 p4 y0) := by kernel_rfl
theorem BL_c9 (gp : Nat) (gk : Nat -> Int) (gn : Nat -> Bool) (ge : Nat -> Int) (gg : Nat -> Bool) {K0 : Int -> Bool -> Int -> Bool -> Prop} : B_c9 gp gk gn ge gg K0 (W_c9_0 gp gk gn ge gg fuel) -> B_c9 gp gk gn ge gg K0 (fun p0 p1 p2 p3 p4 y0 => S_c9_0 gp gk gn ge gg p0 p1 p2 p3 p4 = S_c9_0 gp gk gn ge gg p0 p1 p2 p3 p4 /\ W_c9_0 gp gk gn ge gg fuel p0 p1 p2 p3 p4 y0) := by
  unfold B_c9
  repeat' first
    | exact id
    | refine Ts_imp ?_
    | refine cond_imp ?_ ?_
    | refine and_imp' ?_
    | refine fun h => ⟨rfl, WM_c9_0 _ _ _ _ _  (fun _ _ _ _ _ => ?_) _ _ _ _ _ _  h⟩
def g_c9 : List AV -> Option (Prop × RT)
  | [AV.rs sq0 sn0 sc0] => cond (kindsOK [KC.I .i64, KC.B, KC.I .i64, KC.B] sc0) (some (P_c9 (nOf sn0 sc0) (colI sc0 0) (colB sc0 1) (colI sc0 2) (colB sc0 3), RT.leaf (AV.agg [AV.int .i64 (F_c9_0 (nOf sn0 sc0) (colI sc0 0) (colB sc0 1) (colI sc0 2) (colB sc0 3)), AV.bool (F_c9_1 (nOf sn0 sc0) (colI sc0 0) (colB sc0 1) (colI sc0 2) (colB sc0 3)), AV.int .i64 (F_c9_2 (nOf sn0 sc0) (colI sc0 0) (colB sc0 1) (colI sc0 2) (colB sc0 3)), AV.bool (F_c9_3 (nOf sn0 sc0) (colI sc0 0) (colB sc0 1) (colI sc0 2) (colB sc0 3))]))) none
  | _ => none
theorem S_c9 : SpecOK Tryz.prog 174 (.pure g_c9) := by
 intro xs p r h hp E w vs hr hv; unfold g_c9 at h; split at h
 · rename_i sq0 sn0 sc0
   obtain ⟨hk0, h⟩ := cond_some h
   obtain ⟨rfl, rfl⟩ := some_pair h
   have hG := (show SpecsOK Tryz.prog G_c9 from ⟨S_cp, trivial⟩)
   have hv' := ((AV.les.cons (AV.le.rs hk0) AV.les.nil) _ _ hv : VRs E.bare (as_c9 (nOf sn0 sc0) (colI sc0 0) (colB sc0 1) (colI sc0 2) (colB sc0 3)) vs)
   refine walk_pure' (c := bodyOf Tryz.f174) (rs := [.cell 2 66]) (ys := as_c9 (nOf sn0 sc0) (colI sc0 0) (colB sc0 1) (colI sc0 2) (colB sc0 3)) tab_ok (envL_ok hG) Tryz.func174 rfl (by kernel_rfl) rfl (by decide) (fun X hX hrho => ?_) E w vs hr hv'
   rw [Tryz.ntmps174]
   refine vwp_std hX rfl (tr := T_c9 (nOf sn0 sc0) (colI sc0 0) (colB sc0 1) (colI sc0 2) (colB sc0 3)) (fun j st Q h => TS_c9 hX _ rfl (nOf sn0 sc0) (colI sc0 0) (colB sc0 1) (colI sc0 2) (colB sc0 3) j st Q h) (Eq.mpr (N_c9 (nOf sn0 sc0) (colI sc0 0) (colB sc0 1) (colI sc0 2) (colB sc0 3) (fun x => x = _)) ?_)
   exact BL_c9 (nOf sn0 sc0) (colI sc0 0) (colB sc0 1) (colI sc0 2) (colB sc0 3) (H_c9 (nOf sn0 sc0) (colI sc0 0) (colB sc0 1) (colI sc0 2) (colB sc0 3) hp rfl)
 · cases h
def G_cq : List (Nat × Ag.Spec) := [(271, .pure g_bz)]
def as_cq (gk : Int) (gn : Bool) (ge : Int) (gg : Bool) : List AV := [AV.agg [AV.int .i64 gk, AV.bool gn, AV.int .i64 ge, AV.bool gg]]
theorem N_cq (gk : Int) (gn : Bool) (ge : Int) (gg : Bool) (K : AV -> Prop) : vwp tab (envL G_cq) (fun _ _ _ => False) 0 (bodyOf Tryz.f199) (entry (as_cq gk gn ge gg) 8) (fnPost tab [.cell 2 64] fun v s => K (v.frz s.mem)) = B_cq gk gn ge gg (fun r0 r1 => K (AV.agg [AV.int .i64 r0, AV.bool r1]))  := by kernel_rfl
def g_cq : List AV -> Option (Prop × RT)
  | [AV.agg [AV.int .i64 gk, AV.bool gn, AV.int .i64 ge, AV.bool gg]] => some (P_cq gk gn ge gg, RT.leaf (AV.agg [AV.int .i64 (F_cq_0 gk gn ge gg), AV.bool (F_cq_1 gk gn ge gg)]))
  | _ => none
theorem S_cq : SpecOK Tryz.prog 199 (.pure g_cq) := by
 intro xs p r h hp E w vs hr hv; unfold g_cq at h; split at h
 · rename_i gk gn ge gg
   obtain ⟨rfl, rfl⟩ := some_pair h
   exact walk0 (ys := as_cq gk gn ge gg) (rs := [.cell 2 64]) tab_ok (show SpecsOK Tryz.prog G_cq from ⟨S_bz, trivial⟩) Tryz.func199 rfl (by kernel_rfl) rfl (by decide) Tryz.ntmps199 (N_cq gk gn ge gg) (H_cq gk gn ge gg hp rfl) E w vs hr hv
 · cases h
def G_ek : List (Nat × Ag.Spec) := [(217, .pure g_ed)]
def as_ek (gk : Int) (gn : Bool) (ge : Int) (gg : Bool) : List AV := [AV.agg [AV.int .i64 gk, AV.bool gn, AV.int .i64 ge, AV.bool gg]]
theorem N_ek (gk : Int) (gn : Bool) (ge : Int) (gg : Bool) (K : AV -> Prop) : vwp tab (envL G_ek) (fun _ _ _ => False) 0 (bodyOf Tryz.f253) (entry (as_ek gk gn ge gg) 13) (fnPost tab [.tmp 2] fun v s => K (v.frz s.mem)) = B_ek gk gn ge gg (fun r0 => K (AV.bool r0))  := by kernel_rfl
def g_ek : List AV -> Option (Prop × RT)
  | [AV.agg [AV.int .i64 gk, AV.bool gn, AV.int .i64 ge, AV.bool gg]] => some (P_ek gk gn ge gg, RT.leaf (AV.bool (F_ek_0 gk gn ge gg)))
  | _ => none
theorem S_ek : SpecOK Tryz.prog 253 (.pure g_ek) := by
 intro xs p r h hp E w vs hr hv; unfold g_ek at h; split at h
 · rename_i gk gn ge gg
   obtain ⟨rfl, rfl⟩ := some_pair h
   exact walk0 (ys := as_ek gk gn ge gg) (rs := [.tmp 2]) tab_ok (show SpecsOK Tryz.prog G_ek from ⟨S_ed, trivial⟩) Tryz.func253 rfl (by kernel_rfl) rfl (by decide) Tryz.ntmps253 (N_ek gk gn ge gg) (H_ek gk gn ge gg hp rfl) E w vs hr hv
 · cases h
def G_ab : List (Nat × Ag.Spec) := [(253, .pure g_ek)]
def S_ab_0 (gp : Nat) (gk : Nat -> Int) (gn : Nat -> Bool) (ge : Nat -> Int) (gg : Nat -> Bool) (ik : Int) : VS := ⟨slotsN 19 0 [(0, AV.rs none gp [CF.I .i64 gk, CF.B gn, CF.I .i64 ge, CF.B gg]), (1, AV.fn 253 []), (4, AV.int .i64 0), (7, AV.int .i64 ((gp : Nat) : Int)), (8, AV.int .i64 ik)], [], false, 0⟩
def X_ab_0_exit0 (gp : Nat) (gk : Nat -> Int) (gn : Nat -> Bool) (ge : Nat -> Int) (gg : Nat -> Bool) (o0 : Int) : VS := ⟨slotsN 19 0 [(0, AV.rs none gp [CF.I .i64 gk, CF.B gn, CF.I .i64 ge, CF.B gg]), (1, AV.fn 253 []), (4, AV.int .i64 0), (7, AV.int .i64 ((gp : Nat) : Int)), (8, AV.int .i64 o0)], [], false, 0⟩
def X_ab_0_ret (gp : Nat) (gk : Nat -> Int) (gn : Nat -> Bool) (ge : Nat -> Int) (gg : Nat -> Bool) (o0 o1 : Int) : VS := ⟨slotsN 19 0 [(0, AV.rs none gp [CF.I .i64 gk, CF.B gn, CF.I .i64 ge, CF.B gg]), (1, AV.fn 253 []), (4, AV.int .i64 o0), (7, AV.int .i64 ((gp : Nat) : Int)), (8, AV.int .i64 o1)], [], false, 0⟩
theorem N_ab_0 (gp : Nat) (gk : Nat -> Int) (gn : Nat -> Bool) (ge : Nat -> Int) (gg : Nat -> Bool) (ik : Int) (Q : Exit -> VS -> Prop) : vwp tab (envL G_ab) (fun _ _ _ => False) 0 (lbody (loopAt (bodyOf Tryz.f288) 0)) (S_ab_0 gp gk gn ge gg ik) (QM [0, 1, 4, 7, 8] [] 0 Q) = B_ab_0 gp gk gn ge gg ik (fun w0 => Q .normal (S_ab_0 gp gk gn ge gg w0)) (fun o0 => Q (.exit 0) (X_ab_0_exit0 gp gk gn ge gg o0)) (fun o0 o1 => Q .ret (X_ab_0_ret gp gk gn ge gg o0 o1))  := by kernel_rfl
theorem L_ab_0 {X : Cx} (hX : Std Tryz.prog tab (envL G_ab) X) (b : Code) (hb : b = bodyOf Tryz.f288) (gp : Nat) (gk : Nat -> Int) (gn : Nat -> Bool) (ge : Nat -> Int) (gg : Nat -> Bool) (fu : Nat) (ik : Int) (Q : Exit -> VS -> Prop) (h : W_ab_0 gp gk gn ge gg fu ik (fun o0 => Q (.exit 0) (X_ab_0_exit0 gp gk gn ge gg o0)) (fun o0 o1 => Q .ret (X_ab_0_ret gp gk gn ge gg o0 o1))) : TrK X b 0 (S_ab_0 gp gk gn ge gg ik) Q := by
  subst hb
  refine loop_ok (V := Int) (fun v => S_ab_0 gp gk gn ge gg v) (fun f v => W_ab_0 gp gk gn ge gg f v (fun o0 => Q (.exit 0) (X_ab_0_exit0 gp gk gn ge gg o0)) (fun o0 o1 => Q .ret (X_ab_0_ret gp gk gn ge gg o0 o1))) (fun _ h => h) (by kernel_rfl) (fun f v hv => ?_) (fuel := fu) (v0 := (ik)) h
  refine QM_ok (bs := [0, 1, 4, 7, 8]) (ms := []) (nm := 0) ?_
  refine vwp_std hX rfl (tr := (fun _ _ _ => False)) (fun _ _ _ h => h.elim) ?_
  refine Eq.mpr (N_ab_0 gp gk gn ge gg v _) ?_
  exact BM_ab_0 gp gk gn ge gg v (fun w0 h => ⟨w0, rfl, h⟩) (fun _ h => h) (fun _ _ h => h) hv
def T_ab (gp : Nat) (gk : Nat -> Int) (gn : Nat -> Bool) (ge : Nat -> Int) (gg : Nat -> Bool) (k : Nat) (st : VS) (Q : Exit -> VS -> Prop) : Prop := match k with
  | 0 => TL [0, 1, 4, 7, 8] [] 0 (convs st []) (fun st => S_ab_0 gp gk gn ge gg (intOf (tAt st 8))) (fun st => W_ab_0 gp gk gn ge gg fuel (intOf (tAt st 8)) (fun o0 => Q (.exit 0) (X_ab_0_exit0 gp gk gn ge gg o0)) (fun o0 o1 => Q .ret (X_ab_0_ret gp gk gn ge gg o0 o1)))
  | _ => False
theorem TS_ab {X : Cx} (hX : Std Tryz.prog tab (envL G_ab) X) (b : Code) (hb : b = bodyOf Tryz.f288) (gp : Nat) (gk : Nat -> Int) (gn : Nat -> Bool) (ge : Nat -> Int) (gg : Nat -> Bool) (j : Nat) (st : VS) (Q : Exit -> VS -> Prop) (h : T_ab gp gk gn ge gg j st Q) : TrK X b j st Q := by
  unfold T_ab at h
  split at h
  · exact TL_ok h (fun h' => L_ab_0 hX b hb gp gk gn ge gg _ _ Q h')
  · exact h.elim
def as_ab (gp : Nat) (gk : Nat -> Int) (gn : Nat -> Bool) (ge : Nat -> Int) (gg : Nat -> Bool) : List AV := [AV.rs none gp [CF.I .i64 gk, CF.B gn, CF.I .i64 ge, CF.B gg], AV.fn 253 []]
theorem N_ab (gp : Nat) (gk : Nat -> Int) (gn : Nat -> Bool) (ge : Nat -> Int) (gg : Nat -> Bool) (K : AV -> Prop) : vwp tab (envL G_ab) (T_ab gp gk gn ge gg) 0 (bodyOf Tryz.f288) (entry (as_ab gp gk gn ge gg) 19) (fnPost tab [.tmp 4] fun v s => K (v.frz s.mem)) = B_ab gp gk gn ge gg (fun r0 => K (AV.int .i64 r0)) (fun p0 y0 y1 => S_ab_0 gp gk gn ge gg p0 = S_ab_0 gp gk gn ge gg p0 /\ W_ab_0 gp gk gn ge gg fuel p0 y0 y1) := by kernel_rfl
theorem BL_ab (gp : Nat) (gk : Nat -> Int) (gn : Nat -> Bool) (ge : Nat -> Int) (gg : Nat -> Bool) {K0 : Int -> Prop} : B_ab gp gk gn ge gg K0 (W_ab_0 gp gk gn ge gg fuel) -> B_ab gp gk gn ge gg K0 (fun p0 y0 y1 => S_ab_0 gp gk gn ge gg p0 = S_ab_0 gp gk gn ge gg p0 /\ W_ab_0 gp gk gn ge gg fuel p0 y0 y1) := by
  unfold B_ab
  repeat' first
    | exact id
    | refine Ts_imp ?_
    | refine cond_imp ?_ ?_
    | refine and_imp' ?_
    | refine fun h => ⟨rfl, WM_ab_0 _ _ _ _ _  (fun _ => ?_) (fun _ _ => ?_) _ _  h⟩
def g_ab : List AV -> Option (Prop × RT)
  | [AV.rs sq0 sn0 sc0, AV.fn 253 []] => cond (kindsOK [KC.I .i64, KC.B, KC.I .i64, KC.B] sc0) (some (P_ab (nOf sn0 sc0) (colI sc0 0) (colB sc0 1) (colI sc0 2) (colB sc0 3), RT.leaf (AV.int .i64 (F_ab_0 (nOf sn0 sc0) (colI sc0 0) (colB sc0 1) (colI sc0 2) (colB sc0 3))))) none
  | _ => none
theorem S_ab : SpecOK Tryz.prog 288 (.pure g_ab) := by
 intro xs p r h hp E w vs hr hv; unfold g_ab at h; split at h
 · rename_i sq0 sn0 sc0
   obtain ⟨hk0, h⟩ := cond_some h
   obtain ⟨rfl, rfl⟩ := some_pair h
   have hG := (show SpecsOK Tryz.prog G_ab from ⟨S_ek, trivial⟩)
   have hv' := ((AV.les.cons (AV.le.rs hk0) (AV.les.cons (AV.le.refl _) AV.les.nil)) _ _ hv : VRs E.bare (as_ab (nOf sn0 sc0) (colI sc0 0) (colB sc0 1) (colI sc0 2) (colB sc0 3)) vs)
   refine walk_pure' (c := bodyOf Tryz.f288) (rs := [.tmp 4]) (ys := as_ab (nOf sn0 sc0) (colI sc0 0) (colB sc0 1) (colI sc0 2) (colB sc0 3)) tab_ok (envL_ok hG) Tryz.func288 rfl (by kernel_rfl) rfl (by decide) (fun X hX hrho => ?_) E w vs hr hv'
   rw [Tryz.ntmps288]
   refine vwp_std hX rfl (tr := T_ab (nOf sn0 sc0) (colI sc0 0) (colB sc0 1) (colI sc0 2) (colB sc0 3)) (fun j st Q h => TS_ab hX _ rfl (nOf sn0 sc0) (colI sc0 0) (colB sc0 1) (colI sc0 2) (colB sc0 3) j st Q h) (Eq.mpr (N_ab (nOf sn0 sc0) (colI sc0 0) (colB sc0 1) (colI sc0 2) (colB sc0 3) (fun x => x = _)) ?_)
   exact BL_ab (nOf sn0 sc0) (colI sc0 0) (colB sc0 1) (colI sc0 2) (colB sc0 3) (H_ab (nOf sn0 sc0) (colI sc0 0) (colB sc0 1) (colI sc0 2) (colB sc0 3) hp rfl)
 · cases h
def G_am : List (Nat × Ag.Spec) := [(288, .pure g_ab)]
def as_am (gp : Nat) (gk : Nat -> Int) (gn : Nat -> Bool) (ge : Nat -> Int) (gg : Nat -> Bool) : List AV := [AV.rs none gp [CF.I .i64 gk, CF.B gn, CF.I .i64 ge, CF.B gg], AV.fn 253 []]
theorem N_am (gp : Nat) (gk : Nat -> Int) (gn : Nat -> Bool) (ge : Nat -> Int) (gg : Nat -> Bool) (K : AV -> Prop) : vwp tab (envL G_am) (fun _ _ _ => False) 0 (bodyOf Tryz.f252) (entry (as_am gp gk gn ge gg) 9) (fnPost tab [.tmp 4] fun v s => K (v.frz s.mem)) = B_am gp gk gn ge gg (fun r0 => K (AV.bool r0))  := by kernel_rfl
def g_am : List AV -> Option (Prop × RT)
  | [AV.rs sq0 sn0 sc0, AV.fn 253 []] => cond (kindsOK [KC.I .i64, KC.B, KC.I .i64, KC.B] sc0) (some (P_am (nOf sn0 sc0) (colI sc0 0) (colB sc0 1) (colI sc0 2) (colB sc0 3), RT.leaf (AV.bool (F_am_0 (nOf sn0 sc0) (colI sc0 0) (colB sc0 1) (colI sc0 2) (colB sc0 3))))) none
  | _ => none
theorem S_am : SpecOK Tryz.prog 252 (.pure g_am) := by
 intro xs p r h hp E w vs hr hv; unfold g_am at h; split at h
 · rename_i sq0 sn0 sc0
   obtain ⟨hk0, h⟩ := cond_some h
   obtain ⟨rfl, rfl⟩ := some_pair h
   exact walk0 (ys := as_am (nOf sn0 sc0) (colI sc0 0) (colB sc0 1) (colI sc0 2) (colB sc0 3)) (rs := [.tmp 4]) tab_ok (show SpecsOK Tryz.prog G_am from ⟨S_ab, trivial⟩) Tryz.func252 rfl (by kernel_rfl) rfl (by decide) Tryz.ntmps252 (N_am (nOf sn0 sc0) (colI sc0 0) (colB sc0 1) (colI sc0 2) (colB sc0 3)) (H_am (nOf sn0 sc0) (colI sc0 0) (colB sc0 1) (colI sc0 2) (colB sc0 3) hp rfl) E w vs hr ((AV.les.cons (AV.le.rs hk0) (AV.les.cons (AV.le.refl _) AV.les.nil)) _ _ hv : VRs E.bare (as_am (nOf sn0 sc0) (colI sc0 0) (colB sc0 1) (colI sc0 2) (colB sc0 3)) vs)
 · cases h
def G_cu : List (Nat × Ag.Spec) := [(252, .pure g_am)]
def as_cu (gp : Nat) (gk : Nat -> Int) (gn : Nat -> Bool) (ge : Nat -> Int) (gg : Nat -> Bool) : List AV := [AV.rs none gp [CF.I .i64 gk, CF.B gn, CF.I .i64 ge, CF.B gg]]
theorem N_cu (gp : Nat) (gk : Nat -> Int) (gn : Nat -> Bool) (ge : Nat -> Int) (gg : Nat -> Bool) (K : AV -> Prop) : vwp tab (envL G_cu) (fun _ _ _ => False) 0 (bodyOf Tryz.f168) (entry (as_cu gp gk gn ge gg) 5) (fnPost tab [.tmp 2] fun v s => K (v.frz s.mem)) = B_cu gp gk gn ge gg (fun r0 => K (AV.bool r0))  := by kernel_rfl
def g_cu : List AV -> Option (Prop × RT)
  | [AV.rs sq0 sn0 sc0] => cond (kindsOK [KC.I .i64, KC.B, KC.I .i64, KC.B] sc0) (some (P_cu (nOf sn0 sc0) (colI sc0 0) (colB sc0 1) (colI sc0 2) (colB sc0 3), RT.leaf (AV.bool (F_cu_0 (nOf sn0 sc0) (colI sc0 0) (colB sc0 1) (colI sc0 2) (colB sc0 3))))) none
  | _ => none
theorem S_cu : SpecOK Tryz.prog 168 (.pure g_cu) := by
 intro xs p r h hp E w vs hr hv; unfold g_cu at h; split at h
 · rename_i sq0 sn0 sc0
   obtain ⟨hk0, h⟩ := cond_some h
   obtain ⟨rfl, rfl⟩ := some_pair h
   exact walk0 (ys := as_cu (nOf sn0 sc0) (colI sc0 0) (colB sc0 1) (colI sc0 2) (colB sc0 3)) (rs := [.tmp 2]) tab_ok (show SpecsOK Tryz.prog G_cu from ⟨S_am, trivial⟩) Tryz.func168 rfl (by kernel_rfl) rfl (by decide) Tryz.ntmps168 (N_cu (nOf sn0 sc0) (colI sc0 0) (colB sc0 1) (colI sc0 2) (colB sc0 3)) (H_cu (nOf sn0 sc0) (colI sc0 0) (colB sc0 1) (colI sc0 2) (colB sc0 3) hp rfl) E w vs hr ((AV.les.cons (AV.le.rs hk0) AV.les.nil) _ _ hv : VRs E.bare (as_cu (nOf sn0 sc0) (colI sc0 0) (colB sc0 1) (colI sc0 2) (colB sc0 3)) vs)
 · cases h
def G_dk : List (Nat × Ag.Spec) := [(168, .pure g_cu), (199, .pure g_cq), (206, .pure g_ej)]
def as_dk (gk : Int) (gn : Bool) (ge : Int) (gg : Bool) : List AV := [AV.agg [AV.int .i64 gk, AV.bool gn, AV.int .i64 ge, AV.bool gg]]
theorem N_dk (gk : Int) (gn : Bool) (ge : Int) (gg : Bool) (K : AV -> Prop) : vwp tab (envL G_dk) (fun _ _ _ => False) 0 (bodyOf Tryz.f203) (entry (as_dk gk gn ge gg) 56) (fnPost tab [.cell 2 66, .tmp 3] fun v s => K (v.frz s.mem)) = B_dk gk gn ge gg (fun r0 r1 r2 r3 r4 => K (AV.tup [AV.agg [AV.int .i64 r0, AV.bool r1, AV.int .i64 r2, AV.bool r3], AV.bool r4]))  := by kernel_rfl
def g_dk : List AV -> Option (Prop × RT)
  | [AV.agg [AV.int .i64 gk, AV.bool gn, AV.int .i64 ge, AV.bool gg]] => some (P_dk gk gn ge gg, RT.leaf (AV.tup [AV.agg [AV.int .i64 (F_dk_0 gk gn ge gg), AV.bool (F_dk_1 gk gn ge gg), AV.int .i64 (F_dk_2 gk gn ge gg), AV.bool (F_dk_3 gk gn ge gg)], AV.bool (F_dk_4 gk gn ge gg)]))
  | _ => none
theorem S_dk : SpecOK Tryz.prog 203 (.pure g_dk) := by
 intro xs p r h hp E w vs hr hv; unfold g_dk at h; split at h
 · rename_i gk gn ge gg
   obtain ⟨rfl, rfl⟩ := some_pair h
   exact walk0 (ys := as_dk gk gn ge gg) (rs := [.cell 2 66, .tmp 3]) tab_ok (show SpecsOK Tryz.prog G_dk from ⟨S_cu, S_cq, S_ej, trivial⟩) Tryz.func203 rfl (by kernel_rfl) rfl (by decide) Tryz.ntmps203 (N_dk gk gn ge gg) (H_dk gk gn ge gg hp rfl) E w vs hr hv
 · cases h
def G_ee : List (Nat × Ag.Spec) := [(173, .pure g_c8)]
def as_ee (gk : Int) (gn : Bool) (ge : Int) (gg : Bool) (gb : Int) (gd : Bool) : List AV := [AV.agg [AV.int .i64 gk, AV.bool gn, AV.int .i64 ge, AV.bool gg], AV.agg [AV.int .i64 gb, AV.bool gd]]
theorem N_ee (gk : Int) (gn : Bool) (ge : Int) (gg : Bool) (gb : Int) (gd : Bool) (K : AV -> Prop) : vwp tab (envL G_ee) (fun _ _ _ => False) 0 (bodyOf Tryz.f207) (entry (as_ee gk gn ge gg gb gd) 14) (fnPost tab [.cell 4 66] fun v s => K (v.frz s.mem)) = B_ee gk gn ge gg gb gd (fun r0 r1 r2 r3 => K (AV.agg [AV.int .i64 r0, AV.bool r1, AV.int .i64 r2, AV.bool r3]))  := by kernel_rfl
def g_ee : List AV -> Option (Prop × RT)
  | [AV.agg [AV.int .i64 gk, AV.bool gn, AV.int .i64 ge, AV.bool gg], AV.agg [AV.int .i64 gb, AV.bool gd]] => some (P_ee gk gn ge gg gb gd, RT.leaf (AV.agg [AV.int .i64 (F_ee_0 gk gn ge gg gb gd), AV.bool (F_ee_1 gk gn ge gg gb gd), AV.int .i64 (F_ee_2 gk gn ge gg gb gd), AV.bool (F_ee_3 gk gn ge gg gb gd)]))
  | _ => none
theorem S_ee : SpecOK Tryz.prog 207 (.pure g_ee) := by
 intro xs p r h hp E w vs hr hv; unfold g_ee at h; split at h
 · rename_i gk gn ge gg gb gd
   obtain ⟨rfl, rfl⟩ := some_pair h
   exact walk0 (ys := as_ee gk gn ge gg gb gd) (rs := [.cell 4 66]) tab_ok (show SpecsOK Tryz.prog G_ee from ⟨S_c8, trivial⟩) Tryz.func207 rfl (by kernel_rfl) rfl (by decide) Tryz.ntmps207 (N_ee gk gn ge gg gb gd) (H_ee gk gn ge gg gb gd hp rfl) E w vs hr hv
 · cases h
def G_fv : List (Nat × Ag.Spec) := [(169, .pure g_cc)]
def as_fv (gk : Int) (gn : Bool) (ge : Int) (gg : Bool) (ig : Int) (ii : Bool) (g8 : Int) (g9 : Bool) : List AV := [AV.agg [AV.int .i64 gk, AV.bool gn, AV.int .i64 ge, AV.bool gg], AV.agg [AV.int .i64 ig, AV.bool ii, AV.int .i64 g8, AV.bool g9]]
theorem N_fv (gk : Int) (gn : Bool) (ge : Int) (gg : Bool) (ig : Int) (ii : Bool) (g8 : Int) (g9 : Bool) (K : AV -> Prop) : vwp tab (envL G_fv) (fun _ _ _ => False) 0 (bodyOf Tryz.f216) (entry (as_fv gk gn ge gg ig ii g8 g9) 14) (fnPost tab [.cell 4 64] fun v s => K (v.frz s.mem)) = B_fv gk gn ge gg ig ii g8 g9 (fun r0 r1 => K (AV.agg [AV.int .i64 r0, AV.bool r1]))  := by kernel_rfl
def g_fv : List AV -> Option (Prop × RT)
  | [AV.agg [AV.int .i64 gk, AV.bool gn, AV.int .i64 ge, AV.bool gg], AV.agg [AV.int .i64 ig, AV.bool ii, AV.int .i64 g8, AV.bool g9]] => some (P_fv gk gn ge gg ig ii g8 g9, RT.leaf (AV.agg [AV.int .i64 (F_fv_0 gk gn ge gg ig ii g8 g9), AV.bool (F_fv_1 gk gn ge gg ig ii g8 g9)]))
  | _ => none
theorem S_fv : SpecOK Tryz.prog 216 (.pure g_fv) := by
 intro xs p r h hp E w vs hr hv; unfold g_fv at h; split at h
 · rename_i gk gn ge gg ig ii g8 g9
   obtain ⟨rfl, rfl⟩ := some_pair h
   exact walk0 (ys := as_fv gk gn ge gg ig ii g8 g9) (rs := [.cell 4 64]) tab_ok (show SpecsOK Tryz.prog G_fv from ⟨S_cc, trivial⟩) Tryz.func216 rfl (by kernel_rfl) rfl (by decide) Tryz.ntmps216 (N_fv gk gn ge gg ig ii g8 g9) (H_fv gk gn ge gg ig ii g8 g9 hp rfl) E w vs hr hv
 · cases h
def G_fa : List (Nat × Ag.Spec) := [(169, .pure g_cc), (217, .pure g_ed)]
def as_fa (gk : Int) (gn : Bool) (ge : Int) (gg : Bool) (ig : Int) (ii : Bool) (g8 : Int) (g9 : Bool) : List AV := [AV.agg [AV.int .i64 gk, AV.bool gn, AV.int .i64 ge, AV.bool gg], AV.agg [AV.int .i64 ig, AV.bool ii, AV.int .i64 g8, AV.bool g9]]
theorem N_fa (gk : Int) (gn : Bool) (ge : Int) (gg : Bool) (ig : Int) (ii : Bool) (g8 : Int) (g9 : Bool) (K : AV -> Prop) : vwp tab (envL G_fa) (fun _ _ _ => False) 0 (bodyOf Tryz.f331) (entry (as_fa gk gn ge gg ig ii g8 g9) 15) (fnPost tab [.cell 4 64] fun v s => K (v.frz s.mem)) = B_fa gk gn ge gg ig ii g8 g9 (fun r0 r1 => K (AV.agg [AV.int .i64 r0, AV.bool r1]))  := by kernel_rfl
def g_fa : List AV -> Option (Prop × RT)
  | [AV.agg [AV.int .i64 gk, AV.bool gn, AV.int .i64 ge, AV.bool gg], AV.agg [AV.int .i64 ig, AV.bool ii, AV.int .i64 g8, AV.bool g9]] => some (P_fa gk gn ge gg ig ii g8 g9, RT.leaf (AV.agg [AV.int .i64 (F_fa_0 gk gn ge gg ig ii g8 g9), AV.bool (F_fa_1 gk gn ge gg ig ii g8 g9)]))
  | _ => none
theorem S_fa : SpecOK Tryz.prog 331 (.pure g_fa) := by
 intro xs p r h hp E w vs hr hv; unfold g_fa at h; split at h
 · rename_i gk gn ge gg ig ii g8 g9
   obtain ⟨rfl, rfl⟩ := some_pair h
   exact walk0 (ys := as_fa gk gn ge gg ig ii g8 g9) (rs := [.cell 4 64]) tab_ok (show SpecsOK Tryz.prog G_fa from ⟨S_cc, S_ed, trivial⟩) Tryz.func331 rfl (by kernel_rfl) rfl (by decide) Tryz.ntmps331 (N_fa gk gn ge gg ig ii g8 g9) (H_fa gk gn ge gg ig ii g8 g9 hp rfl) E w vs hr hv
 · cases h
def G_f0 : List (Nat × Ag.Spec) := [(171, .pure g_et)]
def as_f0 (a0 a1 : Int) : List AV := [AV.int .i64 a0, AV.int .i64 a1]
theorem N_f0 (a0 a1 : Int) (K : AV -> Prop) : vwp tab (envL G_f0) (fun _ _ _ => False) 0 (bodyOf Tryz.f204) (entry (as_f0 a0 a1) 10) (fnPost tab [.cell 4 66] fun v s => K (v.frz s.mem)) = B_f0 a0 a1 (fun r0 r1 r2 r3 => K (AV.agg [AV.int .i64 r0, AV.bool r1, AV.int .i64 r2, AV.bool r3]))  := by kernel_rfl
def g_f0 : List AV -> Option (Prop × RT)
  | [AV.int .i64 a0, AV.int .i64 a1] => some (P_f0 a0 a1, RT.leaf (AV.agg [AV.int .i64 (F_f0_0 a0 a1), AV.bool (F_f0_1 a0 a1), AV.int .i64 (F_f0_2 a0 a1), AV.bool (F_f0_3 a0 a1)]))
  | _ => none
theorem S_f0 : SpecOK Tryz.prog 204 (.pure g_f0) := by
 intro xs p r h hp E w vs hr hv; unfold g_f0 at h; split at h
 · rename_i a0 a1
   obtain ⟨rfl, rfl⟩ := some_pair h
   exact walk0 (ys := as_f0 a0 a1) (rs := [.cell 4 66]) tab_ok (show SpecsOK Tryz.prog G_f0 from ⟨S_et, trivial⟩) Tryz.func204 rfl (by kernel_rfl) rfl (by decide) Tryz.ntmps204 (N_f0 a0 a1) (H_f0 a0 a1 hp rfl) E w vs hr hv
 · cases h
def G_ch : List (Nat × Ag.Spec) := [(64, .pure g_fp)]
def as_ch (cm ga : Int) : List AV := [AV.agg [AV.int .i64 cm, AV.int .i64 ga]]
theorem N_ch (cm ga : Int) (K : AV -> Prop) : vwp tab (envL G_ch) (fun _ _ _ => False) 0 (bodyOf Tryz.f193) (entry (as_ch cm ga) 10) (fnPost tab [.cell 2 66] fun v s => K (v.frz s.mem)) = B_ch cm ga (fun r0 r1 r2 r3 => K (AV.agg [AV.int .i64 r0, AV.bool r1, AV.int .i64 r2, AV.bool r3]))  := by kernel_rfl
def g_ch : List AV -> Option (Prop × RT)
  | [AV.agg [AV.int .i64 cm, AV.int .i64 ga]] => some (P_ch cm ga, RT.leaf (AV.agg [AV.int .i64 (F_ch_0 cm ga), AV.bool (F_ch_1 cm ga), AV.int .i64 (F_ch_2 cm ga), AV.bool (F_ch_3 cm ga)]))
  | _ => none
theorem S_ch : SpecOK Tryz.prog 193 (.pure g_ch) := by
 intro xs p r h hp E w vs hr hv; unfold g_ch at h; split at h
 · rename_i cm ga
   obtain ⟨rfl, rfl⟩ := some_pair h
   exact walk0 (ys := as_ch cm ga) (rs := [.cell 2 66]) tab_ok (show SpecsOK Tryz.prog G_ch from ⟨S_fp, trivial⟩) Tryz.func193 rfl (by kernel_rfl) rfl (by decide) Tryz.ntmps193 (N_ch cm ga) (H_ch cm ga hp rfl) E w vs hr hv
 · cases h
def G_dj : List (Nat × Ag.Spec) := [(184, .pure g_di), (193, .pure g_ch)]
def as_dj (cm ga gb gd : Int) : List AV := [AV.agg [AV.int .i64 cm, AV.int .i64 ga], AV.agg [AV.int .i64 gb, AV.int .i64 gd]]
theorem N_dj (cm ga gb gd : Int) (K : AV -> Prop) : vwp tab (envL G_dj) (fun _ _ _ => False) 0 (bodyOf Tryz.f117) (entry (as_dj cm ga gb gd) 24) (fnPost tab [.cell 4 66] fun v s => K (v.frz s.mem)) = B_dj cm ga gb gd (fun r0 r1 r2 r3 => K (AV.agg [AV.int .i64 r0, AV.bool r1, AV.int .i64 r2, AV.bool r3]))  := by kernel_rfl
def g_dj : List AV -> Option (Prop × RT)
  | [AV.agg [AV.int .i64 cm, AV.int .i64 ga], AV.agg [AV.int .i64 gb, AV.int .i64 gd]] => some (P_dj cm ga gb gd, RT.leaf (AV.agg [AV.int .i64 (F_dj_0 cm ga gb gd), AV.bool (F_dj_1 cm ga gb gd), AV.int .i64 (F_dj_2 cm ga gb gd), AV.bool (F_dj_3 cm ga gb gd)]))
  | _ => none
theorem S_dj : SpecOK Tryz.prog 117 (.pure g_dj) := by
 intro xs p r h hp E w vs hr hv; unfold g_dj at h; split at h
 · rename_i cm ga gb gd
   obtain ⟨rfl, rfl⟩ := some_pair h
   exact walk0 (ys := as_dj cm ga gb gd) (rs := [.cell 4 66]) tab_ok (show SpecsOK Tryz.prog G_dj from ⟨S_di, S_ch, trivial⟩) Tryz.func117 rfl (by kernel_rfl) rfl (by decide) Tryz.ntmps117 (N_dj cm ga gb gd) (H_dj cm ga gb gd hp rfl) E w vs hr hv
 · cases h
def G_fr : List (Nat × Ag.Spec) := []
def as_fr (cm ge gg gm : Int) (gq : Nat) (gu gv : Nat -> Int) : List AV := [AV.agg [AV.int .i64 cm, AV.int .i64 ge, AV.int .i64 gg, AV.int .i64 gm, AV.rs none gq [CF.I .i64 gu, CF.I .i64 gv]]]
theorem N_fr (cm ge gg gm : Int) (gq : Nat) (gu gv : Nat -> Int) (K : AV -> Prop) : vwp tab (envL G_fr) (fun _ _ _ => False) 0 (bodyOf Tryz.f30) (entry (as_fr cm ge gg gm gq gu gv) 7) (fnPost tab [.tmp 2] fun v s => K (v.frz s.mem)) = B_fr cm ge gg gm gq gu gv (fun r0 => K (AV.bool r0))  := by kernel_rfl
def g_fr : List AV -> Option (Prop × RT)
  | [AV.agg [AV.int .i64 cm, AV.int .i64 ge, AV.int .i64 gg, AV.int .i64 gm, AV.rs sq0 sn0 sc0]] => cond (kindsOK [KC.I .i64, KC.I .i64] sc0) (some (P_fr cm ge gg gm (nOf sn0 sc0) (colI sc0 0) (colI sc0 1), RT.leaf (AV.bool (F_fr_0 cm ge gg gm (nOf sn0 sc0) (colI sc0 0) (colI sc0 1))))) none
  | _ => none
theorem S_fr : SpecOK Tryz.prog 30 (.pure g_fr) := by
 intro xs p r h hp E w vs hr hv; unfold g_fr at h; split at h
 · rename_i cm ge gg gm sq0 sn0 sc0
   obtain ⟨hk0, h⟩ := cond_some h
   obtain ⟨rfl, rfl⟩ := some_pair h
   exact walk0 (ys := as_fr cm ge gg gm (nOf sn0 sc0) (colI sc0 0) (colI sc0 1)) (rs := [.tmp 2]) tab_ok (show SpecsOK Tryz.prog G_fr from trivial) Tryz.func30 rfl (by kernel_rfl) rfl (by decide) Tryz.ntmps30 (N_fr cm ge gg gm (nOf sn0 sc0) (colI sc0 0) (colI sc0 1)) (H_fr cm ge gg gm (nOf sn0 sc0) (colI sc0 0) (colI sc0 1) hp rfl) E w vs hr ((AV.les.cons (AV.le.agg (AV.les.cons (AV.le.refl _) (AV.les.cons (AV.le.refl _) (AV.les.cons (AV.le.refl _) (AV.les.cons (AV.le.refl _) (AV.les.cons (AV.le.rs hk0) AV.les.nil)))))) AV.les.nil) _ _ hv : VRs E.bare (as_fr cm ge gg gm (nOf sn0 sc0) (colI sc0 0) (colI sc0 1)) vs)
 · cases h
def G_bq : List (Nat × Ag.Spec) := []
def S_bq_0 (gp : Nat) (cm ga : Nat -> Int) (ic : Int) : VS := ⟨slotsN 34 0 [(2, AV.bool false), (5, AV.rs none gp [CF.I .i64 cm, CF.I .i64 ga]), (6, AV.int .i64 ((gp : Nat) : Int)), (7, AV.int .i64 ic)], [], false, 0⟩
def X_bq_0_exit0 (gp : Nat) (cm ga : Nat -> Int) (o0 : Int) : VS := ⟨slotsN 34 0 [(2, AV.bool false), (5, AV.rs none gp [CF.I .i64 cm, CF.I .i64 ga]), (6, AV.int .i64 ((gp : Nat) : Int)), (7, AV.int .i64 o0)], [], false, 0⟩
def X_bq_0_ret (gp : Nat) (cm ga : Nat -> Int) (o0 : Int) : VS := ⟨slotsN 34 0 [(2, AV.bool false), (5, AV.rs none gp [CF.I .i64 cm, CF.I .i64 ga]), (6, AV.int .i64 ((gp : Nat) : Int)), (7, AV.int .i64 o0)], [], false, 0⟩
theorem N_bq_0 (gp : Nat) (cm ga : Nat -> Int) (ic : Int) (Q : Exit -> VS -> Prop) : vwp tab (envL G_bq) (fun _ _ _ => False) 0 (lbody (loopAt (bodyOf Tryz.f105) 0)) (S_bq_0 gp cm ga ic) (QM [2, 5, 6, 7] [] 0 Q) = B_bq_0 gp cm ga ic (fun w0 => Q .normal (S_bq_0 gp cm ga w0)) (fun o0 => Q (.exit 0) (X_bq_0_exit0 gp cm ga o0)) (fun o0 => Q .ret (X_bq_0_ret gp cm ga o0))  := by kernel_rfl
theorem L_bq_0 {X : Cx} (hX : Std Tryz.prog tab (envL G_bq) X) (b : Code) (hb : b = bodyOf Tryz.f105) (gp : Nat) (cm ga : Nat -> Int) (fu : Nat) (ic : Int) (Q : Exit -> VS -> Prop) (h : W_bq_0 gp cm ga fu ic (fun o0 => Q (.exit 0) (X_bq_0_exit0 gp cm ga o0)) (fun o0 => Q .ret (X_bq_0_ret gp cm ga o0))) : TrK X b 0 (S_bq_0 gp cm ga ic) Q := by
  subst hb
  refine loop_ok (V := Int) (fun v => S_bq_0 gp cm ga v) (fun f v => W_bq_0 gp cm ga f v (fun o0 => Q (.exit 0) (X_bq_0_exit0 gp cm ga o0)) (fun o0 => Q .ret (X_bq_0_ret gp cm ga o0))) (fun _ h => h) (by kernel_rfl) (fun f v hv => ?_) (fuel := fu) (v0 := (ic)) h
  refine QM_ok (bs := [2, 5, 6, 7]) (ms := []) (nm := 0) ?_
  refine vwp_std hX rfl (tr := (fun _ _ _ => False)) (fun _ _ _ h => h.elim) ?_
  refine Eq.mpr (N_bq_0 gp cm ga v _) ?_
  exact BM_bq_0 gp cm ga v (fun w0 h => ⟨w0, rfl, h⟩) (fun _ h => h) (fun _ h => h) hv
def T_bq (gp : Nat) (cm ga : Nat -> Int) (k : Nat) (st : VS) (Q : Exit -> VS -> Prop) : Prop := match k with
  | 0 => TL [2, 5, 6, 7] [] 0 (convs st []) (fun st => S_bq_0 gp cm ga (intOf (tAt st 7))) (fun st => W_bq_0 gp cm ga fuel (intOf (tAt st 7)) (fun o0 => Q (.exit 0) (X_bq_0_exit0 gp cm ga o0)) (fun o0 => Q .ret (X_bq_0_ret gp cm ga o0)))
  | _ => False
theorem TS_bq {X : Cx} (hX : Std Tryz.prog tab (envL G_bq) X) (b : Code) (hb : b = bodyOf Tryz.f105) (gp : Nat) (cm ga : Nat -> Int) (j : Nat) (st : VS) (Q : Exit -> VS -> Prop) (h : T_bq gp cm ga j st Q) : TrK X b j st Q := by
  unfold T_bq at h
  split at h
  · exact TL_ok h (fun h' => L_bq_0 hX b hb gp cm ga _ _ Q h')
  · exact h.elim
def as_bq (gp : Nat) (cm ga : Nat -> Int) : List AV := [AV.rs none gp [CF.I .i64 cm, CF.I .i64 ga]]
theorem N_bq (gp : Nat) (cm ga : Nat -> Int) (K : AV -> Prop) : vwp tab (envL G_bq) (T_bq gp cm ga) 0 (bodyOf Tryz.f105) (entry (as_bq gp cm ga) 34) (fnPost tab [.tmp 2] fun v s => K (v.frz s.mem)) = B_bq gp cm ga (fun r0 => K (AV.bool r0)) (fun p0 y0 y1 => S_bq_0 gp cm ga p0 = S_bq_0 gp cm ga p0 /\ W_bq_0 gp cm ga fuel p0 y0 y1) := by kernel_rfl
theorem BL_bq (gp : Nat) (cm ga : Nat -> Int) {K0 : Bool -> Prop} : B_bq gp cm ga K0 (W_bq_0 gp cm ga fuel) -> B_bq gp cm ga K0 (fun p0 y0 y1 => S_bq_0 gp cm ga p0 = S_bq_0 gp cm ga p0 /\ W_bq_0 gp cm ga fuel p0 y0 y1) := by
  unfold B_bq
  repeat' first
    | exact id
    | refine Ts_imp ?_
    | refine cond_imp ?_ ?_
    | refine and_imp' ?_
    | refine fun h => ⟨rfl, WM_bq_0 _ _ _  (fun _ => ?_) (fun _ => ?_) _ _  h⟩
def g_bq : List AV -> Option (Prop × RT)
  | [AV.rs sq0 sn0 sc0] => cond (kindsOK [KC.I .i64, KC.I .i64] sc0) (some (P_bq (nOf sn0 sc0) (colI sc0 0) (colI sc0 1), RT.leaf (AV.bool (F_bq_0 (nOf sn0 sc0) (colI sc0 0) (colI sc0 1))))) none
  | _ => none
theorem S_bq : SpecOK Tryz.prog 105 (.pure g_bq) := by
 intro xs p r h hp E w vs hr hv; unfold g_bq at h; split at h
 · rename_i sq0 sn0 sc0
   obtain ⟨hk0, h⟩ := cond_some h
   obtain ⟨rfl, rfl⟩ := some_pair h
   have hG := (show SpecsOK Tryz.prog G_bq from trivial)
   have hv' := ((AV.les.cons (AV.le.rs hk0) AV.les.nil) _ _ hv : VRs E.bare (as_bq (nOf sn0 sc0) (colI sc0 0) (colI sc0 1)) vs)
   refine walk_pure' (c := bodyOf Tryz.f105) (rs := [.tmp 2]) (ys := as_bq (nOf sn0 sc0) (colI sc0 0) (colI sc0 1)) tab_ok (envL_ok hG) Tryz.func105 rfl (by kernel_rfl) rfl (by decide) (fun X hX hrho => ?_) E w vs hr hv'
   rw [Tryz.ntmps105]
   refine vwp_std hX rfl (tr := T_bq (nOf sn0 sc0) (colI sc0 0) (colI sc0 1)) (fun j st Q h => TS_bq hX _ rfl (nOf sn0 sc0) (colI sc0 0) (colI sc0 1) j st Q h) (Eq.mpr (N_bq (nOf sn0 sc0) (colI sc0 0) (colI sc0 1) (fun x => x = _)) ?_)
   exact BL_bq (nOf sn0 sc0) (colI sc0 0) (colI sc0 1) (H_bq (nOf sn0 sc0) (colI sc0 0) (colI sc0 1) hp rfl)
 · cases h
def G_cw : List (Nat × Ag.Spec) := [(105, .pure g_bq)]
def as_cw (cm ga gm im : Int) : List AV := [AV.agg [AV.int .i64 cm, AV.int .i64 ga, AV.int .i64 gm, AV.int .i64 im]]
theorem N_cw (cm ga gm im : Int) (K : AV -> Prop) : vwp tab (envL G_cw) (fun _ _ _ => False) 0 (bodyOf Tryz.f47) (entry (as_cw cm ga gm im) 34) (fnPost tab [.tmp 2] fun v s => K (v.frz s.mem)) = B_cw cm ga gm im (fun r0 => K (AV.int .i64 r0))  := by kernel_rfl
def g_cw : List AV -> Option (Prop × RT)
  | [AV.agg [AV.int .i64 cm, AV.int .i64 ga, AV.int .i64 gm, AV.int .i64 im]] => some (P_cw cm ga gm im, RT.leaf (AV.int .i64 (F_cw_0 cm ga gm im)))
  | _ => none
theorem S_cw : SpecOK Tryz.prog 47 (.pure g_cw) := by
 intro xs p r h hp E w vs hr hv; unfold g_cw at h; split at h
 · rename_i cm ga gm im
   obtain ⟨rfl, rfl⟩ := some_pair h
   exact walk0 (ys := as_cw cm ga gm im) (rs := [.tmp 2]) tab_ok (show SpecsOK Tryz.prog G_cw from ⟨S_bq, trivial⟩) Tryz.func47 rfl (by kernel_rfl) rfl (by decide) Tryz.ntmps47 (N_cw cm ga gm im) (H_cw cm ga gm im hp rfl) E w vs hr hv
 · cases h
def G_er : List (Nat × Ag.Spec) := [(47, .pure g_cw)]
def as_er (cm ga gm im a1 : Int) : List AV := [AV.agg [AV.int .i64 cm, AV.int .i64 ga, AV.int .i64 gm, AV.int .i64 im], AV.int .i64 a1]
theorem N_er (cm ga gm im a1 : Int) (K : AV -> Prop) : vwp tab (envL G_er) (fun _ _ _ => False) 0 (bodyOf Tryz.f62) (entry (as_er cm ga gm im a1) 37) (fnPost tab [.cell 4 45] fun v s => K (v.frz s.mem)) = B_er cm ga gm im a1 (fun r0 r1 r2 r3 => K (AV.agg [AV.int .i64 r0, AV.int .i64 r1, AV.int .i64 r2, AV.int .i64 r3]))  := by kernel_rfl
def g_er : List AV -> Option (Prop × RT)
  | [AV.agg [AV.int .i64 cm, AV.int .i64 ga, AV.int .i64 gm, AV.int .i64 im], AV.int .i64 a1] => some (P_er cm ga gm im a1, RT.leaf (AV.agg [AV.int .i64 (F_er_0 cm ga gm im a1), AV.int .i64 (F_er_1 cm ga gm im a1), AV.int .i64 (F_er_2 cm ga gm im a1), AV.int .i64 (F_er_3 cm ga gm im a1)]))
  | _ => none
theorem S_er : SpecOK Tryz.prog 62 (.pure g_er) := by
 intro xs p r h hp E w vs hr hv; unfold g_er at h; split at h
 · rename_i cm ga gm im a1
   obtain ⟨rfl, rfl⟩ := some_pair h
   exact walk0 (ys := as_er cm ga gm im a1) (rs := [.cell 4 45]) tab_ok (show SpecsOK Tryz.prog G_er from ⟨S_cw, trivial⟩) Tryz.func62 rfl (by kernel_rfl) rfl (by decide) Tryz.ntmps62 (N_er cm ga gm im a1) (H_er cm ga gm im a1 hp rfl) E w vs hr hv
 · cases h
def G_bn : List (Nat × Ag.Spec) := []
def as_bn (cm ga gb gd : Int) : List AV := [AV.agg [AV.int .i64 cm, AV.int .i64 ga], AV.agg [AV.int .i64 gb, AV.int .i64 gd]]
theorem N_bn (cm ga gb gd : Int) (K : AV -> Prop) : vwp tab (envL G_bn) (fun _ _ _ => False) 0 (bodyOf Tryz.f160) (entry (as_bn cm ga gb gd) 16) (fnPost tab [.cell 4 32] fun v s => K (v.frz s.mem)) = B_bn cm ga gb gd (fun r0 r1 => K (AV.agg [AV.int .i64 r0, AV.int .i64 r1]))  := by kernel_rfl
def g_bn : List AV -> Option (Prop × RT)
  | [AV.agg [AV.int .i64 cm, AV.int .i64 ga], AV.agg [AV.int .i64 gb, AV.int .i64 gd]] => some (P_bn cm ga gb gd, RT.leaf (AV.agg [AV.int .i64 (F_bn_0 cm ga gb gd), AV.int .i64 (F_bn_1 cm ga gb gd)]))
  | _ => none
theorem S_bn : SpecOK Tryz.prog 160 (.pure g_bn) := by
 intro xs p r h hp E w vs hr hv; unfold g_bn at h; split at h
 · rename_i cm ga gb gd
   obtain ⟨rfl, rfl⟩ := some_pair h
   exact walk0 (ys := as_bn cm ga gb gd) (rs := [.cell 4 32]) tab_ok (show SpecsOK Tryz.prog G_bn from trivial) Tryz.func160 rfl (by kernel_rfl) rfl (by decide) Tryz.ntmps160 (N_bn cm ga gb gd) (H_bn cm ga gb gd hp rfl) E w vs hr hv
 · cases h
def G_fq : List (Nat × Ag.Spec) := []
def as_fq (cm ga gb gd : Int) : List AV := [AV.agg [AV.int .i64 cm, AV.int .i64 ga], AV.agg [AV.int .i64 gb, AV.int .i64 gd]]
theorem N_fq (cm ga gb gd : Int) (K : AV -> Prop) : vwp tab (envL G_fq) (fun _ _ _ => False) 0 (bodyOf Tryz.f202) (entry (as_fq cm ga gb gd) 16) (fnPost tab [.tmp 4] fun v s => K (v.frz s.mem)) = B_fq cm ga gb gd (fun r0 => K (AV.int .i64 r0))  := by kernel_rfl
def g_fq : List AV -> Option (Prop × RT)
  | [AV.agg [AV.int .i64 cm, AV.int .i64 ga], AV.agg [AV.int .i64 gb, AV.int .i64 gd]] => some (P_fq cm ga gb gd, RT.leaf (AV.int .i64 (F_fq_0 cm ga gb gd)))
  | _ => none
theorem S_fq : SpecOK Tryz.prog 202 (.pure g_fq) := by
 intro xs p r h hp E w vs hr hv; unfold g_fq at h; split at h
 · rename_i cm ga gb gd
   obtain ⟨rfl, rfl⟩ := some_pair h
   exact walk0 (ys := as_fq cm ga gb gd) (rs := [.tmp 4]) tab_ok (show SpecsOK Tryz.prog G_fq from trivial) Tryz.func202 rfl (by kernel_rfl) rfl (by decide) Tryz.ntmps202 (N_fq cm ga gb gd) (H_fq cm ga gb gd hp rfl) E w vs hr hv
 · cases h
def G_e8 : List (Nat × Ag.Spec) := [(160, .pure g_bn), (202, .pure g_fq)]
def as_e8 (cm ga gb gd gh gj : Int) : List AV := [AV.agg [AV.int .i64 cm, AV.int .i64 ga], AV.agg [AV.int .i64 gb, AV.int .i64 gd], AV.agg [AV.int .i64 gh, AV.int .i64 gj]]
theorem N_e8 (cm ga gb gd gh gj : Int) (K : AV -> Prop) : vwp tab (envL G_e8) (fun _ _ _ => False) 0 (bodyOf Tryz.f127) (entry (as_e8 cm ga gb gd gh gj) 14) (fnPost tab [.tmp 6] fun v s => K (v.frz s.mem)) = B_e8 cm ga gb gd gh gj (fun r0 => K (AV.int .i64 r0))  := by kernel_rfl
def g_e8 : List AV -> Option (Prop × RT)
  | [AV.agg [AV.int .i64 cm, AV.int .i64 ga], AV.agg [AV.int .i64 gb, AV.int .i64 gd], AV.agg [AV.int .i64 gh, AV.int .i64 gj]] => some (P_e8 cm ga gb gd gh gj, RT.leaf (AV.int .i64 (F_e8_0 cm ga gb gd gh gj)))
  | _ => none
theorem S_e8 : SpecOK Tryz.prog 127 (.pure g_e8) := by
 intro xs p r h hp E w vs hr hv; unfold g_e8 at h; split at h
 · rename_i cm ga gb gd gh gj
   obtain ⟨rfl, rfl⟩ := some_pair h
   exact walk0 (ys := as_e8 cm ga gb gd gh gj) (rs := [.tmp 6]) tab_ok (show SpecsOK Tryz.prog G_e8 from ⟨S_bn, S_fq, trivial⟩) Tryz.func127 rfl (by kernel_rfl) rfl (by decide) Tryz.ntmps127 (N_e8 cm ga gb gd gh gj) (H_e8 cm ga gb gd gh gj hp rfl) E w vs hr hv
 · cases h
def G_fs : List (Nat × Ag.Spec) := [(105, .pure g_bq), (127, .pure g_e8)]
def as_fs (cm ga gb gd gh gj : Int) : List AV := [AV.agg [AV.int .i64 cm, AV.int .i64 ga], AV.agg [AV.int .i64 gb, AV.int .i64 gd], AV.agg [AV.int .i64 gh, AV.int .i64 gj]]
theorem N_fs (cm ga gb gd gh gj : Int) (K : AV -> Prop) : vwp tab (envL G_fs) (fun _ _ _ => False) 0 (bodyOf Tryz.f91) (entry (as_fs cm ga gb gd gh gj) 23) (fnPost tab [.tmp 6] fun v s => K (v.frz s.mem)) = B_fs cm ga gb gd gh gj (fun r0 => K (AV.int .i64 r0))  := by kernel_rfl
def g_fs : List AV -> Option (Prop × RT)
  | [AV.agg [AV.int .i64 cm, AV.int .i64 ga], AV.agg [AV.int .i64 gb, AV.int .i64 gd], AV.agg [AV.int .i64 gh, AV.int .i64 gj]] => some (P_fs cm ga gb gd gh gj, RT.leaf (AV.int .i64 (F_fs_0 cm ga gb gd gh gj)))
  | _ => none
theorem S_fs : SpecOK Tryz.prog 91 (.pure g_fs) := by
 intro xs p r h hp E w vs hr hv; unfold g_fs at h; split at h
 · rename_i cm ga gb gd gh gj
   obtain ⟨rfl, rfl⟩ := some_pair h
   exact walk0 (ys := as_fs cm ga gb gd gh gj) (rs := [.tmp 6]) tab_ok (show SpecsOK Tryz.prog G_fs from ⟨S_bq, S_e8, trivial⟩) Tryz.func91 rfl (by kernel_rfl) rfl (by decide) Tryz.ntmps91 (N_fs cm ga gb gd gh gj) (H_fs cm ga gb gd gh gj hp rfl) E w vs hr hv
 · cases h
def G_fj : List (Nat × Ag.Spec) := [(62, .pure g_er), (91, .pure g_fs)]
def as_fj  : List AV := []
theorem N_fj  (K : AV -> Prop) : vwp tab (envL G_fj) (fun _ _ _ => False) 0 (bodyOf Tryz.f31) (entry (as_fj ) 12) (fnPost tab [.tmp 0] fun v s => K (v.frz s.mem)) = B_fj  (fun r0 => K (AV.bool r0))  := by kernel_rfl
def g_fj : List AV -> Option (Prop × RT)
  | [] => some (P_fj , RT.leaf (AV.bool F_fj_0))
  | _ => none
theorem S_fj : SpecOK Tryz.prog 31 (.pure g_fj) := by
 intro xs p r h hp E w vs hr hv; unfold g_fj at h; split at h
 · skip
   obtain ⟨rfl, rfl⟩ := some_pair h
   exact walk0 (ys := as_fj ) (rs := [.tmp 0]) tab_ok (show SpecsOK Tryz.prog G_fj from ⟨S_er, S_fs, trivial⟩) Tryz.func31 rfl (by kernel_rfl) rfl (by decide) Tryz.ntmps31 (N_fj ) (H_fj  hp rfl) E w vs hr hv
 · cases h
def G_b8 : List (Nat × Ag.Spec) := []
def S_b8_0 (gp : Nat) (cm ga : Nat -> Int) (je : Bool) (ia : Int) (j5 : Nat) (i7 kd : (Nat -> Int)) : VS := ⟨slotsN 19 0 [(0, AV.rs none gp [CF.I .i64 cm, CF.I .i64 ga]), (2, AV.nils), (3, AV.sl (some je) 0 j5 2), (4, AV.int .i64 ia)], [.many true 32 j5 [CF.I .i64 i7, CF.I .i64 kd]], false, 0⟩
def X_b8_0_exit0 (gp : Nat) (cm ga : Nat -> Int) (o0 : Bool) (o1 : Int) (o2 : Nat) (o3 o4 : (Nat -> Int)) : VS := ⟨slotsN 19 0 [(0, AV.rs none gp [CF.I .i64 cm, CF.I .i64 ga]), (2, AV.nils), (3, AV.sl (some o0) 0 o2 2), (4, AV.int .i64 o1)], [.many true 32 o2 [CF.I .i64 o3, CF.I .i64 o4]], false, 0⟩
theorem N_b8_0 (gp : Nat) (cm ga : Nat -> Int) (je : Bool) (ia : Int) (j5 : Nat) (i7 kd : (Nat -> Int)) (Q : Exit -> VS -> Prop) : vwp tab (envL G_b8) (fun _ _ _ => False) 0 (lbody (loopAt (bodyOf Tryz.f33) 0)) (S_b8_0 gp cm ga je ia j5 i7 kd) (QM [0, 2, 3, 4] [0] 1 Q) = B_b8_0 gp cm ga je ia j5 i7 kd (fun w0 w1 w2 w3 w4 => Q .normal (S_b8_0 gp cm ga w0 w1 w2 w3 w4)) (fun o0 o1 o2 o3 o4 => Q (.exit 0) (X_b8_0_exit0 gp cm ga o0 o1 o2 o3 o4))  := by kernel_rfl
theorem L_b8_0 {X : Cx} (hX : Std Tryz.prog tab (envL G_b8) X) (b : Code) (hb : b = bodyOf Tryz.f33) (gp : Nat) (cm ga : Nat -> Int) (fu : Nat) (je : Bool) (ia : Int) (j5 : Nat) (i7 kd : (Nat -> Int)) (Q : Exit -> VS -> Prop) (h : W_b8_0 gp cm ga fu je ia j5 i7 kd (fun o0 o1 o2 o3 o4 => Q (.exit 0) (X_b8_0_exit0 gp cm ga o0 o1 o2 o3 o4))) : TrK X b 0 (S_b8_0 gp cm ga je ia j5 i7 kd) Q := by
  subst hb
  refine loop_ok (V := Bool × Int × Nat × (Nat -> Int) × (Nat -> Int)) (fun v => S_b8_0 gp cm ga v.1 v.2.1 v.2.2.1 v.2.2.2.1 v.2.2.2.2) (fun f v => W_b8_0 gp cm ga f v.1 v.2.1 v.2.2.1 v.2.2.2.1 v.2.2.2.2 (fun o0 o1 o2 o3 o4 => Q (.exit 0) (X_b8_0_exit0 gp cm ga o0 o1 o2 o3 o4))) (fun _ h => h) (by kernel_rfl) (fun f v hv => ?_) (fuel := fu) (v0 := (je, ia, j5, i7, kd)) h
  refine QM_ok (bs := [0, 2, 3, 4]) (ms := [0]) (nm := 1) ?_
  refine vwp_std hX rfl (tr := (fun _ _ _ => False)) (fun _ _ _ h => h.elim) ?_
  refine Eq.mpr (N_b8_0 gp cm ga v.1 v.2.1 v.2.2.1 v.2.2.2.1 v.2.2.2.2 _) ?_
  exact BM_b8_0 gp cm ga v.1 v.2.1 v.2.2.1 v.2.2.2.1 v.2.2.2.2 (fun w0 w1 w2 w3 w4 h => ⟨(w0, w1, w2, w3, w4), rfl, h⟩) (fun _ _ _ _ _ h => h) hv
def T_b8 (gp : Nat) (cm ga : Nat -> Int) (k : Nat) (st : VS) (Q : Exit -> VS -> Prop) : Prop := match k with
  | 0 => TL [0, 2, 3, 4] [0] 1 (convs st [⟨.t 3, 32, [CF.I .i64 (fun _ => 0), CF.I .i64 (fun _ => 0)]⟩]) (fun st => S_b8_0 gp cm ga (qAV (tAt st 3)) (intOf (tAt st 4)) (nAB (blkAt st 0)) (colI (cAB (blkAt st 0)) 0) (colI (cAB (blkAt st 0)) 1)) (fun st => W_b8_0 gp cm ga fuel (qAV (tAt st 3)) (intOf (tAt st 4)) (nAB (blkAt st 0)) (colI (cAB (blkAt st 0)) 0) (colI (cAB (blkAt st 0)) 1) (fun o0 o1 o2 o3 o4 => Q (.exit 0) (X_b8_0_exit0 gp cm ga o0 o1 o2 o3 o4)))
  | _ => False
theorem TS_b8 {X : Cx} (hX : Std Tryz.prog tab (envL G_b8) X) (b : Code) (hb : b = bodyOf Tryz.f33) (gp : Nat) (cm ga : Nat -> Int) (j : Nat) (st : VS) (Q : Exit -> VS -> Prop) (h : T_b8 gp cm ga j st Q) : TrK X b j st Q := by
  unfold T_b8 at h
  split at h
  · exact TL_ok h (fun h' => L_b8_0 hX b hb gp cm ga _ _ _ _ _ _ Q h')
  · exact h.elim
def as_b8 (gp : Nat) (cm ga : Nat -> Int) : List AV := [AV.rs none gp [CF.I .i64 cm, CF.I .i64 ga]]
theorem N_b8 (gp : Nat) (cm ga : Nat -> Int) (K : AV -> Prop) : vwp tab (envL G_b8) (T_b8 gp cm ga) 0 (bodyOf Tryz.f33) (entry (as_b8 gp cm ga) 19) (fnPost tab [.tmp 2] fun v s => K (v.frz s.mem)) = B_b8 gp cm ga (fun r0 r1 r2 => K (AV.rs none r0 [CF.I .i64 r1, CF.I .i64 r2])) (fun p0 p1 p2 p3 p4 y0 => S_b8_0 gp cm ga p0 p1 p2 p3 p4 = S_b8_0 gp cm ga p0 p1 p2 p3 p4 /\ W_b8_0 gp cm ga fuel p0 p1 p2 p3 p4 y0) := by kernel_rfl
theorem BL_b8 (gp : Nat) (cm ga : Nat -> Int) {K0 : Nat -> (Nat -> Int) -> (Nat -> Int) -> Prop} : B_b8 gp cm ga K0 (W_b8_0 gp cm ga fuel) -> B_b8 gp cm ga K0 (fun p0 p1 p2 p3 p4 y0 => S_b8_0 gp cm ga p0 p1 p2 p3 p4 = S_b8_0 gp cm ga p0 p1 p2 p3 p4 /\ W_b8_0 gp cm ga fuel p0 p1 p2 p3 p4 y0) := by
  unfold B_b8
  repeat' first
    | exact id
    | refine Ts_imp ?_
    | refine cond_imp ?_ ?_
    | refine and_imp' ?_
    | refine fun h => ⟨rfl, WM_b8_0 _ _ _  (fun _ _ _ _ _ => ?_) _ _ _ _ _ _  h⟩
def g_b8 : List AV -> Option (Prop × RT)
  | [AV.rs sq0 sn0 sc0] => cond (kindsOK [KC.I .i64, KC.I .i64] sc0) (some (P_b8 (nOf sn0 sc0) (colI sc0 0) (colI sc0 1), RT.leaf (AV.rs none (F_b8_0 (nOf sn0 sc0) (colI sc0 0) (colI sc0 1)) [CF.I .i64 (F_b8_1 (nOf sn0 sc0) (colI sc0 0) (colI sc0 1)), CF.I .i64 (F_b8_2 (nOf sn0 sc0) (colI sc0 0) (colI sc0 1))]))) none
  | _ => none
theorem S_b8 : SpecOK Tryz.prog 33 (.pure g_b8) := by
 intro xs p r h hp E w vs hr hv; unfold g_b8 at h; split at h
 · rename_i sq0 sn0 sc0
   obtain ⟨hk0, h⟩ := cond_some h
   obtain ⟨rfl, rfl⟩ := some_pair h
   have hG := (show SpecsOK Tryz.prog G_b8 from trivial)
   have hv' := ((AV.les.cons (AV.le.rs hk0) AV.les.nil) _ _ hv : VRs E.bare (as_b8 (nOf sn0 sc0) (colI sc0 0) (colI sc0 1)) vs)
   refine walk_pure' (c := bodyOf Tryz.f33) (rs := [.tmp 2]) (ys := as_b8 (nOf sn0 sc0) (colI sc0 0) (colI sc0 1)) tab_ok (envL_ok hG) Tryz.func33 rfl (by kernel_rfl) rfl (by decide) (fun X hX hrho => ?_) E w vs hr hv'
   rw [Tryz.ntmps33]
   refine vwp_std hX rfl (tr := T_b8 (nOf sn0 sc0) (colI sc0 0) (colI sc0 1)) (fun j st Q h => TS_b8 hX _ rfl (nOf sn0 sc0) (colI sc0 0) (colI sc0 1) j st Q h) (Eq.mpr (N_b8 (nOf sn0 sc0) (colI sc0 0) (colI sc0 1) (fun x => x = _)) ?_)
   exact BL_b8 (nOf sn0 sc0) (colI sc0 0) (colI sc0 1) (H_b8 (nOf sn0 sc0) (colI sc0 0) (colI sc0 1) hp rfl)
 · cases h
def G_a7 : List (Nat × Ag.Spec) := [(33, .pure g_b8)]
def as_a7 (cm ge gg gm : Int) (gq : Nat) (gu gv : Nat -> Int) : List AV := [AV.agg [AV.int .i64 cm, AV.int .i64 ge, AV.int .i64 gg, AV.int .i64 gm, AV.rs none gq [CF.I .i64 gu, CF.I .i64 gv]]]
theorem N_a7 (cm ge gg gm : Int) (gq : Nat) (gu gv : Nat -> Int) (K : AV -> Prop) : vwp tab (envL G_a7) (fun _ _ _ => False) 0 (bodyOf Tryz.f32) (entry (as_a7 cm ge gg gm gq gu gv) 8) (fnPost tab [.cell 2 35] fun v s => K (v.frz s.mem)) = B_a7 cm ge gg gm gq gu gv (fun r0 r1 r2 r3 r4 r5 r6 => K (AV.agg [AV.int .i64 r0, AV.int .i64 r1, AV.int .i64 r2, AV.int .i64 r3, AV.rs none r4 [CF.I .i64 r5, CF.I .i64 r6]]))  := by kernel_rfl
def g_a7 : List AV -> Option (Prop × RT)
  | [AV.agg [AV.int .i64 cm, AV.int .i64 ge, AV.int .i64 gg, AV.int .i64 gm, AV.rs sq0 sn0 sc0]] => cond (kindsOK [KC.I .i64, KC.I .i64] sc0) (some (P_a7 cm ge gg gm (nOf sn0 sc0) (colI sc0 0) (colI sc0 1), RT.leaf (AV.agg [AV.int .i64 (F_a7_0 cm ge gg gm (nOf sn0 sc0) (colI sc0 0) (colI sc0 1)), AV.int .i64 (F_a7_1 cm ge gg gm (nOf sn0 sc0) (colI sc0 0) (colI sc0 1)), AV.int .i64 (F_a7_2 cm ge gg gm (nOf sn0 sc0) (colI sc0 0) (colI sc0 1)), AV.int .i64 (F_a7_3 cm ge gg gm (nOf sn0 sc0) (colI sc0 0) (colI sc0 1)), AV.rs none (F_a7_4 cm ge gg gm (nOf sn0 sc0) (colI sc0 0) (colI sc0 1)) [CF.I .i64 (F_a7_5 cm ge gg gm (nOf sn0 sc0) (colI sc0 0) (colI sc0 1)), CF.I .i64 (F_a7_6 cm ge gg gm (nOf sn0 sc0) (colI sc0 0) (colI sc0 1))]]))) none
  | _ => none
theorem S_a7 : SpecOK Tryz.prog 32 (.pure g_a7) := by
 intro xs p r h hp E w vs hr hv; unfold g_a7 at h; split at h
 · rename_i cm ge gg gm sq0 sn0 sc0
   obtain ⟨hk0, h⟩ := cond_some h
   obtain ⟨rfl, rfl⟩ := some_pair h
   exact walk0 (ys := as_a7 cm ge gg gm (nOf sn0 sc0) (colI sc0 0) (colI sc0 1)) (rs := [.cell 2 35]) tab_ok (show SpecsOK Tryz.prog G_a7 from ⟨S_b8, trivial⟩) Tryz.func32 rfl (by kernel_rfl) rfl (by decide) Tryz.ntmps32 (N_a7 cm ge gg gm (nOf sn0 sc0) (colI sc0 0) (colI sc0 1)) (H_a7 cm ge gg gm (nOf sn0 sc0) (colI sc0 0) (colI sc0 1) hp rfl) E w vs hr ((AV.les.cons (AV.le.agg (AV.les.cons (AV.le.refl _) (AV.les.cons (AV.le.refl _) (AV.les.cons (AV.le.refl _) (AV.les.cons (AV.le.refl _) (AV.les.cons (AV.le.rs hk0) AV.les.nil)))))) AV.les.nil) _ _ hv : VRs E.bare (as_a7 cm ge gg gm (nOf sn0 sc0) (colI sc0 0) (colI sc0 1)) vs)
 · cases h
def G_a6 : List (Nat × Ag.Spec) := []
def S_a6_0 (gp : Nat) (cm ga : Nat -> Int) (ij : Nat) (gb gd : Nat -> Int) (ib : Int) : VS := ⟨slotsN 26 0 [(0, AV.rs none gp [CF.I .i64 cm, CF.I .i64 ga]), (1, AV.rs none ij [CF.I .i64 gb, CF.I .i64 gd]), (4, AV.bool false), (5, AV.int .i64 ib)], [], false, 0⟩
def X_a6_0_exit0 (gp : Nat) (cm ga : Nat -> Int) (ij : Nat) (gb gd : Nat -> Int) (o0 : Int) : VS := ⟨slotsN 26 0 [(0, AV.rs none gp [CF.I .i64 cm, CF.I .i64 ga]), (1, AV.rs none ij [CF.I .i64 gb, CF.I .i64 gd]), (4, AV.bool false), (5, AV.int .i64 o0)], [], false, 0⟩
def X_a6_0_ret (gp : Nat) (cm ga : Nat -> Int) (ij : Nat) (gb gd : Nat -> Int) (o0 : Int) : VS := ⟨slotsN 26 0 [(0, AV.rs none gp [CF.I .i64 cm, CF.I .i64 ga]), (1, AV.rs none ij [CF.I .i64 gb, CF.I .i64 gd]), (4, AV.bool false), (5, AV.int .i64 o0)], [], false, 0⟩
theorem N_a6_0 (gp : Nat) (cm ga : Nat -> Int) (ij : Nat) (gb gd : Nat -> Int) (ib : Int) (Q : Exit -> VS -> Prop) : vwp tab (envL G_a6) (fun _ _ _ => False) 0 (lbody (loopAt (bodyOf Tryz.f39) 0)) (S_a6_0 gp cm ga ij gb gd ib) (QM [0, 1, 4, 5] [] 0 Q) = B_a6_0 gp cm ga ij gb gd ib (fun w0 => Q .normal (S_a6_0 gp cm ga ij gb gd w0)) (fun o0 => Q (.exit 0) (X_a6_0_exit0 gp cm ga ij gb gd o0)) (fun o0 => Q .ret (X_a6_0_ret gp cm ga ij gb gd o0))  := by kernel_rfl
theorem L_a6_0 {X : Cx} (hX : Std Tryz.prog tab (envL G_a6) X) (b : Code) (hb : b = bodyOf Tryz.f39) (gp : Nat) (cm ga : Nat -> Int) (ij : Nat) (gb gd : Nat -> Int) (fu : Nat) (ib : Int) (Q : Exit -> VS -> Prop) (h : W_a6_0 gp cm ga ij gb gd fu ib (fun o0 => Q (.exit 0) (X_a6_0_exit0 gp cm ga ij gb gd o0)) (fun o0 => Q .ret (X_a6_0_ret gp cm ga ij gb gd o0))) : TrK X b 0 (S_a6_0 gp cm ga ij gb gd ib) Q := by
  subst hb
  refine loop_ok (V := Int) (fun v => S_a6_0 gp cm ga ij gb gd v) (fun f v => W_a6_0 gp cm ga ij gb gd f v (fun o0 => Q (.exit 0) (X_a6_0_exit0 gp cm ga ij gb gd o0)) (fun o0 => Q .ret (X_a6_0_ret gp cm ga ij gb gd o0))) (fun _ h => h) (by kernel_rfl) (fun f v hv => ?_) (fuel := fu) (v0 := (ib)) h
  refine QM_ok (bs := [0, 1, 4, 5]) (ms := []) (nm := 0) ?_
  refine vwp_std hX rfl (tr := (fun _ _ _ => False)) (fun _ _ _ h => h.elim) ?_
  refine Eq.mpr (N_a6_0 gp cm ga ij gb gd v _) ?_
  exact BM_a6_0 gp cm ga ij gb gd v (fun w0 h => ⟨w0, rfl, h⟩) (fun _ h => h) (fun _ h => h) hv
def T_a6 (gp : Nat) (cm ga : Nat -> Int) (ij : Nat) (gb gd : Nat -> Int) (k : Nat) (st : VS) (Q : Exit -> VS -> Prop) : Prop := match k with
  | 0 => TL [0, 1, 4, 5] [] 0 (convs st []) (fun st => S_a6_0 gp cm ga ij gb gd (intOf (tAt st 5))) (fun st => W_a6_0 gp cm ga ij gb gd fuel (intOf (tAt st 5)) (fun o0 => Q (.exit 0) (X_a6_0_exit0 gp cm ga ij gb gd o0)) (fun o0 => Q .ret (X_a6_0_ret gp cm ga ij gb gd o0)))
  | _ => False
theorem TS_a6 {X : Cx} (hX : Std Tryz.prog tab (envL G_a6) X) (b : Code) (hb : b = bodyOf Tryz.f39) (gp : Nat) (cm ga : Nat -> Int) (ij : Nat) (gb gd : Nat -> Int) (j : Nat) (st : VS) (Q : Exit -> VS -> Prop) (h : T_a6 gp cm ga ij gb gd j st Q) : TrK X b j st Q := by
  unfold T_a6 at h
  split at h
  · exact TL_ok h (fun h' => L_a6_0 hX b hb gp cm ga ij gb gd _ _ Q h')
  · exact h.elim
def as_a6 (gp : Nat) (cm ga : Nat -> Int) (ij : Nat) (gb gd : Nat -> Int) : List AV := [AV.rs none gp [CF.I .i64 cm, CF.I .i64 ga], AV.rs none ij [CF.I .i64 gb, CF.I .i64 gd]]
theorem N_a6 (gp : Nat) (cm ga : Nat -> Int) (ij : Nat) (gb gd : Nat -> Int) (K : AV -> Prop) : vwp tab (envL G_a6) (T_a6 gp cm ga ij gb gd) 0 (bodyOf Tryz.f39) (entry (as_a6 gp cm ga ij gb gd) 26) (fnPost tab [.tmp 4] fun v s => K (v.frz s.mem)) = B_a6 gp cm ga ij gb gd (fun r0 => K (AV.bool r0)) (fun p0 y0 y1 => S_a6_0 gp cm ga ij gb gd p0 = S_a6_0 gp cm ga ij gb gd p0 /\ W_a6_0 gp cm ga ij gb gd fuel p0 y0 y1) := by kernel_rfl
theorem BL_a6 (gp : Nat) (cm ga : Nat -> Int) (ij : Nat) (gb gd : Nat -> Int) {K0 : Bool -> Prop} : B_a6 gp cm ga ij gb gd K0 (W_a6_0 gp cm ga ij gb gd fuel) -> B_a6 gp cm ga ij gb gd K0 (fun p0 y0 y1 => S_a6_0 gp cm ga ij gb gd p0 = S_a6_0 gp cm ga ij gb gd p0 /\ W_a6_0 gp cm ga ij gb gd fuel p0 y0 y1) := by
  unfold B_a6
  repeat' first
    | exact id
    | refine Ts_imp ?_
    | refine cond_imp ?_ ?_
    | refine and_imp' ?_
    | refine fun h => ⟨rfl, WM_a6_0 _ _ _ _ _ _  (fun _ => ?_) (fun _ => ?_) _ _  h⟩
def g_a6 : List AV -> Option (Prop × RT)
  | [AV.rs sq0 sn0 sc0, AV.rs sq1 sn1 sc1] => cond (kindsOK [KC.I .i64, KC.I .i64] sc0) (cond (kindsOK [KC.I .i64, KC.I .i64] sc1) (some (P_a6 (nOf sn0 sc0) (colI sc0 0) (colI sc0 1) (nOf sn1 sc1) (colI sc1 0) (colI sc1 1), RT.leaf (AV.bool (F_a6_0 (nOf sn0 sc0) (colI sc0 0) (colI sc0 1) (nOf sn1 sc1) (colI sc1 0) (colI sc1 1))))) none) none
  | _ => none
theorem S_a6 : SpecOK Tryz.prog 39 (.pure g_a6) := by
 intro xs p r h hp E w vs hr hv; unfold g_a6 at h; split at h
 · rename_i sq0 sn0 sc0 sq1 sn1 sc1
   obtain ⟨hk0, h⟩ := cond_some h
   obtain ⟨hk1, h⟩ := cond_some h
   obtain ⟨rfl, rfl⟩ := some_pair h
   have hG := (show SpecsOK Tryz.prog G_a6 from trivial)
   have hv' := ((AV.les.cons (AV.le.rs hk0) (AV.les.cons (AV.le.rs hk1) AV.les.nil)) _ _ hv : VRs E.bare (as_a6 (nOf sn0 sc0) (colI sc0 0) (colI sc0 1) (nOf sn1 sc1) (colI sc1 0) (colI sc1 1)) vs)
   refine walk_pure' (c := bodyOf Tryz.f39) (rs := [.tmp 4]) (ys := as_a6 (nOf sn0 sc0) (colI sc0 0) (colI sc0 1) (nOf sn1 sc1) (colI sc1 0) (colI sc1 1)) tab_ok (envL_ok hG) Tryz.func39 rfl (by kernel_rfl) rfl (by decide) (fun X hX hrho => ?_) E w vs hr hv'
   rw [Tryz.ntmps39]
   refine vwp_std hX rfl (tr := T_a6 (nOf sn0 sc0) (colI sc0 0) (colI sc0 1) (nOf sn1 sc1) (colI sc1 0) (colI sc1 1)) (fun j st Q h => TS_a6 hX _ rfl (nOf sn0 sc0) (colI sc0 0) (colI sc0 1) (nOf sn1 sc1) (colI sc1 0) (colI sc1 1) j st Q h) (Eq.mpr (N_a6 (nOf sn0 sc0) (colI sc0 0) (colI sc0 1) (nOf sn1 sc1) (colI sc1 0) (colI sc1 1) (fun x => x = _)) ?_)
   exact BL_a6 (nOf sn0 sc0) (colI sc0 0) (colI sc0 1) (nOf sn1 sc1) (colI sc1 0) (colI sc1 1) (H_a6 (nOf sn0 sc0) (colI sc0 0) (colI sc0 1) (nOf sn1 sc1) (colI sc1 0) (colI sc1 1) hp rfl)
 · cases h
def G_eg : List (Nat × Ag.Spec) := [(39, .pure g_a6)]
def as_eg (cm ge gg gm : Int) (gq : Nat) (gu gv : Nat -> Int) (gb g8 g9 ie : Int) (kg : Nat) (kh ki : Nat -> Int) : List AV := [AV.agg [AV.int .i64 cm, AV.int .i64 ge, AV.int .i64 gg, AV.int .i64 gm, AV.rs none gq [CF.I .i64 gu, CF.I .i64 gv]], AV.agg [AV.int .i64 gb, AV.int .i64 g8, AV.int .i64 g9, AV.int .i64 ie, AV.rs none kg [CF.I .i64 kh, CF.I .i64 ki]]]
theorem N_eg (cm ge gg gm : Int) (gq : Nat) (gu gv : Nat -> Int) (gb g8 g9 ie : Int) (kg : Nat) (kh ki : Nat -> Int) (K : AV -> Prop) : vwp tab (envL G_eg) (fun _ _ _ => False) 0 (bodyOf Tryz.f36) (entry (as_eg cm ge gg gm gq gu gv gb g8 g9 ie kg kh ki) 31) (fnPost tab [.tmp 4] fun v s => K (v.frz s.mem)) = B_eg cm ge gg gm gq gu gv gb g8 g9 ie kg kh ki (fun r0 => K (AV.bool r0))  := by kernel_rfl
def g_eg : List AV -> Option (Prop × RT)
  | [AV.agg [AV.int .i64 cm, AV.int .i64 ge, AV.int .i64 gg, AV.int .i64 gm, AV.rs sq0 sn0 sc0], AV.agg [AV.int .i64 gb, AV.int .i64 g8, AV.int .i64 g9, AV.int .i64 ie, AV.rs sq1 sn1 sc1]] => cond (kindsOK [KC.I .i64, KC.I .i64] sc0) (cond (kindsOK [KC.I .i64, KC.I .i64] sc1) (some (P_eg cm ge gg gm (nOf sn0 sc0) (colI sc0 0) (colI sc0 1) gb g8 g9 ie (nOf sn1 sc1) (colI sc1 0) (colI sc1 1), RT.leaf (AV.bool (F_eg_0 cm ge gg gm (nOf sn0 sc0) (colI sc0 0) (colI sc0 1) gb g8 g9 ie (nOf sn1 sc1) (colI sc1 0) (colI sc1 1))))) none) none
  | _ => none
theorem S_eg : SpecOK Tryz.prog 36 (.pure g_eg) := by
 intro xs p r h hp E w vs hr hv; unfold g_eg at h; split at h
 · rename_i cm ge gg gm sq0 sn0 sc0 gb g8 g9 ie sq1 sn1 sc1
   obtain ⟨hk0, h⟩ := cond_some h
   obtain ⟨hk1, h⟩ := cond_some h
   obtain ⟨rfl, rfl⟩ := some_pair h
   exact walk0 (ys := as_eg cm ge gg gm (nOf sn0 sc0) (colI sc0 0) (colI sc0 1) gb g8 g9 ie (nOf sn1 sc1) (colI sc1 0) (colI sc1 1)) (rs := [.tmp 4]) tab_ok (show SpecsOK Tryz.prog G_eg from ⟨S_a6, trivial⟩) Tryz.func36 rfl (by kernel_rfl) rfl (by decide) Tryz.ntmps36 (N_eg cm ge gg gm (nOf sn0 sc0) (colI sc0 0) (colI sc0 1) gb g8 g9 ie (nOf sn1 sc1) (colI sc1 0) (colI sc1 1)) (H_eg cm ge gg gm (nOf sn0 sc0) (colI sc0 0) (colI sc0 1) gb g8 g9 ie (nOf sn1 sc1) (colI sc1 0) (colI sc1 1) hp rfl) E w vs hr ((AV.les.cons (AV.le.agg (AV.les.cons (AV.le.refl _) (AV.les.cons (AV.le.refl _) (AV.les.cons (AV.le.refl _) (AV.les.cons (AV.le.refl _) (AV.les.cons (AV.le.rs hk0) AV.les.nil)))))) (AV.les.cons (AV.le.agg (AV.les.cons (AV.le.refl _) (AV.les.cons (AV.le.refl _) (AV.les.cons (AV.le.refl _) (AV.les.cons (AV.le.refl _) (AV.les.cons (AV.le.rs hk1) AV.les.nil)))))) AV.les.nil)) _ _ hv : VRs E.bare (as_eg cm ge gg gm (nOf sn0 sc0) (colI sc0 0) (colI sc0 1) gb g8 g9 ie (nOf sn1 sc1) (colI sc1 0) (colI sc1 1)) vs)
 · cases h
def G_ad : List (Nat × Ag.Spec) := []
def as_ad (gw : Nat) (gk gn : Nat -> Int) : List AV := [AV.agg [AV.rs none gw [CF.I .i64 gk, CF.I .i64 gn]]]
theorem N_ad (gw : Nat) (gk gn : Nat -> Int) (K : AV -> Prop) : vwp tab (envL G_ad) (fun _ _ _ => False) 0 (bodyOf Tryz.f151) (entry (as_ad gw gk gn) 4) (fnPost tab [.tmp 2] fun v s => K (v.frz s.mem)) = B_ad gw gk gn (fun r0 r1 r2 => K (AV.fn 225 [AV.rp [AV.rs none r0 [CF.I .i64 r1, CF.I .i64 r2]] 0]))  := by kernel_rfl
def g_ad : List AV -> Option (Prop × RT)
  | [AV.agg [AV.rs sq0 sn0 sc0]] => cond (kindsOK [KC.I .i64, KC.I .i64] sc0) (some (P_ad (nOf sn0 sc0) (colI sc0 0) (colI sc0 1), RT.leaf (AV.fn 225 [AV.rp [AV.rs none (F_ad_0 (nOf sn0 sc0) (colI sc0 0) (colI sc0 1)) [CF.I .i64 (F_ay (nOf sn0 sc0) (colI sc0 0) (colI sc0 1)), CF.I .i64 (F_ad_2 (nOf sn0 sc0) (colI sc0 0) (colI sc0 1))]] 0]))) none
  | _ => none
theorem S_ad : SpecOK Tryz.prog 151 (.pure g_ad) := by
 intro xs p r h hp E w vs hr hv; unfold g_ad at h; split at h
 · rename_i sq0 sn0 sc0
   obtain ⟨hk0, h⟩ := cond_some h
   obtain ⟨rfl, rfl⟩ := some_pair h
   exact walk0 (ys := as_ad (nOf sn0 sc0) (colI sc0 0) (colI sc0 1)) (rs := [.tmp 2]) tab_ok (show SpecsOK Tryz.prog G_ad from trivial) Tryz.func151 rfl (by kernel_rfl) rfl (by decide) Tryz.ntmps151 (N_ad (nOf sn0 sc0) (colI sc0 0) (colI sc0 1)) (H_ad (nOf sn0 sc0) (colI sc0 0) (colI sc0 1) hp rfl) E w vs hr ((AV.les.cons (AV.le.agg (AV.les.cons (AV.le.rs hk0) AV.les.nil)) AV.les.nil) _ _ hv : VRs E.bare (as_ad (nOf sn0 sc0) (colI sc0 0) (colI sc0 1)) vs)
 · cases h
def G_an : List (Nat × Ag.Spec) := [(105, .pure g_bq), (127, .pure g_e8), (151, .pure g_ad)]
def S_an_0_0 (gp : Nat) (cm ga : Nat -> Int) (j0 : Nat) (ip jj : Int) : VS := ⟨slotsN 50 0 [(1, AV.ptr false 0 0 0), (2, AV.ptr false 1 0 0), (3, AV.ptr false 2 0 0), (4, AV.ptr false 3 0 0), (5, AV.ptr false 4 0 0), (18, AV.fn 225 [AV.rp [AV.rs none (F_ad_0 gp cm ga) [CF.I .i64 (F_ay gp cm ga), CF.I .i64 (F_ad_2 gp cm ga)]] 0]), (19, AV.agg [AV.int .i64 ((F_ay gp cm ga) j0), AV.int .i64 ((F_ad_2 gp cm ga) j0)]), (20, AV.agg [AV.int .i64 ((F_ay gp cm ga) (nxE (F_ad_0 gp cm ga) j0)), AV.int .i64 ((F_ad_2 gp cm ga) (nxE (F_ad_0 gp cm ga) j0))]), (21, AV.rs none gp [CF.I .i64 cm, CF.I .i64 ga]), (22, AV.int .i64 ((gp : Nat) : Int)), (23, AV.int .i64 jj)], [.one true 33 [AV.rs none gp [CF.I .i64 cm, CF.I .i64 ga]], .one true 4 [AV.bool false], .one true 3 [AV.int .i64 ip], .one true 32 [AV.int .i64 ((F_ay gp cm ga) j0), AV.int .i64 ((F_ad_2 gp cm ga) j0)], .one true 32 [AV.int .i64 ((F_ay gp cm ga) (nxE (F_ad_0 gp cm ga) j0)), AV.int .i64 ((F_ad_2 gp cm ga) (nxE (F_ad_0 gp cm ga) j0))]], false, 3⟩
def X_an_0_0_exit2 (gp : Nat) (cm ga : Nat -> Int) (j0 : Nat) (ip o0 : Int) : VS := ⟨slotsN 50 0 [(1, AV.ptr false 0 0 0), (2, AV.ptr false 1 0 0), (3, AV.ptr false 2 0 0), (4, AV.ptr false 3 0 0), (5, AV.ptr false 4 0 0), (18, AV.fn 225 [AV.rp [AV.rs none (F_ad_0 gp cm ga) [CF.I .i64 (F_ay gp cm ga), CF.I .i64 (F_ad_2 gp cm ga)]] 0]), (19, AV.agg [AV.int .i64 ((F_ay gp cm ga) j0), AV.int .i64 ((F_ad_2 gp cm ga) j0)]), (20, AV.agg [AV.int .i64 ((F_ay gp cm ga) (nxE (F_ad_0 gp cm ga) j0)), AV.int .i64 ((F_ad_2 gp cm ga) (nxE (F_ad_0 gp cm ga) j0))]), (21, AV.rs none gp [CF.I .i64 cm, CF.I .i64 ga]), (22, AV.int .i64 ((gp : Nat) : Int)), (23, AV.int .i64 o0)], [.one true 33 [AV.rs none gp [CF.I .i64 cm, CF.I .i64 ga]], .one true 4 [AV.bool false], .one true 3 [AV.int .i64 ip], .one true 32 [AV.int .i64 ((F_ay gp cm ga) j0), AV.int .i64 ((F_ad_2 gp cm ga) j0)], .one true 32 [AV.int .i64 ((F_ay gp cm ga) (nxE (F_ad_0 gp cm ga) j0)), AV.int .i64 ((F_ad_2 gp cm ga) (nxE (F_ad_0 gp cm ga) j0))]], false, 3⟩
def X_an_0_0_ret (gp : Nat) (cm ga : Nat -> Int) (j0 : Nat) (ip o0 : Int) : VS := ⟨slotsN 50 0 [(1, AV.ptr false 0 0 0), (2, AV.ptr false 1 0 0), (3, AV.ptr false 2 0 0), (4, AV.ptr false 3 0 0), (5, AV.ptr false 4 0 0), (18, AV.fn 225 [AV.rp [AV.rs none (F_ad_0 gp cm ga) [CF.I .i64 (F_ay gp cm ga), CF.I .i64 (F_ad_2 gp cm ga)]] 0]), (19, AV.agg [AV.int .i64 ((F_ay gp cm ga) j0), AV.int .i64 ((F_ad_2 gp cm ga) j0)]), (20, AV.agg [AV.int .i64 ((F_ay gp cm ga) (nxE (F_ad_0 gp cm ga) j0)), AV.int .i64 ((F_ad_2 gp cm ga) (nxE (F_ad_0 gp cm ga) j0))]), (21, AV.rs none gp [CF.I .i64 cm, CF.I .i64 ga]), (22, AV.int .i64 ((gp : Nat) : Int)), (23, AV.int .i64 o0)], [.one true 33 [AV.rs none gp [CF.I .i64 cm, CF.I .i64 ga]], .one true 4 [AV.bool false], .one true 3 [AV.int .i64 ip], .one true 32 [AV.int .i64 ((F_ay gp cm ga) j0), AV.int .i64 ((F_ad_2 gp cm ga) j0)], .one true 32 [AV.int .i64 ((F_ay gp cm ga) (nxE (F_ad_0 gp cm ga) j0)), AV.int .i64 ((F_ad_2 gp cm ga) (nxE (F_ad_0 gp cm ga) j0))]], false, 3⟩
theorem N_an_0_0 (gp : Nat) (cm ga : Nat -> Int) (j0 : Nat) (ip jj : Int) (Q : Exit -> VS -> Prop) : vwp tab (envL G_an) (fun _ _ _ => False) 0 (lbody (loopAt ((lbody (loopAt (bodyOf Tryz.f69) 0))) 0)) (S_an_0_0 gp cm ga j0 ip jj) (QM [1, 2, 3, 4, 5, 18, 19, 20, 21, 22, 23] [0, 1, 2, 3, 4] 5 Q) = B_an_0_0 gp cm ga j0 ip jj (fun w0 => Q .normal (S_an_0_0 gp cm ga j0 ip w0)) (fun o0 => Q (.exit 2) (X_an_0_0_exit2 gp cm ga j0 ip o0)) (fun o0 => Q .ret (X_an_0_0_ret gp cm ga j0 ip o0))  := by kernel_rfl
theorem L_an_0_0 {X : Cx} (hX : Std Tryz.prog tab (envL G_an) X) (b : Code) (hb : b = (lbody (loopAt (bodyOf Tryz.f69) 0))) (gp : Nat) (cm ga : Nat -> Int) (j0 : Nat) (ip : Int) (fu : Nat) (jj : Int) (Q : Exit -> VS -> Prop) (h : W_an_0_0 gp cm ga j0 ip fu jj (fun o0 => Q (.exit 2) (X_an_0_0_exit2 gp cm ga j0 ip o0)) (fun o0 => Q .ret (X_an_0_0_ret gp cm ga j0 ip o0))) : TrK X b 0 (S_an_0_0 gp cm ga j0 ip jj) Q := by
  subst hb
  refine loop_ok (V := Int) (fun v => S_an_0_0 gp cm ga j0 ip v) (fun f v => W_an_0_0 gp cm ga j0 ip f v (fun o0 => Q (.exit 2) (X_an_0_0_exit2 gp cm ga j0 ip o0)) (fun o0 => Q .ret (X_an_0_0_ret gp cm ga j0 ip o0))) (fun _ h => h) (by kernel_rfl) (fun f v hv => ?_) (fuel := fu) (v0 := (jj)) h
  refine QM_ok (bs := [1, 2, 3, 4, 5, 18, 19, 20, 21, 22, 23]) (ms := [0, 1, 2, 3, 4]) (nm := 5) ?_
  refine vwp_std hX rfl (tr := (fun _ _ _ => False)) (fun _ _ _ h => h.elim) ?_
  refine Eq.mpr (N_an_0_0 gp cm ga j0 ip v _) ?_
  exact BM_an_0_0 gp cm ga j0 ip v (fun w0 h => ⟨w0, rfl, h⟩) (fun _ h => h) (fun _ h => h) hv
def S_an_0 (gp : Nat) (cm ga : Nat -> Int) (ip : Int) : VS := ⟨slotsN 50 0 [(1, AV.ptr false 0 0 0), (2, AV.ptr false 1 0 0), (3, AV.ptr false 2 0 0), (18, AV.fn 225 [AV.rp [AV.rs none (F_ad_0 gp cm ga) [CF.I .i64 (F_ay gp cm ga), CF.I .i64 (F_ad_2 gp cm ga)]] 0])], [.one true 33 [AV.rs none gp [CF.I .i64 cm, CF.I .i64 ga]], .one true 4 [AV.bool false], .one true 3 [AV.int .i64 ip]], false, 0⟩
def X_an_0_normal (gp : Nat) (cm ga : Nat -> Int) (o0 : Int) : VS := ⟨slotsN 50 0 [(1, AV.ptr false 0 0 0), (2, AV.ptr false 1 0 0), (3, AV.ptr false 2 0 0), (18, AV.fn 225 [AV.rp [AV.rs none (F_ad_0 gp cm ga) [CF.I .i64 (F_ay gp cm ga), CF.I .i64 (F_ad_2 gp cm ga)]] 0])], [.one true 33 [AV.rs none gp [CF.I .i64 cm, CF.I .i64 ga]], .one true 4 [AV.bool false], .one true 3 [AV.int .i64 o0]], true, 0⟩
def X_an_0_ret (gp : Nat) (cm ga : Nat -> Int) (o0 : Int) : VS := ⟨slotsN 50 0 [(1, AV.ptr false 0 0 0), (2, AV.ptr false 1 0 0), (3, AV.ptr false 2 0 0), (18, AV.fn 225 [AV.rp [AV.rs none (F_ad_0 gp cm ga) [CF.I .i64 (F_ay gp cm ga), CF.I .i64 (F_ad_2 gp cm ga)]] 0])], [.one true 33 [AV.rs none gp [CF.I .i64 cm, CF.I .i64 ga]], .one true 4 [AV.bool false], .one true 3 [AV.int .i64 o0]], true, 0⟩
def T_an_0 (gp : Nat) (cm ga : Nat -> Int) (j0 : Nat) (ip : Int) (k : Nat) (st : VS) (Q : Exit -> VS -> Prop) : Prop := match k with
  | 0 => TL [1, 2, 3, 4, 5, 18, 19, 20, 21, 22, 23] [0, 1, 2, 3, 4] 5 (convs st []) (fun st => S_an_0_0 gp cm ga j0 ip (intOf (tAt st 23))) (fun st => W_an_0_0 gp cm ga j0 ip fuel (intOf (tAt st 23)) (fun o0 => Q (.exit 2) (X_an_0_0_exit2 gp cm ga j0 ip o0)) (fun o0 => Q .ret (X_an_0_0_ret gp cm ga j0 ip o0)))
  | _ => False
theorem N_an_0 (gp : Nat) (cm ga : Nat -> Int) (j0 : Nat) (ip : Int) (Qn : VS -> Prop) (Q : Exit -> VS -> Prop) : vwp tab (envL G_an) (fun _ _ _ => False) 0 (lasn (loopAt (bodyOf Tryz.f69) 0)) (⟨setPs [19, 20] [AV.agg [AV.int .i64 ((F_ay gp cm ga) j0), AV.int .i64 ((F_ad_2 gp cm ga) j0)], AV.agg [AV.int .i64 ((F_ay gp cm ga) (nxE (F_ad_0 gp cm ga) j0)), AV.int .i64 ((F_ad_2 gp cm ga) (nxE (F_ad_0 gp cm ga) j0))]] (S_an_0 gp cm ga ip).tmps, (S_an_0 gp cm ga ip).mem, false, 3⟩) (eNorm fun s1 => vwp tab (envL G_an) (T_an_0 gp cm ga j0 ip) 0 (lbody (loopAt (bodyOf Tryz.f69) 0)) s1 (RP (S_an_0 gp cm ga ip).tmps 0 [0, 1, 2] 3 Qn Q)) = B_an_0 gp cm ga j0 ip (fun w0 => Qn (S_an_0 gp cm ga w0)) (fun o0 => Q .ret (X_an_0_ret gp cm ga o0)) (fun p0 y0 y1 => S_an_0_0 gp cm ga j0 ip p0 = S_an_0_0 gp cm ga j0 ip p0 /\ W_an_0_0 gp cm ga j0 ip fuel p0 y0 y1) := by kernel_rfl
theorem BL_an_0 (gp : Nat) (cm ga : Nat -> Int) (j0 : Nat) (ip : Int) {c c' : Int -> Prop} {x0 y0 : Int -> Prop} (hc : ∀ w0, c w0 -> c' w0) (h0 : ∀ o0, x0 o0 -> y0 o0) : B_an_0 gp cm ga j0 ip c x0 (W_an_0_0 gp cm ga j0 ip fuel) -> B_an_0 gp cm ga j0 ip c' y0 (fun p0 y0 y1 => S_an_0_0 gp cm ga j0 ip p0 = S_an_0_0 gp cm ga j0 ip p0 /\ W_an_0_0 gp cm ga j0 ip fuel p0 y0 y1) := by
  unfold B_an_0
  repeat' first
    | exact hc _
    | exact h0 _
    | refine Ts_imp ?_
    | refine cond_imp ?_ ?_
    | refine and_imp' ?_
    | refine fun h => ⟨rfl, WM_an_0_0 _ _ _ _ _  (fun _ => ?_) (fun _ => ?_) _ _  h⟩
theorem TS_an_0 {X : Cx} (hX : Std Tryz.prog tab (envL G_an) X) (b : Code) (hb : b = (lbody (loopAt (bodyOf Tryz.f69) 0))) (gp : Nat) (cm ga : Nat -> Int) (j0 : Nat) (ip : Int) (j : Nat) (st : VS) (Q : Exit -> VS -> Prop) (h : T_an_0 gp cm ga j0 ip j st Q) : TrK X b j st Q := by
  unfold T_an_0 at h
  split at h
  · exact TL_ok h (fun h' => L_an_0_0 hX b hb gp cm ga j0 ip _ _ Q h')
  · exact h.elim
theorem L_an_0 {X : Cx} (hX : Std Tryz.prog tab (envL G_an) X) (hrho : X.ρ = none) (b : Code) (hb : b = bodyOf Tryz.f69) (gp : Nat) (cm ga : Nat -> Int) (ip : Int) (Q : Exit -> VS -> Prop) (h : PP_an_0 gp cm ga /\ W_an_0 gp cm ga (NN_an_0 gp cm ga) 0 ip (fun o0 => Q .normal (X_an_0_normal gp cm ga o0)) (fun o0 => Q .ret (X_an_0_ret gp cm ga o0))) : TrK X b 0 (S_an_0 gp cm ga ip) Q := by
  subst hb
  have hit : IterSpec X.P 225 gi_edges := by rw [hX.P]; exact iter_edges
  have hb2 : loopAt (bodyOf Tryz.f69) 0 = .rangeFunc (.tmp 18) #[19, 20] (lasn (loopAt (bodyOf Tryz.f69) 0)) (lbody (loopAt (bodyOf Tryz.f69) 0)) := by kernel_rfl
  refine rf_ok hrho hb2 (V := Int) (fun v => S_an_0 gp cm ga v) (t := (S_an_0 gp cm ga ip).tmps) (pn := 0) (nm := 3) (ms := [0, 1, 2]) (fun v => ⟨rfl, rfl, rfl, rfl⟩) hit (ip) rfl rfl (N := NN_an_0 gp cm ga) (args := fun j0 => [AV.agg [AV.int .i64 ((F_ay gp cm ga) j0), AV.int .i64 ((F_ad_2 gp cm ga) j0)], AV.agg [AV.int .i64 ((F_ay gp cm ga) (nxE (F_ad_0 gp cm ga) j0)), AV.int .i64 ((F_ad_2 gp cm ga) (nxE (F_ad_0 gp cm ga) j0))]]) (p := PP_an_0 gp cm ga) rfl h.1 (fun _ => rfl) (fun r j v => W_an_0 gp cm ga r j v (fun o0 => Q .normal (X_an_0_normal gp cm ga o0)) (fun o0 => Q .ret (X_an_0_ret gp cm ga o0))) (fun r j v hv => ?_) (fun j v hv => ?_) h.2
  · refine rf_round hX (c1 := (lasn (loopAt (bodyOf Tryz.f69) 0))) (c2 := (lbody (loopAt (bodyOf Tryz.f69) 0))) rfl rfl (tr := T_an_0 gp cm ga j v) (fun X' hX' j' st Q h => TS_an_0 hX' _ rfl gp cm ga j v j' st Q h) ?_
    refine Eq.mpr (N_an_0 gp cm ga j v _ _) ?_
    exact BL_an_0 gp cm ga j v (fun w0 h => ⟨w0, rfl, h⟩) (fun _ h => h) hv
  · exact hv
def T_an (gp : Nat) (cm ga : Nat -> Int) (k : Nat) (st : VS) (Q : Exit -> VS -> Prop) : Prop := match k with
  | 0 => TL [1, 2, 3, 18] [0, 1, 2] 3 (convs st []) (fun st => S_an_0 gp cm ga (intOf (mAt st 2 0))) (fun st => PP_an_0 gp cm ga  /\ W_an_0 gp cm ga  (NN_an_0 gp cm ga ) 0 (intOf (mAt st 2 0)) (fun o0 => Q .normal (X_an_0_normal gp cm ga  o0)) (fun o0 => Q .ret (X_an_0_ret gp cm ga  o0)))
  | _ => False
theorem TS_an {X : Cx} (hX : Std Tryz.prog tab (envL G_an) X) (hrho : X.ρ = none) (b : Code) (hb : b = bodyOf Tryz.f69) (gp : Nat) (cm ga : Nat -> Int) (j : Nat) (st : VS) (Q : Exit -> VS -> Prop) (h : T_an gp cm ga j st Q) : TrK X b j st Q := by
  unfold T_an at h
  split at h
  · exact TL_ok h (fun h' => L_an_0 hX hrho b hb gp cm ga _ Q h')
  · exact h.elim
def as_an (gp : Nat) (cm ga : Nat -> Int) : List AV := [AV.rs none gp [CF.I .i64 cm, CF.I .i64 ga]]
theorem N_an (gp : Nat) (cm ga : Nat -> Int) (K : AV -> Prop) : vwp tab (envL G_an) (T_an gp cm ga) 0 (bodyOf Tryz.f69) (entry (as_an gp cm ga) 50) (fnPost tab [.cell 2 4] fun v s => K (v.frz s.mem)) = B_an gp cm ga (fun r0 => K (AV.bool r0)) (fun p0 y0 y1 => S_an_0 gp cm ga  p0 = S_an_0 gp cm ga  p0 /\ PP_an_0 gp cm ga  /\ W_an_0 gp cm ga  (NN_an_0 gp cm ga ) 0 p0 y0 y1) := by kernel_rfl
theorem BL_an (gp : Nat) (cm ga : Nat -> Int) {K0 : Bool -> Prop} : B_an gp cm ga K0 (fun p0 y0 y1 => PP_an_0 gp cm ga  /\ W_an_0 gp cm ga  (NN_an_0 gp cm ga ) 0 p0 y0 y1) -> B_an gp cm ga K0 (fun p0 y0 y1 => S_an_0 gp cm ga  p0 = S_an_0 gp cm ga  p0 /\ PP_an_0 gp cm ga  /\ W_an_0 gp cm ga  (NN_an_0 gp cm ga ) 0 p0 y0 y1) := by
  unfold B_an
  repeat' first
    | exact id
    | refine Ts_imp ?_
    | refine cond_imp ?_ ?_
    | refine and_imp' ?_
    | refine fun h => ⟨rfl, h.1, WM_an_0 _ _ _  (fun _ => ?_) (fun _ => ?_) _ _ _  h.2⟩
def g_an : List AV -> Option (Prop × RT)
  | [AV.rs sq0 sn0 sc0] => cond (kindsOK [KC.I .i64, KC.I .i64] sc0) (some (P_an (nOf sn0 sc0) (colI sc0 0) (colI sc0 1), RT.leaf (AV.bool (F_an_0 (nOf sn0 sc0) (colI sc0 0) (colI sc0 1))))) none
  | _ => none
theorem S_an : SpecOK Tryz.prog 69 (.pure g_an) := by
 intro xs p r h hp E w vs hr hv; unfold g_an at h; split at h
 · rename_i sq0 sn0 sc0
   obtain ⟨hk0, h⟩ := cond_some h
   obtain ⟨rfl, rfl⟩ := some_pair h
   have hG := (show SpecsOK Tryz.prog G_an from ⟨S_bq, S_e8, S_ad, trivial⟩)
   have hv' := ((AV.les.cons (AV.le.rs hk0) AV.les.nil) _ _ hv : VRs E.bare (as_an (nOf sn0 sc0) (colI sc0 0) (colI sc0 1)) vs)
   refine walk_pure' (c := bodyOf Tryz.f69) (rs := [.cell 2 4]) (ys := as_an (nOf sn0 sc0) (colI sc0 0) (colI sc0 1)) tab_ok (envL_ok hG) Tryz.func69 rfl (by kernel_rfl) rfl (by decide) (fun X hX hrho => ?_) E w vs hr hv'
   rw [Tryz.ntmps69]
   refine vwp_std hX rfl (tr := T_an (nOf sn0 sc0) (colI sc0 0) (colI sc0 1)) (fun j st Q h => TS_an hX hrho _ rfl (nOf sn0 sc0) (colI sc0 0) (colI sc0 1) j st Q h) (Eq.mpr (N_an (nOf sn0 sc0) (colI sc0 0) (colI sc0 1) (fun x => x = _)) ?_)
   exact BL_an (nOf sn0 sc0) (colI sc0 0) (colI sc0 1) (H_an (nOf sn0 sc0) (colI sc0 0) (colI sc0 1) hp rfl)
 · cases h
def G_dl : List (Nat × Ag.Spec) := []
def as_dl (cm ga a1 : Int) : List AV := [AV.agg [AV.int .i64 cm, AV.int .i64 ga], AV.int .i64 a1]
theorem N_dl (cm ga a1 : Int) (K : AV -> Prop) : vwp tab (envL G_dl) (fun _ _ _ => False) 0 (bodyOf Tryz.f106) (entry (as_dl cm ga a1) 22) (fnPost tab [.cell 4 45] fun v s => K (v.frz s.mem)) = B_dl cm ga a1 (fun r0 r1 r2 r3 => K (AV.agg [AV.int .i64 r0, AV.int .i64 r1, AV.int .i64 r2, AV.int .i64 r3]))  := by kernel_rfl
def g_dl : List AV -> Option (Prop × RT)
  | [AV.agg [AV.int .i64 cm, AV.int .i64 ga], AV.int .i64 a1] => some (P_dl cm ga a1, RT.leaf (AV.agg [AV.int .i64 (F_dl_0 cm ga a1), AV.int .i64 (F_dl_1 cm ga a1), AV.int .i64 (F_dl_2 cm ga a1), AV.int .i64 (F_dl_3 cm ga a1)]))
  | _ => none
theorem S_dl : SpecOK Tryz.prog 106 (.pure g_dl) := by
 intro xs p r h hp E w vs hr hv; unfold g_dl at h; split at h
 · rename_i cm ga a1
   obtain ⟨rfl, rfl⟩ := some_pair h
   exact walk0 (ys := as_dl cm ga a1) (rs := [.cell 4 45]) tab_ok (show SpecsOK Tryz.prog G_dl from trivial) Tryz.func106 rfl (by kernel_rfl) rfl (by decide) Tryz.ntmps106 (N_dl cm ga a1) (H_dl cm ga a1 hp rfl) E w vs hr hv
 · cases h
def G_ci : List (Nat × Ag.Spec) := [(47, .pure g_cw), (69, .pure g_an), (105, .pure g_bq), (106, .pure g_dl)]
def as_ci (cm ge gg gm : Int) (gq : Nat) (gu gv : Nat -> Int) : List AV := [AV.agg [AV.int .i64 cm, AV.int .i64 ge, AV.int .i64 gg, AV.int .i64 gm, AV.rs none gq [CF.I .i64 gu, CF.I .i64 gv]]]
theorem N_ci (cm ge gg gm : Int) (gq : Nat) (gu gv : Nat -> Int) (K : AV -> Prop) : vwp tab (envL G_ci) (fun _ _ _ => False) 0 (bodyOf Tryz.f37) (entry (as_ci cm ge gg gm gq gu gv) 81) (fnPost tab [.tmp 2] fun v s => K (v.frz s.mem)) = B_ci cm ge gg gm gq gu gv (fun r0 => K (AV.int .i64 r0))  := by kernel_rfl
def g_ci : List AV -> Option (Prop × RT)
  | [AV.agg [AV.int .i64 cm, AV.int .i64 ge, AV.int .i64 gg, AV.int .i64 gm, AV.rs sq0 sn0 sc0]] => cond (kindsOK [KC.I .i64, KC.I .i64] sc0) (some (P_ci cm ge gg gm (nOf sn0 sc0) (colI sc0 0) (colI sc0 1), RT.leaf (AV.int .i64 (F_ci_0 cm ge gg gm (nOf sn0 sc0) (colI sc0 0) (colI sc0 1))))) none
  | _ => none
theorem S_ci : SpecOK Tryz.prog 37 (.pure g_ci) := by
 intro xs p r h hp E w vs hr hv; unfold g_ci at h; split at h
 · rename_i cm ge gg gm sq0 sn0 sc0
   obtain ⟨hk0, h⟩ := cond_some h
   obtain ⟨rfl, rfl⟩ := some_pair h
   exact walk0 (ys := as_ci cm ge gg gm (nOf sn0 sc0) (colI sc0 0) (colI sc0 1)) (rs := [.tmp 2]) tab_ok (show SpecsOK Tryz.prog G_ci from ⟨S_cw, S_an, S_bq, S_dl, trivial⟩) Tryz.func37 rfl (by kernel_rfl) rfl (by decide) Tryz.ntmps37 (N_ci cm ge gg gm (nOf sn0 sc0) (colI sc0 0) (colI sc0 1)) (H_ci cm ge gg gm (nOf sn0 sc0) (colI sc0 0) (colI sc0 1) hp rfl) E w vs hr ((AV.les.cons (AV.le.agg (AV.les.cons (AV.le.refl _) (AV.les.cons (AV.le.refl _) (AV.les.cons (AV.le.refl _) (AV.les.cons (AV.le.refl _) (AV.les.cons (AV.le.rs hk0) AV.les.nil)))))) AV.les.nil) _ _ hv : VRs E.bare (as_ci cm ge gg gm (nOf sn0 sc0) (colI sc0 0) (colI sc0 1)) vs)
 · cases h
def G_ar : List (Nat × Ag.Spec) := [(37, .pure g_ci)]
def as_ar (cm ge gg gm : Int) (gq : Nat) (gu gv : Nat -> Int) : List AV := [AV.agg [AV.int .i64 cm, AV.int .i64 ge, AV.int .i64 gg, AV.int .i64 gm, AV.rs none gq [CF.I .i64 gu, CF.I .i64 gv]]]
theorem N_ar (cm ge gg gm : Int) (gq : Nat) (gu gv : Nat -> Int) (K : AV -> Prop) : vwp tab (envL G_ar) (fun _ _ _ => False) 0 (bodyOf Tryz.f74) (entry (as_ar cm ge gg gm gq gu gv) 19) (fnPost tab [.tmp 2] fun v s => K (v.frz s.mem)) = B_ar cm ge gg gm gq gu gv (K (AV.nili)) (fun r0 r1 r2 => K (AV.ifc 169 (AV.agg [AV.int .i64 r0, AV.int .i64 r1, AV.int .i64 r2]))) (fun r0 r1 r2 => K (AV.ifc 174 (AV.agg [AV.rs none r0 [CF.I .i64 r1, CF.I .i64 r2]])))  := by kernel_rfl
def g_ar : List AV -> Option (Prop × RT)
  | [AV.agg [AV.int .i64 cm, AV.int .i64 ge, AV.int .i64 gg, AV.int .i64 gm, AV.rs sq0 sn0 sc0]] => cond (kindsOK [KC.I .i64, KC.I .i64] sc0) (some (P_ar cm ge gg gm (nOf sn0 sc0) (colI sc0 0) (colI sc0 1), RT.cond (C_ar_0 cm ge gg gm (nOf sn0 sc0) (colI sc0 0) (colI sc0 1)) (RT.leaf (AV.nili)) (RT.cond (C_ar_1 cm ge gg gm (nOf sn0 sc0) (colI sc0 0) (colI sc0 1)) (RT.leaf (AV.ifc 169 (AV.agg [AV.int .i64 (F_ar_1_0 cm ge gg gm (nOf sn0 sc0) (colI sc0 0) (colI sc0 1)), AV.int .i64 (F_ar_1_1 cm ge gg gm (nOf sn0 sc0) (colI sc0 0) (colI sc0 1)), AV.int .i64 (F_ar_1_2 cm ge gg gm (nOf sn0 sc0) (colI sc0 0) (colI sc0 1))]))) (RT.leaf (AV.ifc 174 (AV.agg [AV.rs none (F_ar_2_0 cm ge gg gm (nOf sn0 sc0) (colI sc0 0) (colI sc0 1)) [CF.I .i64 (F_ar_2_1 cm ge gg gm (nOf sn0 sc0) (colI sc0 0) (colI sc0 1)), CF.I .i64 (F_ar_2_2 cm ge gg gm (nOf sn0 sc0) (colI sc0 0) (colI sc0 1))]])))))) none
  | _ => none
theorem S_ar : SpecOK Tryz.prog 74 (.pure g_ar) := by
 intro xs p r h hp E w vs hr hv; unfold g_ar at h; split at h
 · rename_i cm ge gg gm sq0 sn0 sc0
   obtain ⟨hk0, h⟩ := cond_some h
   obtain ⟨rfl, rfl⟩ := some_pair h
   have hG := (show SpecsOK Tryz.prog G_ar from ⟨S_ci, trivial⟩)
   have hv' := ((AV.les.cons (AV.le.agg (AV.les.cons (AV.le.refl _) (AV.les.cons (AV.le.refl _) (AV.les.cons (AV.le.refl _) (AV.les.cons (AV.le.refl _) (AV.les.cons (AV.le.rs hk0) AV.les.nil)))))) AV.les.nil) _ _ hv : VRs E.bare (as_ar cm ge gg gm (nOf sn0 sc0) (colI sc0 0) (colI sc0 1)) vs)
   refine walk_pure' (c := bodyOf Tryz.f74) (rs := [.tmp 2]) (ys := as_ar cm ge gg gm (nOf sn0 sc0) (colI sc0 0) (colI sc0 1)) tab_ok (envL_ok hG) Tryz.func74 rfl (by kernel_rfl) rfl (by decide) (fun X hX hrho => ?_) E w vs hr hv'
   rw [Tryz.ntmps74]
   refine vwp_std hX rfl (tr := fun _ _ _ => False) (fun _ _ _ h => h.elim) (Eq.mpr (N_ar cm ge gg gm (nOf sn0 sc0) (colI sc0 0) (colI sc0 1) (fun x => x = _)) ?_)
   refine H_ar cm ge gg gm (nOf sn0 sc0) (colI sc0 0) (colI sc0 1) hp ?_
   simp only [RT.val]
   cases C_ar_0 cm ge gg gm (nOf sn0 sc0) (colI sc0 0) (colI sc0 1)
   rotate_left
   · rfl
   cases C_ar_1 cm ge gg gm (nOf sn0 sc0) (colI sc0 0) (colI sc0 1)
   rotate_left
   · rfl
   rfl
 · cases h
def G_ap : List (Nat × Ag.Spec) := [(127, .pure g_e8), (151, .pure g_ad)]
def S_ap_0 (gw : Nat) (gk gn : Nat -> Int) (gb gd : Int)  : VS := ⟨slotsN 16 0 [(3, AV.ptr false 1 0 0), (4, AV.ptr false 2 0 0), (8, AV.fn 225 [AV.rp [AV.rs none (F_ad_0 gw gk gn) [CF.I .i64 (F_ay gw gk gn), CF.I .i64 (F_ad_2 gw gk gn)]] 0])], [.gone, .one true 32 [AV.int .i64 gb, AV.int .i64 gd], .one true 4 [AV.bool false]], false, 0⟩
def X_ap_0_normal (gw : Nat) (gk gn : Nat -> Int) (gb gd : Int)  : VS := ⟨slotsN 16 0 [(3, AV.ptr false 1 0 0), (4, AV.ptr false 2 0 0), (8, AV.fn 225 [AV.rp [AV.rs none (F_ad_0 gw gk gn) [CF.I .i64 (F_ay gw gk gn), CF.I .i64 (F_ad_2 gw gk gn)]] 0])], [.gone, .one true 32 [AV.int .i64 gb, AV.int .i64 gd], .one true 4 [AV.bool false]], true, 0⟩
def X_ap_0_ret (gw : Nat) (gk gn : Nat -> Int) (gb gd : Int)  : VS := ⟨slotsN 16 0 [(3, AV.ptr false 1 0 0), (4, AV.ptr false 2 0 0), (8, AV.fn 225 [AV.rp [AV.rs none (F_ad_0 gw gk gn) [CF.I .i64 (F_ay gw gk gn), CF.I .i64 (F_ad_2 gw gk gn)]] 0])], [.gone, .one true 32 [AV.int .i64 gb, AV.int .i64 gd], .one true 4 [AV.bool false]], true, 0⟩
theorem N_ap_0 (gw : Nat) (gk gn : Nat -> Int) (gb gd : Int) (j0 : Nat)  (Qn : VS -> Prop) (Q : Exit -> VS -> Prop) : vwp tab (envL G_ap) (fun _ _ _ => False) 0 (lasn (loopAt (bodyOf Tryz.f162) 0)) (⟨setPs [9, 10] [AV.agg [AV.int .i64 ((F_ay gw gk gn) j0), AV.int .i64 ((F_ad_2 gw gk gn) j0)], AV.agg [AV.int .i64 ((F_ay gw gk gn) (nxE (F_ad_0 gw gk gn) j0)), AV.int .i64 ((F_ad_2 gw gk gn) (nxE (F_ad_0 gw gk gn) j0))]] (S_ap_0 gw gk gn gb gd ).tmps, (S_ap_0 gw gk gn gb gd ).mem, false, 3⟩) (eNorm fun s1 => vwp tab (envL G_ap) (fun _ _ _ => False) 0 (lbody (loopAt (bodyOf Tryz.f162) 0)) s1 (RP (S_ap_0 gw gk gn gb gd ).tmps 0 [1, 2] 3 Qn Q)) = B_ap_0 gw gk gn gb gd j0  (Qn (S_ap_0 gw gk gn gb gd )) (Q .ret (X_ap_0_ret gw gk gn gb gd ))  := by kernel_rfl
theorem L_ap_0 {X : Cx} (hX : Std Tryz.prog tab (envL G_ap) X) (hrho : X.ρ = none) (b : Code) (hb : b = bodyOf Tryz.f162) (gw : Nat) (gk gn : Nat -> Int) (gb gd : Int)  (Q : Exit -> VS -> Prop) (h : PP_ap_0 gw gk gn gb gd /\ W_ap_0 gw gk gn gb gd (NN_ap_0 gw gk gn gb gd) 0  (Q .normal (X_ap_0_normal gw gk gn gb gd )) (Q .ret (X_ap_0_ret gw gk gn gb gd ))) : TrK X b 0 (S_ap_0 gw gk gn gb gd ) Q := by
  subst hb
  have hit : IterSpec X.P 225 gi_edges := by rw [hX.P]; exact iter_edges
  have hb2 : loopAt (bodyOf Tryz.f162) 0 = .rangeFunc (.tmp 8) #[9, 10] (lasn (loopAt (bodyOf Tryz.f162) 0)) (lbody (loopAt (bodyOf Tryz.f162) 0)) := by kernel_rfl
  refine rf_ok hrho hb2 (V := Unit) (fun v => S_ap_0 gw gk gn gb gd ) (t := (S_ap_0 gw gk gn gb gd ).tmps) (pn := 0) (nm := 3) (ms := [1, 2]) (fun v => ⟨rfl, rfl, rfl, rfl⟩) hit () rfl rfl (N := NN_ap_0 gw gk gn gb gd) (args := fun j0 => [AV.agg [AV.int .i64 ((F_ay gw gk gn) j0), AV.int .i64 ((F_ad_2 gw gk gn) j0)], AV.agg [AV.int .i64 ((F_ay gw gk gn) (nxE (F_ad_0 gw gk gn) j0)), AV.int .i64 ((F_ad_2 gw gk gn) (nxE (F_ad_0 gw gk gn) j0))]]) (p := PP_ap_0 gw gk gn gb gd) rfl h.1 (fun _ => rfl) (fun r j v => W_ap_0 gw gk gn gb gd r j  (Q .normal (X_ap_0_normal gw gk gn gb gd )) (Q .ret (X_ap_0_ret gw gk gn gb gd ))) (fun r j v hv => ?_) (fun j v hv => ?_) h.2
  · refine rf_round hX (c1 := (lasn (loopAt (bodyOf Tryz.f162) 0))) (c2 := (lbody (loopAt (bodyOf Tryz.f162) 0))) rfl rfl (tr := (fun _ _ _ => False)) (fun _ _ _ _ _ h => h.elim) ?_
    refine Eq.mpr (N_ap_0 gw gk gn gb gd j  _ _) ?_
    exact BM_ap_0 gw gk gn gb gd j  (fun h => ⟨(), rfl, h⟩) (fun h => h) hv
  · exact hv
def T_ap (gw : Nat) (gk gn : Nat -> Int) (gb gd : Int) (k : Nat) (st : VS) (Q : Exit -> VS -> Prop) : Prop := match k with
  | 0 => TL [3, 4, 8] [1, 2] 3 (convs st []) (fun st => S_ap_0 gw gk gn gb gd ) (fun st => PP_ap_0 gw gk gn gb gd  /\ W_ap_0 gw gk gn gb gd  (NN_ap_0 gw gk gn gb gd ) 0  (Q .normal (X_ap_0_normal gw gk gn gb gd  )) (Q .ret (X_ap_0_ret gw gk gn gb gd  )))
  | _ => False
theorem TS_ap {X : Cx} (hX : Std Tryz.prog tab (envL G_ap) X) (hrho : X.ρ = none) (b : Code) (hb : b = bodyOf Tryz.f162) (gw : Nat) (gk gn : Nat -> Int) (gb gd : Int) (j : Nat) (st : VS) (Q : Exit -> VS -> Prop) (h : T_ap gw gk gn gb gd j st Q) : TrK X b j st Q := by
  unfold T_ap at h
  split at h
  · exact TL_ok h (fun h' => L_ap_0 hX hrho b hb gw gk gn gb gd  Q h')
  · exact h.elim
def as_ap (gw : Nat) (gk gn : Nat -> Int) (gb gd : Int) : List AV := [AV.agg [AV.rs none gw [CF.I .i64 gk, CF.I .i64 gn]], AV.agg [AV.int .i64 gb, AV.int .i64 gd]]
theorem N_ap (gw : Nat) (gk gn : Nat -> Int) (gb gd : Int) (K : AV -> Prop) : vwp tab (envL G_ap) (T_ap gw gk gn gb gd) 0 (bodyOf Tryz.f162) (entry (as_ap gw gk gn gb gd) 16) (fnPost tab [.cell 4 4] fun v s => K (v.frz s.mem)) = B_ap gw gk gn gb gd (fun r0 => K (AV.bool r0)) (fun y0 y1 => S_ap_0 gw gk gn gb gd   = S_ap_0 gw gk gn gb gd   /\ PP_ap_0 gw gk gn gb gd  /\ W_ap_0 gw gk gn gb gd  (NN_ap_0 gw gk gn gb gd ) 0  y0 y1) := by kernel_rfl
theorem BL_ap (gw : Nat) (gk gn : Nat -> Int) (gb gd : Int) {K0 : Bool -> Prop} : B_ap gw gk gn gb gd K0 (fun y0 y1 => PP_ap_0 gw gk gn gb gd  /\ W_ap_0 gw gk gn gb gd  (NN_ap_0 gw gk gn gb gd ) 0  y0 y1) -> B_ap gw gk gn gb gd K0 (fun y0 y1 => S_ap_0 gw gk gn gb gd   = S_ap_0 gw gk gn gb gd   /\ PP_ap_0 gw gk gn gb gd  /\ W_ap_0 gw gk gn gb gd  (NN_ap_0 gw gk gn gb gd ) 0  y0 y1) := by
  unfold B_ap
  repeat' first
    | exact id
    | refine Ts_imp ?_
    | refine cond_imp ?_ ?_
    | refine and_imp' ?_
    | refine fun h => ⟨rfl, h.1, WM_ap_0 _ _ _ _ _  ?_ ?_ _ _  h.2⟩
def g_ap : List AV -> Option (Prop × RT)
  | [AV.agg [AV.rs sq0 sn0 sc0], AV.agg [AV.int .i64 gb, AV.int .i64 gd]] => cond (kindsOK [KC.I .i64, KC.I .i64] sc0) (some (P_ap (nOf sn0 sc0) (colI sc0 0) (colI sc0 1) gb gd, RT.leaf (AV.bool (F_ap_0 (nOf sn0 sc0) (colI sc0 0) (colI sc0 1) gb gd)))) none
  | _ => none
theorem S_ap : SpecOK Tryz.prog 162 (.pure g_ap) := by
 intro xs p r h hp E w vs hr hv; unfold g_ap at h; split at h
 · rename_i sq0 sn0 sc0 gb gd
   obtain ⟨hk0, h⟩ := cond_some h
   obtain ⟨rfl, rfl⟩ := some_pair h
   have hG := (show SpecsOK Tryz.prog G_ap from ⟨S_e8, S_ad, trivial⟩)
   have hv' := ((AV.les.cons (AV.le.agg (AV.les.cons (AV.le.rs hk0) AV.les.nil)) (AV.les.cons (AV.le.refl _) AV.les.nil)) _ _ hv : VRs E.bare (as_ap (nOf sn0 sc0) (colI sc0 0) (colI sc0 1) gb gd) vs)
   refine walk_pure' (c := bodyOf Tryz.f162) (rs := [.cell 4 4]) (ys := as_ap (nOf sn0 sc0) (colI sc0 0) (colI sc0 1) gb gd) tab_ok (envL_ok hG) Tryz.func162 rfl (by kernel_rfl) rfl (by decide) (fun X hX hrho => ?_) E w vs hr hv'
   rw [Tryz.ntmps162]
   refine vwp_std hX rfl (tr := T_ap (nOf sn0 sc0) (colI sc0 0) (colI sc0 1) gb gd) (fun j st Q h => TS_ap hX hrho _ rfl (nOf sn0 sc0) (colI sc0 0) (colI sc0 1) gb gd j st Q h) (Eq.mpr (N_ap (nOf sn0 sc0) (colI sc0 0) (colI sc0 1) gb gd (fun x => x = _)) ?_)
   exact BL_ap (nOf sn0 sc0) (colI sc0 0) (colI sc0 1) gb gd (H_ap (nOf sn0 sc0) (colI sc0 0) (colI sc0 1) gb gd hp rfl)
 · cases h
def G_fz : List (Nat × Ag.Spec) := []
def as_fz (cm ga gb gd : Int) : List AV := [AV.agg [AV.int .i64 cm, AV.int .i64 ga], AV.agg [AV.int .i64 gb, AV.int .i64 gd]]
theorem N_fz (cm ga gb gd : Int) (K : AV -> Prop) : vwp tab (envL G_fz) (fun _ _ _ => False) 0 (bodyOf Tryz.f161) (entry (as_fz cm ga gb gd) 16) (fnPost tab [.tmp 4] fun v s => K (v.frz s.mem)) = B_fz cm ga gb gd (fun r0 => K (AV.int .i64 r0))  := by kernel_rfl
def g_fz : List AV -> Option (Prop × RT)
  | [AV.agg [AV.int .i64 cm, AV.int .i64 ga], AV.agg [AV.int .i64 gb, AV.int .i64 gd]] => some (P_fz cm ga gb gd, RT.leaf (AV.int .i64 (F_fz_0 cm ga gb gd)))
  | _ => none
theorem S_fz : SpecOK Tryz.prog 161 (.pure g_fz) := by
 intro xs p r h hp E w vs hr hv; unfold g_fz at h; split at h
 · rename_i cm ga gb gd
   obtain ⟨rfl, rfl⟩ := some_pair h
   exact walk0 (ys := as_fz cm ga gb gd) (rs := [.tmp 4]) tab_ok (show SpecsOK Tryz.prog G_fz from trivial) Tryz.func161 rfl (by kernel_rfl) rfl (by decide) Tryz.ntmps161 (N_fz cm ga gb gd) (H_fz cm ga gb gd hp rfl) E w vs hr hv
 · cases h
def G_dm : List (Nat × Ag.Spec) := [(160, .pure g_bn), (161, .pure g_fz)]
def as_dm (gk gn ga gb gd : Int) : List AV := [AV.agg [AV.int .i64 gk, AV.int .i64 gn, AV.int .i64 ga], AV.agg [AV.int .i64 gb, AV.int .i64 gd]]
theorem N_dm (gk gn ga gb gd : Int) (K : AV -> Prop) : vwp tab (envL G_dm) (fun _ _ _ => False) 0 (bodyOf Tryz.f329) (entry (as_dm gk gn ga gb gd) 19) (fnPost tab [.tmp 4] fun v s => K (v.frz s.mem)) = B_dm gk gn ga gb gd (fun r0 => K (AV.bool r0))  := by kernel_rfl
def g_dm : List AV -> Option (Prop × RT)
  | [AV.agg [AV.int .i64 gk, AV.int .i64 gn, AV.int .i64 ga], AV.agg [AV.int .i64 gb, AV.int .i64 gd]] => some (P_dm gk gn ga gb gd, RT.leaf (AV.bool (F_dm_0 gk gn ga gb gd)))
  | _ => none
theorem S_dm : SpecOK Tryz.prog 329 (.pure g_dm) := by
 intro xs p r h hp E w vs hr hv; unfold g_dm at h; split at h
 · rename_i gk gn ga gb gd
   obtain ⟨rfl, rfl⟩ := some_pair h
   exact walk0 (ys := as_dm gk gn ga gb gd) (rs := [.tmp 4]) tab_ok (show SpecsOK Tryz.prog G_dm from ⟨S_bn, S_fz, trivial⟩) Tryz.func329 rfl (by kernel_rfl) rfl (by decide) Tryz.ntmps329 (N_dm gk gn ga gb gd) (H_dm gk gn ga gb gd hp rfl) E w vs hr hv
 · cases h
def G_df : List (Nat × Ag.Spec) := [(176, .pure g_cn)]
def as_df (a0 : Int) : List AV := [AV.int .i64 a0]
theorem N_df (a0 : Int) (K : AV -> Prop) : vwp tab (envL G_df) (fun _ _ _ => False) 0 (bodyOf Tryz.f200) (entry (as_df a0) 5) (fnPost tab [.cell 2 64] fun v s => K (v.frz s.mem)) = B_df a0 (fun r0 r1 => K (AV.agg [AV.int .i64 r0, AV.bool r1]))  := by kernel_rfl
def g_df : List AV -> Option (Prop × RT)
  | [AV.int .i64 a0] => some (P_df a0, RT.leaf (AV.agg [AV.int .i64 (F_df_0 a0), AV.bool (F_df_1 a0)]))
  | _ => none
theorem S_df : SpecOK Tryz.prog 200 (.pure g_df) := by
 intro xs p r h hp E w vs hr hv; unfold g_df at h; split at h
 · rename_i a0
   obtain ⟨rfl, rfl⟩ := some_pair h
   exact walk0 (ys := as_df a0) (rs := [.cell 2 64]) tab_ok (show SpecsOK Tryz.prog G_df from ⟨S_cn, trivial⟩) Tryz.func200 rfl (by kernel_rfl) rfl (by decide) Tryz.ntmps200 (N_df a0) (H_df a0 hp rfl) E w vs hr hv
 · cases h
def G_dw : List (Nat × Ag.Spec) := [(272, .pure g_fm)]
def as_dw (cm : Int) (ga : Bool) : List AV := [AV.agg [AV.int .i64 cm, AV.bool ga]]
theorem N_dw (cm : Int) (ga : Bool) (K : AV -> Prop) : vwp tab (envL G_dw) (fun _ _ _ => False) 0 (bodyOf Tryz.f205) (entry (as_dw cm ga) 7) (fnPost tab [.cell 2 64] fun v s => K (v.frz s.mem)) = B_dw cm ga (fun r0 r1 => K (AV.agg [AV.int .i64 r0, AV.bool r1]))  := by kernel_rfl
def g_dw : List AV -> Option (Prop × RT)
  | [AV.agg [AV.int .i64 cm, AV.bool ga]] => some (P_dw cm ga, RT.leaf (AV.agg [AV.int .i64 (F_dw_0 cm ga), AV.bool (F_dw_1 cm ga)]))
  | _ => none
theorem S_dw : SpecOK Tryz.prog 205 (.pure g_dw) := by
 intro xs p r h hp E w vs hr hv; unfold g_dw at h; split at h
 · rename_i cm ga
   obtain ⟨rfl, rfl⟩ := some_pair h
   exact walk0 (ys := as_dw cm ga) (rs := [.cell 2 64]) tab_ok (show SpecsOK Tryz.prog G_dw from ⟨S_fm, trivial⟩) Tryz.func205 rfl (by kernel_rfl) rfl (by decide) Tryz.ntmps205 (N_dw cm ga) (H_dw cm ga hp rfl) E w vs hr hv
 · cases h
def G_aa : List (Nat × Ag.Spec) := [(98, .pure g_dz), (160, .pure g_bn), (161, .pure g_fz), (171, .pure g_et), (173, .pure g_c8), (174, .pure g_c9), (198, .pure g_fi), (199, .pure g_cq), (200, .pure g_df), (203, .pure g_dk), (205, .pure g_dw), (206, .pure g_ej), (207, .pure g_ee), (209, .pure g_e9), (216, .pure g_fv), (217, .pure g_ed), (247, .pure g_fd), (329, .pure g_dm), (331, .pure g_fa), (332, .pure g_d8)]
def as_aa (gk gn ga gb gd gh gj : Int) : List AV := [AV.agg [AV.int .i64 gk, AV.int .i64 gn, AV.int .i64 ga], AV.agg [AV.int .i64 gb, AV.int .i64 gd], AV.agg [AV.int .i64 gh, AV.int .i64 gj]]
theorem N_aa (gk gn ga gb gd gh gj : Int) (K : AV -> Prop) : vwp tab (envL G_aa) (fun _ _ _ => False) 0 (bodyOf Tryz.f330) (entry (as_aa gk gn ga gb gd gh gj) 112) (fnPost tab [.cell 6 81] fun v s => K (v.frz s.mem)) = B_aa gk gn ga gb gd gh gj (fun r0 r1 r2 r3 r4 r5 r6 => K (AV.agg [AV.bool r0, AV.int .i64 r1, AV.bool r2, AV.int .i64 r3, AV.bool r4, AV.int .i64 r5, AV.bool r6]))  := by kernel_rfl
def g_aa : List AV -> Option (Prop × RT)
  | [AV.agg [AV.int .i64 gk, AV.int .i64 gn, AV.int .i64 ga], AV.agg [AV.int .i64 gb, AV.int .i64 gd], AV.agg [AV.int .i64 gh, AV.int .i64 gj]] => some (P_aa gk gn ga gb gd gh gj, RT.leaf (AV.agg [AV.bool (F_aa_0 gk gn ga gb gd gh gj), AV.int .i64 (F_aa_1 gk gn ga gb gd gh gj), AV.bool (F_aa_2 gk gn ga gb gd gh gj), AV.int .i64 (F_aa_3 gk gn ga gb gd gh gj), AV.bool (F_aa_4 gk gn ga gb gd gh gj), AV.int .i64 (F_aa_5 gk gn ga gb gd gh gj), AV.bool (F_aa_6 gk gn ga gb gd gh gj)]))
  | _ => none
theorem S_aa : SpecOK Tryz.prog 330 (.pure g_aa) := by
 intro xs p r h hp E w vs hr hv; unfold g_aa at h; split at h
 · rename_i gk gn ga gb gd gh gj
   obtain ⟨rfl, rfl⟩ := some_pair h
   exact walk0 (ys := as_aa gk gn ga gb gd gh gj) (rs := [.cell 6 81]) tab_ok (show SpecsOK Tryz.prog G_aa from ⟨S_dz, S_bn, S_fz, S_et, S_c8, S_c9, S_fi, S_cq, S_df, S_dk, S_dw, S_ej, S_ee, S_e9, S_fv, S_ed, S_fd, S_dm, S_fa, S_d8, trivial⟩) Tryz.func330 rfl (by kernel_rfl) rfl (by decide) Tryz.ntmps330 (N_aa gk gn ga gb gd gh gj) (H_aa gk gn ga gb gd gh gj hp rfl) E w vs hr hv
 · cases h
def G_co : List (Nat × Ag.Spec) := [(204, .pure g_f0)]
def as_co (cm ga : Int) : List AV := [AV.agg [AV.int .i64 cm, AV.int .i64 ga]]
theorem N_co (cm ga : Int) (K : AV -> Prop) : vwp tab (envL G_co) (fun _ _ _ => False) 0 (bodyOf Tryz.f214) (entry (as_co cm ga) 8) (fnPost tab [.cell 2 66] fun v s => K (v.frz s.mem)) = B_co cm ga (fun r0 r1 r2 r3 => K (AV.agg [AV.int .i64 r0, AV.bool r1, AV.int .i64 r2, AV.bool r3]))  := by kernel_rfl
def g_co : List AV -> Option (Prop × RT)
  | [AV.agg [AV.int .i64 cm, AV.int .i64 ga]] => some (P_co cm ga, RT.leaf (AV.agg [AV.int .i64 (F_co_0 cm ga), AV.bool (F_co_1 cm ga), AV.int .i64 (F_co_2 cm ga), AV.bool (F_co_3 cm ga)]))
  | _ => none
theorem S_co : SpecOK Tryz.prog 214 (.pure g_co) := by
 intro xs p r h hp E w vs hr hv; unfold g_co at h; split at h
 · rename_i cm ga
   obtain ⟨rfl, rfl⟩ := some_pair h
   exact walk0 (ys := as_co cm ga) (rs := [.cell 2 66]) tab_ok (show SpecsOK Tryz.prog G_co from ⟨S_f0, trivial⟩) Tryz.func214 rfl (by kernel_rfl) rfl (by decide) Tryz.ntmps214 (N_co cm ga) (H_co cm ga hp rfl) E w vs hr hv
 · cases h
def G_cs : List (Nat × Ag.Spec) := [(160, .pure g_bn), (203, .pure g_dk), (214, .pure g_co)]
def as_cs (cm ga gb gd : Int) : List AV := [AV.agg [AV.int .i64 cm, AV.int .i64 ga], AV.agg [AV.int .i64 gb, AV.int .i64 gd]]
theorem N_cs (cm ga gb gd : Int) (K : AV -> Prop) : vwp tab (envL G_cs) (fun _ _ _ => False) 0 (bodyOf Tryz.f211) (entry (as_cs cm ga gb gd) 23) (fnPost tab [.cell 4 66] fun v s => K (v.frz s.mem)) = B_cs cm ga gb gd (fun r0 r1 r2 r3 => K (AV.agg [AV.int .i64 r0, AV.bool r1, AV.int .i64 r2, AV.bool r3]))  := by kernel_rfl
def g_cs : List AV -> Option (Prop × RT)
  | [AV.agg [AV.int .i64 cm, AV.int .i64 ga], AV.agg [AV.int .i64 gb, AV.int .i64 gd]] => some (P_cs cm ga gb gd, RT.leaf (AV.agg [AV.int .i64 (F_cs_0 cm ga gb gd), AV.bool (F_cs_1 cm ga gb gd), AV.int .i64 (F_cs_2 cm ga gb gd), AV.bool (F_cs_3 cm ga gb gd)]))
  | _ => none
theorem S_cs : SpecOK Tryz.prog 211 (.pure g_cs) := by
 intro xs p r h hp E w vs hr hv; unfold g_cs at h; split at h
 · rename_i cm ga gb gd
   obtain ⟨rfl, rfl⟩ := some_pair h
   exact walk0 (ys := as_cs cm ga gb gd) (rs := [.cell 4 66]) tab_ok (show SpecsOK Tryz.prog G_cs from ⟨S_bn, S_dk, S_co, trivial⟩) Tryz.func211 rfl (by kernel_rfl) rfl (by decide) Tryz.ntmps211 (N_cs cm ga gb gd) (H_cs cm ga gb gd hp rfl) E w vs hr hv
 · cases h
def G_dg : List (Nat × Ag.Spec) := [(247, .pure g_fd)]
def as_dg (cm ga gb gd : Int) : List AV := [AV.agg [AV.int .i64 cm, AV.int .i64 ga], AV.agg [AV.int .i64 gb, AV.int .i64 gd]]
theorem N_dg (cm ga gb gd : Int) (K : AV -> Prop) : vwp tab (envL G_dg) (fun _ _ _ => False) 0 (bodyOf Tryz.f335) (entry (as_dg cm ga gb gd) 15) (fnPost tab [.tmp 4] fun v s => K (v.frz s.mem)) = B_dg cm ga gb gd (fun r0 => K (AV.bool r0))  := by kernel_rfl
def g_dg : List AV -> Option (Prop × RT)
  | [AV.agg [AV.int .i64 cm, AV.int .i64 ga], AV.agg [AV.int .i64 gb, AV.int .i64 gd]] => some (P_dg cm ga gb gd, RT.leaf (AV.bool (F_dg_0 cm ga gb gd)))
  | _ => none
theorem S_dg : SpecOK Tryz.prog 335 (.pure g_dg) := by
 intro xs p r h hp E w vs hr hv; unfold g_dg at h; split at h
 · rename_i cm ga gb gd
   obtain ⟨rfl, rfl⟩ := some_pair h
   exact walk0 (ys := as_dg cm ga gb gd) (rs := [.tmp 4]) tab_ok (show SpecsOK Tryz.prog G_dg from ⟨S_fd, trivial⟩) Tryz.func335 rfl (by kernel_rfl) rfl (by decide) Tryz.ntmps335 (N_dg cm ga gb gd) (H_dg cm ga gb gd hp rfl) E w vs hr hv
 · cases h
def G_ae : List (Nat × Ag.Spec) := [(127, .pure g_e8), (151, .pure g_ad), (176, .pure g_cn), (211, .pure g_cs), (335, .pure g_dg)]
def S_ae_0 (gw : Nat) (gk gn : Nat -> Int) (gb gd gh gj jf jg jh ji : Int) (jk : Bool) (jl : Int) (jm : Bool) (jn : Int) (jo : Bool) (jp : Int) (jq : Bool) : VS := ⟨slotsN 82 0 [(4, AV.ptr false 1 0 0), (5, AV.ptr false 2 0 0), (6, AV.ptr false 3 0 0), (7, AV.ptr false 4 0 0), (8, AV.ptr false 5 0 0), (9, AV.ptr false 6 0 0), (19, AV.fn 225 [AV.rp [AV.rs none (F_ad_0 gw gk gn) [CF.I .i64 (F_ay gw gk gn), CF.I .i64 (F_ad_2 gw gk gn)]] 0])], [.gone, .one true 32 [AV.int .i64 gb, AV.int .i64 gd], .one true 32 [AV.int .i64 gh, AV.int .i64 gj], .one true 81 [AV.bool false, AV.int .i64 0, AV.bool false, AV.int .i64 0, AV.bool false, AV.int .i64 0, AV.bool false], .one true 332 [AV.int .i64 jf, AV.int .i64 jg], .one true 332 [AV.int .i64 jh, AV.int .i64 ji], .one true 81 [AV.bool jk, AV.int .i64 jl, AV.bool jm, AV.int .i64 jn, AV.bool jo, AV.int .i64 jp, AV.bool jq]], false, 0⟩
def X_ae_0_normal (gw : Nat) (gk gn : Nat -> Int) (gb gd gh gj o0 o1 o2 o3 : Int) (o4 : Bool) (o5 : Int) (o6 : Bool) (o7 : Int) (o8 : Bool) (o9 : Int) (jr : Bool) : VS := ⟨slotsN 82 0 [(4, AV.ptr false 1 0 0), (5, AV.ptr false 2 0 0), (6, AV.ptr false 3 0 0), (7, AV.ptr false 4 0 0), (8, AV.ptr false 5 0 0), (9, AV.ptr false 6 0 0), (19, AV.fn 225 [AV.rp [AV.rs none (F_ad_0 gw gk gn) [CF.I .i64 (F_ay gw gk gn), CF.I .i64 (F_ad_2 gw gk gn)]] 0])], [.gone, .one true 32 [AV.int .i64 gb, AV.int .i64 gd], .one true 32 [AV.int .i64 gh, AV.int .i64 gj], .one true 81 [AV.bool false, AV.int .i64 0, AV.bool false, AV.int .i64 0, AV.bool false, AV.int .i64 0, AV.bool false], .one true 332 [AV.int .i64 o0, AV.int .i64 o1], .one true 332 [AV.int .i64 o2, AV.int .i64 o3], .one true 81 [AV.bool o4, AV.int .i64 o5, AV.bool o6, AV.int .i64 o7, AV.bool o8, AV.int .i64 o9, AV.bool jr]], true, 0⟩
def X_ae_0_ret (gw : Nat) (gk gn : Nat -> Int) (gb gd gh gj o0 o1 o2 o3 : Int) (o4 : Bool) (o5 : Int) (o6 : Bool) (o7 : Int) (o8 : Bool) (o9 : Int) (jr : Bool) : VS := ⟨slotsN 82 0 [(4, AV.ptr false 1 0 0), (5, AV.ptr false 2 0 0), (6, AV.ptr false 3 0 0), (7, AV.ptr false 4 0 0), (8, AV.ptr false 5 0 0), (9, AV.ptr false 6 0 0), (19, AV.fn 225 [AV.rp [AV.rs none (F_ad_0 gw gk gn) [CF.I .i64 (F_ay gw gk gn), CF.I .i64 (F_ad_2 gw gk gn)]] 0])], [.gone, .one true 32 [AV.int .i64 gb, AV.int .i64 gd], .one true 32 [AV.int .i64 gh, AV.int .i64 gj], .one true 81 [AV.bool false, AV.int .i64 0, AV.bool false, AV.int .i64 0, AV.bool false, AV.int .i64 0, AV.bool false], .one true 332 [AV.int .i64 o0, AV.int .i64 o1], .one true 332 [AV.int .i64 o2, AV.int .i64 o3], .one true 81 [AV.bool o4, AV.int .i64 o5, AV.bool o6, AV.int .i64 o7, AV.bool o8, AV.int .i64 o9, AV.bool jr]], true, 0⟩
theorem N_ae_0 (gw : Nat) (gk gn : Nat -> Int) (gb gd gh gj : Int) (j0 : Nat) (jf jg jh ji : Int) (jk : Bool) (jl : Int) (jm : Bool) (jn : Int) (jo : Bool) (jp : Int) (jq : Bool) (Qn : VS -> Prop) (Q : Exit -> VS -> Prop) : vwp tab (envL G_ae) (fun _ _ _ => False) 0 (lasn (loopAt (bodyOf Tryz.f334) 0)) (⟨setPs [20, 21] [AV.agg [AV.int .i64 ((F_ay gw gk gn) j0), AV.int .i64 ((F_ad_2 gw gk gn) j0)], AV.agg [AV.int .i64 ((F_ay gw gk gn) (nxE (F_ad_0 gw gk gn) j0)), AV.int .i64 ((F_ad_2 gw gk gn) (nxE (F_ad_0 gw gk gn) j0))]] (S_ae_0 gw gk gn gb gd gh gj jf jg jh ji jk jl jm jn jo jp jq).tmps, (S_ae_0 gw gk gn gb gd gh gj jf jg jh ji jk jl jm jn jo jp jq).mem, false, 7⟩) (eNorm fun s1 => vwp tab (envL G_ae) (fun _ _ _ => False) 0 (lbody (loopAt (bodyOf Tryz.f334) 0)) s1 (RP (S_ae_0 gw gk gn gb gd gh gj jf jg jh ji jk jl jm jn jo jp jq).tmps 0 [1, 2, 3, 4, 5, 6] 7 Qn Q)) = B_ae_0 gw gk gn gb gd gh gj j0 jf jg jh ji jk jl jm jn jo jp jq (fun w0 w1 w2 w3 w4 w5 w6 w7 w8 w9 w10 => Qn (S_ae_0 gw gk gn gb gd gh gj w0 w1 w2 w3 w4 w5 w6 w7 w8 w9 w10)) (fun o0 o1 o2 o3 o4 o5 o6 o7 o8 o9 jr => Q .ret (X_ae_0_ret gw gk gn gb gd gh gj o0 o1 o2 o3 o4 o5 o6 o7 o8 o9 jr))  := by kernel_rfl
theorem L_ae_0 {X : Cx} (hX : Std Tryz.prog tab (envL G_ae) X) (hrho : X.ρ = none) (b : Code) (hb : b = bodyOf Tryz.f334) (gw : Nat) (gk gn : Nat -> Int) (gb gd gh gj jf jg jh ji : Int) (jk : Bool) (jl : Int) (jm : Bool) (jn : Int) (jo : Bool) (jp : Int) (jq : Bool) (Q : Exit -> VS -> Prop) (h : PP_ae_0 gw gk gn gb gd gh gj /\ W_ae_0 gw gk gn gb gd gh gj (NN_ae_0 gw gk gn gb gd gh gj) 0 jf jg jh ji jk jl jm jn jo jp jq (fun o0 o1 o2 o3 o4 o5 o6 o7 o8 o9 jr => Q .normal (X_ae_0_normal gw gk gn gb gd gh gj o0 o1 o2 o3 o4 o5 o6 o7 o8 o9 jr)) (fun o0 o1 o2 o3 o4 o5 o6 o7 o8 o9 jr => Q .ret (X_ae_0_ret gw gk gn gb gd gh gj o0 o1 o2 o3 o4 o5 o6 o7 o8 o9 jr))) : TrK X b 0 (S_ae_0 gw gk gn gb gd gh gj jf jg jh ji jk jl jm jn jo jp jq) Q := by
  subst hb
  have hit : IterSpec X.P 225 gi_edges := by rw [hX.P]; exact iter_edges
  have hb2 : loopAt (bodyOf Tryz.f334) 0 = .rangeFunc (.tmp 19) #[20, 21] (lasn (loopAt (bodyOf Tryz.f334) 0)) (lbody (loopAt (bodyOf Tryz.f334) 0)) := by kernel_rfl
  refine rf_ok hrho hb2 (V := Int × Int × Int × Int × Bool × Int × Bool × Int × Bool × Int × Bool) (fun v => S_ae_0 gw gk gn gb gd gh gj v.1 v.2.1 v.2.2.1 v.2.2.2.1 v.2.2.2.2.1 v.2.2.2.2.2.1 v.2.2.2.2.2.2.1 v.2.2.2.2.2.2.2.1 v.2.2.2.2.2.2.2.2.1 v.2.2.2.2.2.2.2.2.2.1 v.2.2.2.2.2.2.2.2.2.2) (t := (S_ae_0 gw gk gn gb gd gh gj jf jg jh ji jk jl jm jn jo jp jq).tmps) (pn := 0) (nm := 7) (ms := [1, 2, 3, 4, 5, 6]) (fun v => ⟨rfl, rfl, rfl, rfl⟩) hit (jf, jg, jh, ji, jk, jl, jm, jn, jo, jp, jq) rfl rfl (N := NN_ae_0 gw gk gn gb gd gh gj) (args := fun j0 => [AV.agg [AV.int .i64 ((F_ay gw gk gn) j0), AV.int .i64 ((F_ad_2 gw gk gn) j0)], AV.agg [AV.int .i64 ((F_ay gw gk gn) (nxE (F_ad_0 gw gk gn) j0)), AV.int .i64 ((F_ad_2 gw gk gn) (nxE (F_ad_0 gw gk gn) j0))]]) (p := PP_ae_0 gw gk gn gb gd gh gj) rfl h.1 (fun _ => rfl) (fun r j v => W_ae_0 gw gk gn gb gd gh gj r j v.1 v.2.1 v.2.2.1 v.2.2.2.1 v.2.2.2.2.1 v.2.2.2.2.2.1 v.2.2.2.2.2.2.1 v.2.2.2.2.2.2.2.1 v.2.2.2.2.2.2.2.2.1 v.2.2.2.2.2.2.2.2.2.1 v.2.2.2.2.2.2.2.2.2.2 (fun o0 o1 o2 o3 o4 o5 o6 o7 o8 o9 jr => Q .normal (X_ae_0_normal gw gk gn gb gd gh gj o0 o1 o2 o3 o4 o5 o6 o7 o8 o9 jr)) (fun o0 o1 o2 o3 o4 o5 o6 o7 o8 o9 jr => Q .ret (X_ae_0_ret gw gk gn gb gd gh gj o0 o1 o2 o3 o4 o5 o6 o7 o8 o9 jr))) (fun r j v hv => ?_) (fun j v hv => ?_) h.2
  · refine rf_round hX (c1 := (lasn (loopAt (bodyOf Tryz.f334) 0))) (c2 := (lbody (loopAt (bodyOf Tryz.f334) 0))) rfl rfl (tr := (fun _ _ _ => False)) (fun _ _ _ _ _ h => h.elim) ?_
    refine Eq.mpr (N_ae_0 gw gk gn gb gd gh gj j v.1 v.2.1 v.2.2.1 v.2.2.2.1 v.2.2.2.2.1 v.2.2.2.2.2.1 v.2.2.2.2.2.2.1 v.2.2.2.2.2.2.2.1 v.2.2.2.2.2.2.2.2.1 v.2.2.2.2.2.2.2.2.2.1 v.2.2.2.2.2.2.2.2.2.2 _ _) ?_
    exact BM_ae_0 gw gk gn gb gd gh gj j v.1 v.2.1 v.2.2.1 v.2.2.2.1 v.2.2.2.2.1 v.2.2.2.2.2.1 v.2.2.2.2.2.2.1 v.2.2.2.2.2.2.2.1 v.2.2.2.2.2.2.2.2.1 v.2.2.2.2.2.2.2.2.2.1 v.2.2.2.2.2.2.2.2.2.2 (fun w0 w1 w2 w3 w4 w5 w6 w7 w8 w9 w10 h => ⟨(w0, w1, w2, w3, w4, w5, w6, w7, w8, w9, w10), rfl, h⟩) (fun _ _ _ _ _ _ _ _ _ _ _ h => h) hv
  · exact hv
def T_ae (gw : Nat) (gk gn : Nat -> Int) (gb gd gh gj : Int) (k : Nat) (st : VS) (Q : Exit -> VS -> Prop) : Prop := match k with
  | 0 => TL [4, 5, 6, 7, 8, 9, 19] [1, 2, 3, 4, 5, 6] 7 (convs st []) (fun st => S_ae_0 gw gk gn gb gd gh gj (intOf (mAt st 4 0)) (intOf (mAt st 4 1)) (intOf (mAt st 5 0)) (intOf (mAt st 5 1)) (boolOf (mAt st 6 0)) (intOf (mAt st 6 1)) (boolOf (mAt st 6 2)) (intOf (mAt st 6 3)) (boolOf (mAt st 6 4)) (intOf (mAt st 6 5)) (boolOf (mAt st 6 6))) (fun st => PP_ae_0 gw gk gn gb gd gh gj  /\ W_ae_0 gw gk gn gb gd gh gj  (NN_ae_0 gw gk gn gb gd gh gj ) 0 (intOf (mAt st 4 0)) (intOf (mAt st 4 1)) (intOf (mAt st 5 0)) (intOf (mAt st 5 1)) (boolOf (mAt st 6 0)) (intOf (mAt st 6 1)) (boolOf (mAt st 6 2)) (intOf (mAt st 6 3)) (boolOf (mAt st 6 4)) (intOf (mAt st 6 5)) (boolOf (mAt st 6 6)) (fun o0 o1 o2 o3 o4 o5 o6 o7 o8 o9 jr => Q .normal (X_ae_0_normal gw gk gn gb gd gh gj  o0 o1 o2 o3 o4 o5 o6 o7 o8 o9 jr)) (fun o0 o1 o2 o3 o4 o5 o6 o7 o8 o9 jr => Q .ret (X_ae_0_ret gw gk gn gb gd gh gj  o0 o1 o2 o3 o4 o5 o6 o7 o8 o9 jr)))
  | _ => False
theorem TS_ae {X : Cx} (hX : Std Tryz.prog tab (envL G_ae) X) (hrho : X.ρ = none) (b : Code) (hb : b = bodyOf Tryz.f334) (gw : Nat) (gk gn : Nat -> Int) (gb gd gh gj : Int) (j : Nat) (st : VS) (Q : Exit -> VS -> Prop) (h : T_ae gw gk gn gb gd gh gj j st Q) : TrK X b j st Q := by
  unfold T_ae at h
  split at h
  · exact TL_ok h (fun h' => L_ae_0 hX hrho b hb gw gk gn gb gd gh gj _ _ _ _ _ _ _ _ _ _ _ Q h')
  · exact h.elim
def as_ae (gw : Nat) (gk gn : Nat -> Int) (gb gd gh gj : Int) : List AV := [AV.agg [AV.rs none gw [CF.I .i64 gk, CF.I .i64 gn]], AV.agg [AV.int .i64 gb, AV.int .i64 gd], AV.agg [AV.int .i64 gh, AV.int .i64 gj]]
theorem N_ae (gw : Nat) (gk gn : Nat -> Int) (gb gd gh gj : Int) (K : AV -> Prop) : vwp tab (envL G_ae) (T_ae gw gk gn gb gd gh gj) 0 (bodyOf Tryz.f334) (entry (as_ae gw gk gn gb gd gh gj) 82) (fnPost tab [.cell 6 81] fun v s => K (v.frz s.mem)) = B_ae gw gk gn gb gd gh gj (fun r0 r1 r2 r3 r4 r5 r6 => K (AV.agg [AV.bool r0, AV.int .i64 r1, AV.bool r2, AV.int .i64 r3, AV.bool r4, AV.int .i64 r5, AV.bool r6])) (fun p0 p1 p2 p3 p4 p5 p6 p7 p8 p9 p10 y0 y1 => S_ae_0 gw gk gn gb gd gh gj  p0 p1 p2 p3 p4 p5 p6 p7 p8 p9 p10 = S_ae_0 gw gk gn gb gd gh gj  p0 p1 p2 p3 p4 p5 p6 p7 p8 p9 p10 /\ PP_ae_0 gw gk gn gb gd gh gj  /\ W_ae_0 gw gk gn gb gd gh gj  (NN_ae_0 gw gk gn gb gd gh gj ) 0 p0 p1 p2 p3 p4 p5 p6 p7 p8 p9 p10 y0 y1) := by kernel_rfl
theorem BL_ae (gw : Nat) (gk gn : Nat -> Int) (gb gd gh gj : Int) {K0 : Bool -> Int -> Bool -> Int -> Bool -> Int -> Bool -> Prop} : B_ae gw gk gn gb gd gh gj K0 (fun p0 p1 p2 p3 p4 p5 p6 p7 p8 p9 p10 y0 y1 => PP_ae_0 gw gk gn gb gd gh gj  /\ W_ae_0 gw gk gn gb gd gh gj  (NN_ae_0 gw gk gn gb gd gh gj ) 0 p0 p1 p2 p3 p4 p5 p6 p7 p8 p9 p10 y0 y1) -> B_ae gw gk gn gb gd gh gj K0 (fun p0 p1 p2 p3 p4 p5 p6 p7 p8 p9 p10 y0 y1 => S_ae_0 gw gk gn gb gd gh gj  p0 p1 p2 p3 p4 p5 p6 p7 p8 p9 p10 = S_ae_0 gw gk gn gb gd gh gj  p0 p1 p2 p3 p4 p5 p6 p7 p8 p9 p10 /\ PP_ae_0 gw gk gn gb gd gh gj  /\ W_ae_0 gw gk gn gb gd gh gj  (NN_ae_0 gw gk gn gb gd gh gj ) 0 p0 p1 p2 p3 p4 p5 p6 p7 p8 p9 p10 y0 y1) := by
  unfold B_ae
  repeat' first
    | exact id
    | refine Ts_imp ?_
    | refine cond_imp ?_ ?_
    | refine and_imp' ?_
    | refine fun h => ⟨rfl, h.1, WM_ae_0 _ _ _ _ _ _ _  (fun _ _ _ _ _ _ _ _ _ _ _ => ?_) (fun _ _ _ _ _ _ _ _ _ _ _ => ?_) _ _ _ _ _ _ _ _ _ _ _ _ _  h.2⟩
def g_ae : List AV -> Option (Prop × RT)
  | [AV.agg [AV.rs sq0 sn0 sc0], AV.agg [AV.int .i64 gb, AV.int .i64 gd], AV.agg [AV.int .i64 gh, AV.int .i64 gj]] => cond (kindsOK [KC.I .i64, KC.I .i64] sc0) (some (P_ae (nOf sn0 sc0) (colI sc0 0) (colI sc0 1) gb gd gh gj, RT.leaf (AV.agg [AV.bool (F_ae_0 (nOf sn0 sc0) (colI sc0 0) (colI sc0 1) gb gd gh gj), AV.int .i64 (F_ae_1 (nOf sn0 sc0) (colI sc0 0) (colI sc0 1) gb gd gh gj), AV.bool (F_ae_2 (nOf sn0 sc0) (colI sc0 0) (colI sc0 1) gb gd gh gj), AV.int .i64 (F_ae_3 (nOf sn0 sc0) (colI sc0 0) (colI sc0 1) gb gd gh gj), AV.bool (F_ae_4 (nOf sn0 sc0) (colI sc0 0) (colI sc0 1) gb gd gh gj), AV.int .i64 (F_ae_5 (nOf sn0 sc0) (colI sc0 0) (colI sc0 1) gb gd gh gj), AV.bool (F_ae_6 (nOf sn0 sc0) (colI sc0 0) (colI sc0 1) gb gd gh gj)]))) none
  | _ => none
theorem S_ae : SpecOK Tryz.prog 334 (.pure g_ae) := by
 intro xs p r h hp E w vs hr hv; unfold g_ae at h; split at h
 · rename_i sq0 sn0 sc0 gb gd gh gj
   obtain ⟨hk0, h⟩ := cond_some h
   obtain ⟨rfl, rfl⟩ := some_pair h
   have hG := (show SpecsOK Tryz.prog G_ae from ⟨S_e8, S_ad, S_cn, S_cs, S_dg, trivial⟩)
   have hv' := ((AV.les.cons (AV.le.agg (AV.les.cons (AV.le.rs hk0) AV.les.nil)) (AV.les.cons (AV.le.refl _) (AV.les.cons (AV.le.refl _) AV.les.nil))) _ _ hv : VRs E.bare (as_ae (nOf sn0 sc0) (colI sc0 0) (colI sc0 1) gb gd gh gj) vs)
   refine walk_pure' (c := bodyOf Tryz.f334) (rs := [.cell 6 81]) (ys := as_ae (nOf sn0 sc0) (colI sc0 0) (colI sc0 1) gb gd gh gj) tab_ok (envL_ok hG) Tryz.func334 rfl (by kernel_rfl) rfl (by decide) (fun X hX hrho => ?_) E w vs hr hv'
   rw [Tryz.ntmps334]
   refine vwp_std hX rfl (tr := T_ae (nOf sn0 sc0) (colI sc0 0) (colI sc0 1) gb gd gh gj) (fun j st Q h => TS_ae hX hrho _ rfl (nOf sn0 sc0) (colI sc0 0) (colI sc0 1) gb gd gh gj j st Q h) (Eq.mpr (N_ae (nOf sn0 sc0) (colI sc0 0) (colI sc0 1) gb gd gh gj (fun x => x = _)) ?_)
   exact BL_ae (nOf sn0 sc0) (colI sc0 0) (colI sc0 1) gb gd gh gj (H_ae (nOf sn0 sc0) (colI sc0 0) (colI sc0 1) gb gd gh gj hp rfl)
 · cases h
def G_bg : List (Nat × Ag.Spec) := [(74, .pure g_ar), (105, .pure g_bq), (162, .pure g_ap), (329, .pure g_dm), (330, .pure g_aa), (334, .pure g_ae)]
def as_bg (cm ge gg gm : Int) (gq : Nat) (gu gv : Nat -> Int) (gb gd gh gj : Int) : List AV := [AV.agg [AV.int .i64 cm, AV.int .i64 ge, AV.int .i64 gg, AV.int .i64 gm, AV.rs none gq [CF.I .i64 gu, CF.I .i64 gv]], AV.agg [AV.int .i64 gb, AV.int .i64 gd], AV.agg [AV.int .i64 gh, AV.int .i64 gj]]
theorem N_bg (cm ge gg gm : Int) (gq : Nat) (gu gv : Nat -> Int) (gb gd gh gj : Int) (K : AV -> Prop) : vwp tab (envL G_bg) (fun _ _ _ => False) 0 (bodyOf Tryz.f40) (entry (as_bg cm ge gg gm gq gu gv gb gd gh gj) 30) (fnPost tab [.cell 6 81] fun v s => K (v.frz s.mem)) = B_bg cm ge gg gm gq gu gv gb gd gh gj (fun r0 r1 r2 r3 r4 r5 r6 => K (AV.agg [AV.bool r0, AV.int .i64 r1, AV.bool r2, AV.int .i64 r3, AV.bool r4, AV.int .i64 r5, AV.bool r6]))  := by kernel_rfl
def g_bg : List AV -> Option (Prop × RT)
  | [AV.agg [AV.int .i64 cm, AV.int .i64 ge, AV.int .i64 gg, AV.int .i64 gm, AV.rs sq0 sn0 sc0], AV.agg [AV.int .i64 gb, AV.int .i64 gd], AV.agg [AV.int .i64 gh, AV.int .i64 gj]] => cond (kindsOK [KC.I .i64, KC.I .i64] sc0) (some (P_bg cm ge gg gm (nOf sn0 sc0) (colI sc0 0) (colI sc0 1) gb gd gh gj, RT.leaf (AV.agg [AV.bool (F_bg_0 cm ge gg gm (nOf sn0 sc0) (colI sc0 0) (colI sc0 1) gb gd gh gj), AV.int .i64 (F_bg_1 cm ge gg gm (nOf sn0 sc0) (colI sc0 0) (colI sc0 1) gb gd gh gj), AV.bool (F_bg_2 cm ge gg gm (nOf sn0 sc0) (colI sc0 0) (colI sc0 1) gb gd gh gj), AV.int .i64 (F_bg_3 cm ge gg gm (nOf sn0 sc0) (colI sc0 0) (colI sc0 1) gb gd gh gj), AV.bool (F_bg_4 cm ge gg gm (nOf sn0 sc0) (colI sc0 0) (colI sc0 1) gb gd gh gj), AV.int .i64 (F_bg_5 cm ge gg gm (nOf sn0 sc0) (colI sc0 0) (colI sc0 1) gb gd gh gj), AV.bool (F_bg_6 cm ge gg gm (nOf sn0 sc0) (colI sc0 0) (colI sc0 1) gb gd gh gj)]))) none
  | _ => none
theorem S_bg : SpecOK Tryz.prog 40 (.pure g_bg) := by
 intro xs p r h hp E w vs hr hv; unfold g_bg at h; split at h
 · rename_i cm ge gg gm sq0 sn0 sc0 gb gd gh gj
   obtain ⟨hk0, h⟩ := cond_some h
   obtain ⟨rfl, rfl⟩ := some_pair h
   exact walk0 (ys := as_bg cm ge gg gm (nOf sn0 sc0) (colI sc0 0) (colI sc0 1) gb gd gh gj) (rs := [.cell 6 81]) tab_ok (show SpecsOK Tryz.prog G_bg from ⟨S_ar, S_bq, S_ap, S_dm, S_aa, S_ae, trivial⟩) Tryz.func40 rfl (by kernel_rfl) rfl (by decide) Tryz.ntmps40 (N_bg cm ge gg gm (nOf sn0 sc0) (colI sc0 0) (colI sc0 1) gb gd gh gj) (H_bg cm ge gg gm (nOf sn0 sc0) (colI sc0 0) (colI sc0 1) gb gd gh gj hp rfl) E w vs hr ((AV.les.cons (AV.le.agg (AV.les.cons (AV.le.refl _) (AV.les.cons (AV.le.refl _) (AV.les.cons (AV.le.refl _) (AV.les.cons (AV.le.refl _) (AV.les.cons (AV.le.rs hk0) AV.les.nil)))))) (AV.les.cons (AV.le.refl _) (AV.les.cons (AV.le.refl _) AV.les.nil))) _ _ hv : VRs E.bare (as_bg cm ge gg gm (nOf sn0 sc0) (colI sc0 0) (colI sc0 1) gb gd gh gj) vs)
 · cases h
def G_dh : List (Nat × Ag.Spec) := []
def as_dh (cm ga : Int) : List AV := [AV.agg [AV.int .i64 cm, AV.int .i64 ga]]
theorem N_dh (cm ga : Int) (K : AV -> Prop) : vwp tab (envL G_dh) (fun _ _ _ => False) 0 (bodyOf Tryz.f107) (entry (as_dh cm ga) 21) (fnPost tab [.tmp 2] fun v s => K (v.frz s.mem)) = B_dh cm ga (fun r0 => K (AV.bool r0))  := by kernel_rfl
def g_dh : List AV -> Option (Prop × RT)
  | [AV.agg [AV.int .i64 cm, AV.int .i64 ga]] => some (P_dh cm ga, RT.leaf (AV.bool (F_dh_0 cm ga)))
  | _ => none
theorem S_dh : SpecOK Tryz.prog 107 (.pure g_dh) := by
 intro xs p r h hp E w vs hr hv; unfold g_dh at h; split at h
 · rename_i cm ga
   obtain ⟨rfl, rfl⟩ := some_pair h
   exact walk0 (ys := as_dh cm ga) (rs := [.tmp 2]) tab_ok (show SpecsOK Tryz.prog G_dh from trivial) Tryz.func107 rfl (by kernel_rfl) rfl (by decide) Tryz.ntmps107 (N_dh cm ga) (H_dh cm ga hp rfl) E w vs hr hv
 · cases h
def G_du : List (Nat × Ag.Spec) := [(107, .pure g_dh)]
def as_du (cm ga gm im : Int) : List AV := [AV.agg [AV.int .i64 cm, AV.int .i64 ga, AV.int .i64 gm, AV.int .i64 im]]
theorem N_du (cm ga gm im : Int) (K : AV -> Prop) : vwp tab (envL G_du) (fun _ _ _ => False) 0 (bodyOf Tryz.f108) (entry (as_du cm ga gm im) 31) (fnPost tab [.tmp 2] fun v s => K (v.frz s.mem)) = B_du cm ga gm im (fun r0 => K (AV.int .i64 r0))  := by kernel_rfl
def g_du : List AV -> Option (Prop × RT)
  | [AV.agg [AV.int .i64 cm, AV.int .i64 ga, AV.int .i64 gm, AV.int .i64 im]] => some (P_du cm ga gm im, RT.leaf (AV.int .i64 (F_du_0 cm ga gm im)))
  | _ => none
theorem S_du : SpecOK Tryz.prog 108 (.pure g_du) := by
 intro xs p r h hp E w vs hr hv; unfold g_du at h; split at h
 · rename_i cm ga gm im
   obtain ⟨rfl, rfl⟩ := some_pair h
   exact walk0 (ys := as_du cm ga gm im) (rs := [.tmp 2]) tab_ok (show SpecsOK Tryz.prog G_du from ⟨S_dh, trivial⟩) Tryz.func108 rfl (by kernel_rfl) rfl (by decide) Tryz.ntmps108 (N_du cm ga gm im) (H_du cm ga gm im hp rfl) E w vs hr hv
 · cases h
def G_cd : List (Nat × Ag.Spec) := []
def as_cd (cm ga a1 : Int) : List AV := [AV.agg [AV.int .i64 cm, AV.int .i64 ga], AV.int .i64 a1]
theorem N_cd (cm ga a1 : Int) (K : AV -> Prop) : vwp tab (envL G_cd) (fun _ _ _ => False) 0 (bodyOf Tryz.f109) (entry (as_cd cm ga a1) 22) (fnPost tab [.cell 4 45] fun v s => K (v.frz s.mem)) = B_cd cm ga a1 (fun r0 r1 r2 r3 => K (AV.agg [AV.int .i64 r0, AV.int .i64 r1, AV.int .i64 r2, AV.int .i64 r3]))  := by kernel_rfl
def g_cd : List AV -> Option (Prop × RT)
  | [AV.agg [AV.int .i64 cm, AV.int .i64 ga], AV.int .i64 a1] => some (P_cd cm ga a1, RT.leaf (AV.agg [AV.int .i64 (F_cd_0 cm ga a1), AV.int .i64 (F_cd_1 cm ga a1), AV.int .i64 (F_cd_2 cm ga a1), AV.int .i64 (F_cd_3 cm ga a1)]))
  | _ => none
theorem S_cd : SpecOK Tryz.prog 109 (.pure g_cd) := by
 intro xs p r h hp E w vs hr hv; unfold g_cd at h; split at h
 · rename_i cm ga a1
   obtain ⟨rfl, rfl⟩ := some_pair h
   exact walk0 (ys := as_cd cm ga a1) (rs := [.cell 4 45]) tab_ok (show SpecsOK Tryz.prog G_cd from trivial) Tryz.func109 rfl (by kernel_rfl) rfl (by decide) Tryz.ntmps109 (N_cd cm ga a1) (H_cd cm ga a1 hp rfl) E w vs hr hv
 · cases h
def G_fb : List (Nat × Ag.Spec) := []
def as_fb (cm ga gb gd : Int) : List AV := [AV.agg [AV.int .i64 cm, AV.int .i64 ga], AV.agg [AV.int .i64 gb, AV.int .i64 gd]]
theorem N_fb (cm ga gb gd : Int) (K : AV -> Prop) : vwp tab (envL G_fb) (fun _ _ _ => False) 0 (bodyOf Tryz.f114) (entry (as_fb cm ga gb gd) 16) (fnPost tab [.tmp 4] fun v s => K (v.frz s.mem)) = B_fb cm ga gb gd (fun r0 => K (AV.int .i64 r0))  := by kernel_rfl
def g_fb : List AV -> Option (Prop × RT)
  | [AV.agg [AV.int .i64 cm, AV.int .i64 ga], AV.agg [AV.int .i64 gb, AV.int .i64 gd]] => some (P_fb cm ga gb gd, RT.leaf (AV.int .i64 (F_fb_0 cm ga gb gd)))
  | _ => none
theorem S_fb : SpecOK Tryz.prog 114 (.pure g_fb) := by
 intro xs p r h hp E w vs hr hv; unfold g_fb at h; split at h
 · rename_i cm ga gb gd
   obtain ⟨rfl, rfl⟩ := some_pair h
   exact walk0 (ys := as_fb cm ga gb gd) (rs := [.tmp 4]) tab_ok (show SpecsOK Tryz.prog G_fb from trivial) Tryz.func114 rfl (by kernel_rfl) rfl (by decide) Tryz.ntmps114 (N_fb cm ga gb gd) (H_fb cm ga gb gd hp rfl) E w vs hr hv
 · cases h
def G_a8 : List (Nat × Ag.Spec) := []
def as_a8 (cm ga gb gd : Int) : List AV := [AV.agg [AV.int .i64 cm, AV.int .i64 ga], AV.agg [AV.int .i64 gb, AV.int .i64 gd]]
theorem N_a8 (cm ga gb gd : Int) (K : AV -> Prop) : vwp tab (envL G_a8) (fun _ _ _ => False) 0 (bodyOf Tryz.f115) (entry (as_a8 cm ga gb gd) 16) (fnPost tab [.cell 4 32] fun v s => K (v.frz s.mem)) = B_a8 cm ga gb gd (fun r0 r1 => K (AV.agg [AV.int .i64 r0, AV.int .i64 r1]))  := by kernel_rfl
def g_a8 : List AV -> Option (Prop × RT)
  | [AV.agg [AV.int .i64 cm, AV.int .i64 ga], AV.agg [AV.int .i64 gb, AV.int .i64 gd]] => some (P_a8 cm ga gb gd, RT.leaf (AV.agg [AV.int .i64 (F_a8_0 cm ga gb gd), AV.int .i64 (F_a8_1 cm ga gb gd)]))
  | _ => none
theorem S_a8 : SpecOK Tryz.prog 115 (.pure g_a8) := by
 intro xs p r h hp E w vs hr hv; unfold g_a8 at h; split at h
 · rename_i cm ga gb gd
   obtain ⟨rfl, rfl⟩ := some_pair h
   exact walk0 (ys := as_a8 cm ga gb gd) (rs := [.cell 4 32]) tab_ok (show SpecsOK Tryz.prog G_a8 from trivial) Tryz.func115 rfl (by kernel_rfl) rfl (by decide) Tryz.ntmps115 (N_a8 cm ga gb gd) (H_a8 cm ga gb gd hp rfl) E w vs hr hv
 · cases h
def G_fk : List (Nat × Ag.Spec) := [(107, .pure g_dh), (114, .pure g_fb), (115, .pure g_a8)]
def as_fk (cm ga gb gd gh gj : Int) : List AV := [AV.agg [AV.int .i64 cm, AV.int .i64 ga], AV.agg [AV.int .i64 gb, AV.int .i64 gd], AV.agg [AV.int .i64 gh, AV.int .i64 gj]]
theorem N_fk (cm ga gb gd gh gj : Int) (K : AV -> Prop) : vwp tab (envL G_fk) (fun _ _ _ => False) 0 (bodyOf Tryz.f130) (entry (as_fk cm ga gb gd gh gj) 32) (fnPost tab [.tmp 6] fun v s => K (v.frz s.mem)) = B_fk cm ga gb gd gh gj (fun r0 => K (AV.int .i64 r0))  := by kernel_rfl
def g_fk : List AV -> Option (Prop × RT)
  | [AV.agg [AV.int .i64 cm, AV.int .i64 ga], AV.agg [AV.int .i64 gb, AV.int .i64 gd], AV.agg [AV.int .i64 gh, AV.int .i64 gj]] => some (P_fk cm ga gb gd gh gj, RT.leaf (AV.int .i64 (F_fk_0 cm ga gb gd gh gj)))
  | _ => none
theorem S_fk : SpecOK Tryz.prog 130 (.pure g_fk) := by
 intro xs p r h hp E w vs hr hv; unfold g_fk at h; split at h
 · rename_i cm ga gb gd gh gj
   obtain ⟨rfl, rfl⟩ := some_pair h
   exact walk0 (ys := as_fk cm ga gb gd gh gj) (rs := [.tmp 6]) tab_ok (show SpecsOK Tryz.prog G_fk from ⟨S_dh, S_fb, S_a8, trivial⟩) Tryz.func130 rfl (by kernel_rfl) rfl (by decide) Tryz.ntmps130 (N_fk cm ga gb gd gh gj) (H_fk cm ga gb gd gh gj hp rfl) E w vs hr hv
 · cases h
def G_aw : List (Nat × Ag.Spec) := [(107, .pure g_dh), (130, .pure g_fk)]
def S_aw_0_0 (gp : Nat) (cm ga : Nat -> Int) (gz i8 : Int) : VS := ⟨slotsN 58 0 [(0, AV.rs none gp [CF.I .i64 cm, CF.I .i64 ga]), (2, AV.bool false), (3, AV.int .i64 gz), (4, AV.int .i64 (irem .i64 (iadd .i64 gz 1) ((gp : Nat) : Int))), (5, AV.int .i64 i8), (9, AV.int .i64 gz), (10, AV.rs none gp [CF.I .i64 cm, CF.I .i64 ga]), (11, AV.int .i64 ((gp : Nat) : Int)), (12, AV.bool true), (15, AV.int .i64 gz), (16, AV.int .i64 (iadd .i64 gz 1)), (17, AV.rs none gp [CF.I .i64 cm, CF.I .i64 ga]), (18, AV.int .i64 ((gp : Nat) : Int)), (19, AV.int .i64 (irem .i64 (iadd .i64 gz 1) ((gp : Nat) : Int)))], [], false, 0⟩
def X_aw_0_0_exit2 (gp : Nat) (cm ga : Nat -> Int) (gz o0 : Int) : VS := ⟨slotsN 58 0 [(0, AV.rs none gp [CF.I .i64 cm, CF.I .i64 ga]), (2, AV.bool false), (3, AV.int .i64 gz), (4, AV.int .i64 (irem .i64 (iadd .i64 gz 1) ((gp : Nat) : Int))), (5, AV.int .i64 o0), (9, AV.int .i64 gz), (10, AV.rs none gp [CF.I .i64 cm, CF.I .i64 ga]), (11, AV.int .i64 ((gp : Nat) : Int)), (12, AV.bool true), (15, AV.int .i64 gz), (16, AV.int .i64 (iadd .i64 gz 1)), (17, AV.rs none gp [CF.I .i64 cm, CF.I .i64 ga]), (18, AV.int .i64 ((gp : Nat) : Int)), (19, AV.int .i64 (irem .i64 (iadd .i64 gz 1) ((gp : Nat) : Int)))], [], false, 0⟩
def X_aw_0_0_ret (gp : Nat) (cm ga : Nat -> Int) (gz o0 : Int) : VS := ⟨slotsN 58 0 [(0, AV.rs none gp [CF.I .i64 cm, CF.I .i64 ga]), (2, AV.bool false), (3, AV.int .i64 gz), (4, AV.int .i64 (irem .i64 (iadd .i64 gz 1) ((gp : Nat) : Int))), (5, AV.int .i64 o0), (9, AV.int .i64 gz), (10, AV.rs none gp [CF.I .i64 cm, CF.I .i64 ga]), (11, AV.int .i64 ((gp : Nat) : Int)), (12, AV.bool true), (15, AV.int .i64 gz), (16, AV.int .i64 (iadd .i64 gz 1)), (17, AV.rs none gp [CF.I .i64 cm, CF.I .i64 ga]), (18, AV.int .i64 ((gp : Nat) : Int)), (19, AV.int .i64 (irem .i64 (iadd .i64 gz 1) ((gp : Nat) : Int)))], [], false, 0⟩
theorem N_aw_0_0 (gp : Nat) (cm ga : Nat -> Int) (gz i8 : Int) (Q : Exit -> VS -> Prop) : vwp tab (envL G_aw) (fun _ _ _ => False) 0 (lbody (loopAt ((lbody (loopAt (bodyOf Tryz.f110) 0))) 0)) (S_aw_0_0 gp cm ga gz i8) (QM [0, 2, 3, 4, 5, 9, 10, 11, 12, 15, 16, 17, 18, 19] [] 0 Q) = B_aw_0_0 gp cm ga gz i8 (fun w0 => Q .normal (S_aw_0_0 gp cm ga gz w0)) (fun o0 => Q (.exit 2) (X_aw_0_0_exit2 gp cm ga gz o0)) (fun o0 => Q .ret (X_aw_0_0_ret gp cm ga gz o0))  := by kernel_rfl
theorem L_aw_0_0 {X : Cx} (hX : Std Tryz.prog tab (envL G_aw) X) (b : Code) (hb : b = (lbody (loopAt (bodyOf Tryz.f110) 0))) (gp : Nat) (cm ga : Nat -> Int) (gz : Int) (fu : Nat) (i8 : Int) (Q : Exit -> VS -> Prop) (h : W_aw_0_0 gp cm ga gz fu i8 (fun o0 => Q (.exit 2) (X_aw_0_0_exit2 gp cm ga gz o0)) (fun o0 => Q .ret (X_aw_0_0_ret gp cm ga gz o0))) : TrK X b 0 (S_aw_0_0 gp cm ga gz i8) Q := by
  subst hb
  refine loop_ok (V := Int) (fun v => S_aw_0_0 gp cm ga gz v) (fun f v => W_aw_0_0 gp cm ga gz f v (fun o0 => Q (.exit 2) (X_aw_0_0_exit2 gp cm ga gz o0)) (fun o0 => Q .ret (X_aw_0_0_ret gp cm ga gz o0))) (fun _ h => h) (by kernel_rfl) (fun f v hv => ?_) (fuel := fu) (v0 := (i8)) h
  refine QM_ok (bs := [0, 2, 3, 4, 5, 9, 10, 11, 12, 15, 16, 17, 18, 19]) (ms := []) (nm := 0) ?_
  refine vwp_std hX rfl (tr := (fun _ _ _ => False)) (fun _ _ _ h => h.elim) ?_
  refine Eq.mpr (N_aw_0_0 gp cm ga gz v _) ?_
  exact BM_aw_0_0 gp cm ga gz v (fun w0 h => ⟨w0, rfl, h⟩) (fun _ h => h) (fun _ h => h) hv
def S_aw_0 (gp : Nat) (cm ga : Nat -> Int) (gz : Int) : VS := ⟨slotsN 58 0 [(0, AV.rs none gp [CF.I .i64 cm, CF.I .i64 ga]), (2, AV.bool false), (3, AV.int .i64 gz)], [], false, 0⟩
def X_aw_0_exit0 (gp : Nat) (cm ga : Nat -> Int) (o0 : Int) : VS := ⟨slotsN 58 0 [(0, AV.rs none gp [CF.I .i64 cm, CF.I .i64 ga]), (2, AV.bool false), (3, AV.int .i64 o0)], [], false, 0⟩
def X_aw_0_ret (gp : Nat) (cm ga : Nat -> Int) (o0 : Int) : VS := ⟨slotsN 58 0 [(0, AV.rs none gp [CF.I .i64 cm, CF.I .i64 ga]), (2, AV.bool false), (3, AV.int .i64 o0)], [], false, 0⟩
def T_aw_0 (gp : Nat) (cm ga : Nat -> Int) (gz : Int) (k : Nat) (st : VS) (Q : Exit -> VS -> Prop) : Prop := match k with
  | 0 => TL [0, 2, 3, 4, 5, 9, 10, 11, 12, 15, 16, 17, 18, 19] [] 0 (convs st []) (fun st => S_aw_0_0 gp cm ga gz (intOf (tAt st 5))) (fun st => W_aw_0_0 gp cm ga gz fuel (intOf (tAt st 5)) (fun o0 => Q (.exit 2) (X_aw_0_0_exit2 gp cm ga gz o0)) (fun o0 => Q .ret (X_aw_0_0_ret gp cm ga gz o0)))
  | _ => False
theorem N_aw_0 (gp : Nat) (cm ga : Nat -> Int) (gz : Int) (Q : Exit -> VS -> Prop) : vwp tab (envL G_aw) (T_aw_0 gp cm ga gz) 0 (lbody (loopAt (bodyOf Tryz.f110) 0)) (S_aw_0 gp cm ga gz) (QM [0, 2, 3] [] 0 Q) = B_aw_0 gp cm ga gz (fun w0 => Q .normal (S_aw_0 gp cm ga w0)) (fun o0 => Q (.exit 0) (X_aw_0_exit0 gp cm ga o0)) (fun o0 => Q .ret (X_aw_0_ret gp cm ga o0)) (fun p0 y0 y1 => S_aw_0_0 gp cm ga gz p0 = S_aw_0_0 gp cm ga gz p0 /\ W_aw_0_0 gp cm ga gz fuel p0 y0 y1) := by kernel_rfl
theorem BL_aw_0 (gp : Nat) (cm ga : Nat -> Int) (gz : Int) {c c' : Int -> Prop} {x0 y0 : Int -> Prop} {x1 y1 : Int -> Prop} (hc : ∀ w0, c w0 -> c' w0) (h0 : ∀ o0, x0 o0 -> y0 o0) (h1 : ∀ o0, x1 o0 -> y1 o0) : B_aw_0 gp cm ga gz c x0 x1 (W_aw_0_0 gp cm ga gz fuel) -> B_aw_0 gp cm ga gz c' y0 y1 (fun p0 y0 y1 => S_aw_0_0 gp cm ga gz p0 = S_aw_0_0 gp cm ga gz p0 /\ W_aw_0_0 gp cm ga gz fuel p0 y0 y1) := by
  unfold B_aw_0
  repeat' first
    | exact hc _
    | exact h0 _
    | exact h1 _
    | refine Ts_imp ?_
    | refine cond_imp ?_ ?_
    | refine and_imp' ?_
    | refine fun h => ⟨rfl, WM_aw_0_0 _ _ _ _  (fun _ => ?_) (fun _ => ?_) _ _  h⟩
theorem TS_aw_0 {X : Cx} (hX : Std Tryz.prog tab (envL G_aw) X) (b : Code) (hb : b = (lbody (loopAt (bodyOf Tryz.f110) 0))) (gp : Nat) (cm ga : Nat -> Int) (gz : Int) (j : Nat) (st : VS) (Q : Exit -> VS -> Prop) (h : T_aw_0 gp cm ga gz j st Q) : TrK X b j st Q := by
  unfold T_aw_0 at h
  split at h
  · exact TL_ok h (fun h' => L_aw_0_0 hX b hb gp cm ga gz _ _ Q h')
  · exact h.elim
theorem L_aw_0 {X : Cx} (hX : Std Tryz.prog tab (envL G_aw) X) (b : Code) (hb : b = bodyOf Tryz.f110) (gp : Nat) (cm ga : Nat -> Int) (fu : Nat) (gz : Int) (Q : Exit -> VS -> Prop) (h : W_aw_0 gp cm ga fu gz (fun o0 => Q (.exit 0) (X_aw_0_exit0 gp cm ga o0)) (fun o0 => Q .ret (X_aw_0_ret gp cm ga o0))) : TrK X b 0 (S_aw_0 gp cm ga gz) Q := by
  subst hb
  refine loop_ok (V := Int) (fun v => S_aw_0 gp cm ga v) (fun f v => W_aw_0 gp cm ga f v (fun o0 => Q (.exit 0) (X_aw_0_exit0 gp cm ga o0)) (fun o0 => Q .ret (X_aw_0_ret gp cm ga o0))) (fun _ h => h) (by kernel_rfl) (fun f v hv => ?_) (fuel := fu) (v0 := (gz)) h
  refine QM_ok (bs := [0, 2, 3]) (ms := []) (nm := 0) ?_
  refine vwp_std hX rfl (tr := T_aw_0 gp cm ga v) (fun j st Q h => TS_aw_0 hX _ rfl gp cm ga v j st Q h) ?_
  refine Eq.mpr (N_aw_0 gp cm ga v _) ?_
  exact BL_aw_0 gp cm ga v (fun w0 h => ⟨w0, rfl, h⟩) (fun _ h => h) (fun _ h => h) hv
def T_aw (gp : Nat) (cm ga : Nat -> Int) (k : Nat) (st : VS) (Q : Exit -> VS -> Prop) : Prop := match k with
  | 0 => TL [0, 2, 3] [] 0 (convs st []) (fun st => S_aw_0 gp cm ga (intOf (tAt st 3))) (fun st => W_aw_0 gp cm ga fuel (intOf (tAt st 3)) (fun o0 => Q (.exit 0) (X_aw_0_exit0 gp cm ga o0)) (fun o0 => Q .ret (X_aw_0_ret gp cm ga o0)))
  | _ => False
theorem TS_aw {X : Cx} (hX : Std Tryz.prog tab (envL G_aw) X) (b : Code) (hb : b = bodyOf Tryz.f110) (gp : Nat) (cm ga : Nat -> Int) (j : Nat) (st : VS) (Q : Exit -> VS -> Prop) (h : T_aw gp cm ga j st Q) : TrK X b j st Q := by
  unfold T_aw at h
  split at h
  · exact TL_ok h (fun h' => L_aw_0 hX b hb gp cm ga _ _ Q h')
  · exact h.elim
def as_aw (gp : Nat) (cm ga : Nat -> Int) : List AV := [AV.rs none gp [CF.I .i64 cm, CF.I .i64 ga]]
theorem N_aw (gp : Nat) (cm ga : Nat -> Int) (K : AV -> Prop) : vwp tab (envL G_aw) (T_aw gp cm ga) 0 (bodyOf Tryz.f110) (entry (as_aw gp cm ga) 58) (fnPost tab [.tmp 2] fun v s => K (v.frz s.mem)) = B_aw gp cm ga (fun r0 => K (AV.bool r0)) (fun p0 y0 y1 => S_aw_0 gp cm ga p0 = S_aw_0 gp cm ga p0 /\ W_aw_0 gp cm ga fuel p0 y0 y1) := by kernel_rfl
theorem BL_aw (gp : Nat) (cm ga : Nat -> Int) {K0 : Bool -> Prop} : B_aw gp cm ga K0 (W_aw_0 gp cm ga fuel) -> B_aw gp cm ga K0 (fun p0 y0 y1 => S_aw_0 gp cm ga p0 = S_aw_0 gp cm ga p0 /\ W_aw_0 gp cm ga fuel p0 y0 y1) := by
  unfold B_aw
  repeat' first
    | exact id
    | refine Ts_imp ?_
    | refine cond_imp ?_ ?_
    | refine and_imp' ?_
    | refine fun h => ⟨rfl, WM_aw_0 _ _ _  (fun _ => ?_) (fun _ => ?_) _ _  h⟩
def g_aw : List AV -> Option (Prop × RT)
  | [AV.rs sq0 sn0 sc0] => cond (kindsOK [KC.I .i64, KC.I .i64] sc0) (some (P_aw (nOf sn0 sc0) (colI sc0 0) (colI sc0 1), RT.leaf (AV.bool (F_aw_0 (nOf sn0 sc0) (colI sc0 0) (colI sc0 1))))) none
  | _ => none
theorem S_aw : SpecOK Tryz.prog 110 (.pure g_aw) := by
 intro xs p r h hp E w vs hr hv; unfold g_aw at h; split at h
 · rename_i sq0 sn0 sc0
   obtain ⟨hk0, h⟩ := cond_some h
   obtain ⟨rfl, rfl⟩ := some_pair h
   have hG := (show SpecsOK Tryz.prog G_aw from ⟨S_dh, S_fk, trivial⟩)
   have hv' := ((AV.les.cons (AV.le.rs hk0) AV.les.nil) _ _ hv : VRs E.bare (as_aw (nOf sn0 sc0) (colI sc0 0) (colI sc0 1)) vs)
   refine walk_pure' (c := bodyOf Tryz.f110) (rs := [.tmp 2]) (ys := as_aw (nOf sn0 sc0) (colI sc0 0) (colI sc0 1)) tab_ok (envL_ok hG) Tryz.func110 rfl (by kernel_rfl) rfl (by decide) (fun X hX hrho => ?_) E w vs hr hv'
   rw [Tryz.ntmps110]
   refine vwp_std hX rfl (tr := T_aw (nOf sn0 sc0) (colI sc0 0) (colI sc0 1)) (fun j st Q h => TS_aw hX _ rfl (nOf sn0 sc0) (colI sc0 0) (colI sc0 1) j st Q h) (Eq.mpr (N_aw (nOf sn0 sc0) (colI sc0 0) (colI sc0 1) (fun x => x = _)) ?_)
   exact BL_aw (nOf sn0 sc0) (colI sc0 0) (colI sc0 1) (H_aw (nOf sn0 sc0) (colI sc0 0) (colI sc0 1) hp rfl)
 · cases h

end
end Go.Proofs.YtbcegholicnflaaGreat
