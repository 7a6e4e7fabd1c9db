import Derived.Test.YtbcegholicnflaaGreatFirstP
import Derived.Test.YtbcegholicnflaaGreatTabB
import Derived.Test.YtbcegholicnflaaGreatIterZ
import Derived.Test.YtbcegholicnflaaGreatExtZ
set_option linter.unusedVariables false
set_option linter.unusedSimpArgs false
set_option maxRecDepth 100000
namespace Go.Proofs.YtbcegholicnflaaGreat
open Go.RowKit Go.Ag
noncomputable section

def asL : List (Nat × Ag.Spec) := []
def akD (a0:Int) : List AV := [AV.int .u64 a0]
theorem ayy (a0:Int) (K : AV -> Prop) : vwp tab (bC asL) (fun _ _ _ => False) 0 (aF Tryz.f238) (entry (akD a0) 25) (aV tab [.tmp 2] fun v s => K (v.frz s.mem)) = amH a0 (fun r0 => K (AV.int .i64 r0))  := by kernel_rfl
def ao6 : List AV -> Option (Prop × RT)
  | [AV.int .u64 a0] => some (X4 a0, RT.leaf (AV.int .i64 (Sr a0)))
  | _ => none
theorem ayz : aU Tryz.prog 238 (.pure ao6) := by
 intro xs p r h hp E w vs hr hv; unfold ao6 at h; split at h
 . rename_i a0
   obtain ⟨rfl, rfl⟩ := aG h
   exact dF (ys := akD a0) (rs := [.tmp 2]) aX (show aO Tryz.prog asL from trivial) Tryz.func238 rfl (by kernel_rfl) rfl (by decide) Tryz.ntmps238 (ayy a0) (avl a0 hp rfl) E w vs hr hv
 . cases h
def aql : List (Nat × Ag.Spec) := [(238, .pure ao6)]
def aju (a0:Int) : List AV := [AV.int .u64 a0]
theorem awo (a0:Int) (K : AV -> Prop) : vwp tab (bC aql) (fun _ _ _ => False) 0 (aF Tryz.f291) (entry (aju a0) 6) (aV tab [.tmp 2] fun v s => K (v.frz s.mem)) = aln a0 (fun r0 => K (AV.int .i64 r0))  := by kernel_rfl
def anI : List AV -> Option (Prop × RT)
  | [AV.int .u64 a0] => some (aeX a0, RT.leaf (AV.int .i64 (bT a0)))
  | _ => none
theorem awp : aU Tryz.prog 291 (.pure anI) := by
 intro xs p r h hp E w vs hr hv; unfold anI at h; split at h
 . rename_i a0
   obtain ⟨rfl, rfl⟩ := aG h
   exact dF (ys := aju a0) (rs := [.tmp 2]) aX (show aO Tryz.prog aql from ⟨ayz, trivial⟩) Tryz.func291 rfl (by kernel_rfl) rfl (by decide) Tryz.ntmps291 (awo a0) (atI a0 hp rfl) E w vs hr hv
 . cases h
def asy : List (Nat × Ag.Spec) := []
def aky (a0 a1:Int) : List AV := [AV.int .u64 a0, AV.int .u64 a1]
theorem ayi (a0 a1:Int) (K : AV -> Prop) : vwp tab (bC asy) (fun _ _ _ => False) 0 (aF Tryz.f224) (entry (aky a0 a1) 51) (aV tab [.tmp 4, .tmp 5] fun v s => K (v.frz s.mem)) = amA a0 a1 (fun r0 r1 => K (AV.tup [AV.int .u64 r0, AV.int .u64 r1]))  := by kernel_rfl
def aoV : List AV -> Option (Prop × RT)
  | [AV.int .u64 a0, AV.int .u64 a1] => some (afM a0 a1, RT.leaf (AV.tup [AV.int .u64 (RU a0 a1), AV.int .u64 (RV a0 a1)]))
  | _ => none
theorem ayj : aU Tryz.prog 224 (.pure aoV) := by
 intro xs p r h hp E w vs hr hv; unfold aoV at h; split at h
 . rename_i a0 a1
   obtain ⟨rfl, rfl⟩ := aG h
   exact dF (ys := aky a0 a1) (rs := [.tmp 4, .tmp 5]) aX (show aO Tryz.prog asy from trivial) Tryz.func224 rfl (by kernel_rfl) rfl (by decide) Tryz.ntmps224 (ayi a0 a1) (avc a0 a1 hp rfl) E w vs hr hv
 . cases h
def ati : List (Nat × Ag.Spec) := []
def akW (a0:Int) : List AV := [AV.int .i64 a0]
theorem azf (a0:Int) (K : AV -> Prop) : vwp tab (bC ati) (fun _ _ _ => False) 0 (aF Tryz.f156) (entry (akW a0) 6) (aV tab [.tmp 2] fun v s => K (v.frz s.mem)) = am6 a0 (fun r0 => K (AV.bool r0))  := by kernel_rfl
def apx : List AV -> Option (Prop × RT)
  | [AV.int .i64 a0] => some (TV a0, RT.leaf (AV.bool (Gt a0)))
  | _ => none
theorem azg : aU Tryz.prog 156 (.pure apx) := by
 intro xs p r h hp E w vs hr hv; unfold apx at h; split at h
 . rename_i a0
   obtain ⟨rfl, rfl⟩ := aG h
   exact dF (ys := akW a0) (rs := [.tmp 2]) aX (show aO Tryz.prog ati from trivial) Tryz.func156 rfl (by kernel_rfl) rfl (by decide) Tryz.ntmps156 (azf a0) (avL a0 hp rfl) E w vs hr hv
 . cases h
def aqp : List (Nat × Ag.Spec) := [(156, .pure apx)]
def ajx (a0 a1:Int) : List AV := [AV.int .i64 a0, AV.int .i64 a1]
theorem awu (a0 a1:Int) (K : AV -> Prop) : vwp tab (bC aqp) (fun _ _ _ => False) 0 (aF Tryz.f81) (entry (ajx a0 a1) 20) (aV tab [.tmp 4] fun v s => K (v.frz s.mem)) = alq a0 a1 (fun r0 => K (AV.int .i64 r0))  := by kernel_rfl
def agj : List AV -> Option (Prop × RT)
  | [AV.int .i64 a0, AV.int .i64 a1] => some (acY a0 a1, RT.leaf (AV.int .i64 (Ap a0 a1)))
  | _ => none
theorem anK : aU Tryz.prog 81 (.pure agj) := by
 intro xs p r h hp E w vs hr hv; unfold agj at h; split at h
 . rename_i a0 a1
   obtain ⟨rfl, rfl⟩ := aG h
   exact dF (ys := ajx a0 a1) (rs := [.tmp 4]) aX (show aO Tryz.prog aqp from ⟨azg, trivial⟩) Tryz.func81 rfl (by kernel_rfl) rfl (by decide) Tryz.ntmps81 (awu a0 a1) (atM a0 a1 hp rfl) E w vs hr hv
 . cases h
def ZV : List (Nat × Ag.Spec) := [(291, .pure anI)]
def Ed (a0 a1 a2 kd jm:Int) : VS := ⟨dD 135 0 [(2, AV.int .u64 (dL .u64 a2 (aT .u64 (bT a2)))), (6, AV.int .u64 0), (7, AV.int .u64 0), (8, AV.int .u64 (aT .u64 (bT a2))), (9, AV.int .u64 (bF .u64 (dL .u64 a2 (aT .u64 (bT a2))) 32)), (10, AV.int .u64 (jK .u64 (dL .u64 a2 (aT .u64 (bT a2))) 4294967295)), (11, AV.int .u64 (ior .u64 (dL .u64 a0 (aT .u64 (bT a2))) (bF .u64 a1 (bQ .u64 64 (aT .u64 (bT a2)))))), (13, AV.int .u64 (bF .u64 (dL .u64 a1 (aT .u64 (bT a2))) 32)), (14, AV.int .u64 (jK .u64 (dL .u64 a1 (aT .u64 (bT a2))) 4294967295)), (15, AV.int .u64 kd), (16, AV.int .u64 jm)], [], false, 0⟩
def wY (a0 a1 a2 o0 o1:Int) : VS := ⟨dD 135 0 [(2, AV.int .u64 (dL .u64 a2 (aT .u64 (bT a2)))), (6, AV.int .u64 0), (7, AV.int .u64 0), (8, AV.int .u64 (aT .u64 (bT a2))), (9, AV.int .u64 (bF .u64 (dL .u64 a2 (aT .u64 (bT a2))) 32)), (10, AV.int .u64 (jK .u64 (dL .u64 a2 (aT .u64 (bT a2))) 4294967295)), (11, AV.int .u64 (ior .u64 (dL .u64 a0 (aT .u64 (bT a2))) (bF .u64 a1 (bQ .u64 64 (aT .u64 (bT a2)))))), (13, AV.int .u64 (bF .u64 (dL .u64 a1 (aT .u64 (bT a2))) 32)), (14, AV.int .u64 (jK .u64 (dL .u64 a1 (aT .u64 (bT a2))) 4294967295)), (15, AV.int .u64 o0), (16, AV.int .u64 o1)], [], false, 0⟩
theorem anL (a0 a1 a2 kd jm:Int) (Q : Exit -> VS -> Prop) : vwp tab (bC ZV) (fun _ _ _ => False) 0 (gY (dA (aF Tryz.f262) 0)) (Ed a0 a1 a2 kd jm) (QM [2, 6, 7, 8, 9, 10, 11, 13, 14, 15, 16] [] 0 Q) = Il a0 a1 a2 kd jm (fun w0 w1 => Q .normal (Ed a0 a1 a2 w0 w1)) (fun o0 o1 => Q (.exit 0) (wY a0 a1 a2 o0 o1))  := by kernel_rfl
theorem anM {X : Cx} (hX : Std Tryz.prog tab (bC ZV) X) (b : Code) (hb : b = aF Tryz.f262) (a0 a1 a2:Int) (fu:Nat) (kd jm:Int) (Q : Exit -> VS -> Prop) (h : vS a0 a1 a2 fu kd jm (fun o0 o1 => Q (.exit 0) (wY a0 a1 a2 o0 o1))) : TrK X b 0 (Ed a0 a1 a2 kd jm) Q := by
  subst hb
  refine iF (V := Int × Int) (fun v => Ed a0 a1 a2 v.1 v.2) (fun f v => vS a0 a1 a2 f v.1 v.2 (fun o0 o1 => Q (.exit 0) (wY a0 a1 a2 o0 o1))) (fun _ h => h) (by kernel_rfl) (fun f v hv => ?_) (fuel := fu) (v0 := (kd, jm)) h
  refine mO (bs := [2, 6, 7, 8, 9, 10, 11, 13, 14, 15, 16]) (ms := []) (nm := 0) ?_
  refine dG hX rfl (tr := (fun _ _ _ => False)) (fun _ _ _ h => h.elim) ?_
  refine Eq.mpr (anL a0 a1 a2 v.1 v.2 _) ?_
  exact aaW a0 a1 a2 v.1 v.2 (fun w0 w1 h => ⟨(w0, w1), rfl, h⟩) (fun _ _ h => h) hv
def Ee (a0 a1 a2 k7 mw kn m8:Int) : VS := ⟨dD 135 0 [(2, AV.int .u64 (dL .u64 a2 (aT .u64 (bT a2)))), (6, AV.int .u64 0), (7, AV.int .u64 0), (8, AV.int .u64 (aT .u64 (bT a2))), (9, AV.int .u64 (bF .u64 (dL .u64 a2 (aT .u64 (bT a2))) 32)), (10, AV.int .u64 (jK .u64 (dL .u64 a2 (aT .u64 (bT a2))) 4294967295)), (14, AV.int .u64 (jK .u64 (dL .u64 a1 (aT .u64 (bT a2))) 4294967295)), (15, AV.int .u64 k7), (16, AV.int .u64 mw), (17, AV.int .u64 kn), (18, AV.int .u64 m8)], [], false, 0⟩
def wZ (a0 a1 a2 o0 o1 o2 o3:Int) : VS := ⟨dD 135 0 [(2, AV.int .u64 (dL .u64 a2 (aT .u64 (bT a2)))), (6, AV.int .u64 0), (7, AV.int .u64 0), (8, AV.int .u64 (aT .u64 (bT a2))), (9, AV.int .u64 (bF .u64 (dL .u64 a2 (aT .u64 (bT a2))) 32)), (10, AV.int .u64 (jK .u64 (dL .u64 a2 (aT .u64 (bT a2))) 4294967295)), (14, AV.int .u64 (jK .u64 (dL .u64 a1 (aT .u64 (bT a2))) 4294967295)), (15, AV.int .u64 o0), (16, AV.int .u64 o1), (17, AV.int .u64 o2), (18, AV.int .u64 o3)], [], false, 0⟩
theorem anN (a0 a1 a2 k7 mw kn m8:Int) (Q : Exit -> VS -> Prop) : vwp tab (bC ZV) (fun _ _ _ => False) 0 (gY (dA (aF Tryz.f262) 1)) (Ee a0 a1 a2 k7 mw kn m8) (QM [2, 6, 7, 8, 9, 10, 14, 15, 16, 17, 18] [] 0 Q) = Io a0 a1 a2 k7 mw kn m8 (fun w0 w1 w2 w3 => Q .normal (Ee a0 a1 a2 w0 w1 w2 w3)) (fun o0 o1 o2 o3 => Q (.exit 2) (wZ a0 a1 a2 o0 o1 o2 o3))  := by kernel_rfl
theorem anO {X : Cx} (hX : Std Tryz.prog tab (bC ZV) X) (b : Code) (hb : b = aF Tryz.f262) (a0 a1 a2:Int) (fu:Nat) (k7 mw kn m8:Int) (Q : Exit -> VS -> Prop) (h : vT a0 a1 a2 fu k7 mw kn m8 (fun o0 o1 o2 o3 => Q (.exit 2) (wZ a0 a1 a2 o0 o1 o2 o3))) : TrK X b 1 (Ee a0 a1 a2 k7 mw kn m8) Q := by
  subst hb
  refine iF (V := Int × Int × Int × Int) (fun v => Ee a0 a1 a2 v.1 v.2.1 v.2.2.1 v.2.2.2) (fun f v => vT a0 a1 a2 f v.1 v.2.1 v.2.2.1 v.2.2.2 (fun o0 o1 o2 o3 => Q (.exit 2) (wZ a0 a1 a2 o0 o1 o2 o3))) (fun _ h => h) (by kernel_rfl) (fun f v hv => ?_) (fuel := fu) (v0 := (k7, mw, kn, m8)) h
  refine mO (bs := [2, 6, 7, 8, 9, 10, 14, 15, 16, 17, 18]) (ms := []) (nm := 0) ?_
  refine dG hX rfl (tr := (fun _ _ _ => False)) (fun _ _ _ h => h.elim) ?_
  refine Eq.mpr (anN a0 a1 a2 v.1 v.2.1 v.2.2.1 v.2.2.2 _) ?_
  exact aaY a0 a1 a2 v.1 v.2.1 v.2.2.1 v.2.2.2 (fun w0 w1 w2 w3 h => ⟨(w0, w1, w2, w3), rfl, h⟩) (fun _ _ _ _ h => h) hv
def ah5 (a0 a1 a2:Int) (k:Nat) (st : VS) (Q : Exit -> VS -> Prop) : Prop := match k with
  | 0 => TL [2, 6, 7, 8, 9, 10, 11, 13, 14, 15, 16] [] 0 (convs st []) (fun st => Ed a0 a1 a2 (intOf (tAt st 15)) (intOf (tAt st 16))) (fun st => vS a0 a1 a2 fuel (intOf (tAt st 15)) (intOf (tAt st 16)) (fun o0 o1 => Q (.exit 0) (wY a0 a1 a2 o0 o1)))
  | 1 => TL [2, 6, 7, 8, 9, 10, 14, 15, 16, 17, 18] [] 0 (convs st []) (fun st => Ee a0 a1 a2 (intOf (tAt st 15)) (intOf (tAt st 16)) (intOf (tAt st 17)) (intOf (tAt st 18))) (fun st => vT a0 a1 a2 fuel (intOf (tAt st 15)) (intOf (tAt st 16)) (intOf (tAt st 17)) (intOf (tAt st 18)) (fun o0 o1 o2 o3 => Q (.exit 2) (wZ a0 a1 a2 o0 o1 o2 o3)))
  | _ => False
theorem aqr {X : Cx} (hX : Std Tryz.prog tab (bC ZV) X) (b : Code) (hb : b = aF Tryz.f262) (a0 a1 a2:Int) (j:Nat) (st : VS) (Q : Exit -> VS -> Prop) (h : ah5 a0 a1 a2 j st Q) : TrK X b j st Q := by
  unfold ah5 at h
  split at h
  . exact lF h (fun h' => anM hX b hb a0 a1 a2 _ _ _ Q h')
  . exact lF h (fun h' => anO hX b hb a0 a1 a2 _ _ _ _ _ Q h')
  . exact h.elim
def ajy (a0 a1 a2:Int) : List AV := [AV.int .u64 a0, AV.int .u64 a1, AV.int .u64 a2]
theorem awv (a0 a1 a2:Int) (K : AV -> Prop) : vwp tab (bC ZV) (ah5 a0 a1 a2) 0 (aF Tryz.f262) (entry (ajy a0 a1 a2) 135) (aV tab [.tmp 6, .tmp 7] fun v s => K (v.frz s.mem)) = acZ a0 a1 a2 (fun r0 r1 => K (AV.tup [AV.int .u64 r0, AV.int .u64 r1])) (fun p0 p1 y0 => Ed a0 a1 a2 p0 p1 = Ed a0 a1 a2 p0 p1 /\ vS a0 a1 a2 fuel p0 p1 y0) (fun p0 p1 p2 p3 y0 => Ee a0 a1 a2 p0 p1 p2 p3 = Ee a0 a1 a2 p0 p1 p2 p3 /\ vT a0 a1 a2 fuel p0 p1 p2 p3 y0) := by kernel_rfl
theorem aqs (a0 a1 a2:Int) {K0 : Int -> Int -> Prop} : acZ a0 a1 a2 K0 (vS a0 a1 a2 fuel) (vT a0 a1 a2 fuel) -> acZ a0 a1 a2 K0 (fun p0 p1 y0 => Ed a0 a1 a2 p0 p1 = Ed a0 a1 a2 p0 p1 /\ vS a0 a1 a2 fuel p0 p1 y0) (fun p0 p1 p2 p3 y0 => Ee a0 a1 a2 p0 p1 p2 p3 = Ee a0 a1 a2 p0 p1 p2 p3 /\ vT a0 a1 a2 fuel p0 p1 p2 p3 y0) := by
  unfold acZ
  repeat' first
    | exact id
    | refine dU ?_
    | refine cO ?_ ?_
    | refine cZ ?_
    | refine fun h => ⟨rfl, aaX _ _ _  (fun _ _ => ?_) _ _ _  h⟩
    | refine fun h => ⟨rfl, aaZ _ _ _  (fun _ _ _ _ => ?_) _ _ _ _ _  h⟩
def ah6 : List AV -> Option (Prop × RT)
  | [AV.int .u64 a0, AV.int .u64 a1, AV.int .u64 a2] => some (ae1 a0 a1 a2, RT.leaf (AV.tup [AV.int .u64 (rZ a0 a1 a2), AV.int .u64 (YL a0 a1 a2)]))
  | _ => none
theorem aqt : aU Tryz.prog 262 (.pure ah6) := by
 intro xs p r h hp E w vs hr hv; unfold ah6 at h; split at h
 . rename_i a0 a1 a2
   obtain ⟨rfl, rfl⟩ := aG h
   have hG := (show aO Tryz.prog ZV from ⟨awp, trivial⟩)
   refine eF (c := aF Tryz.f262) (rs := [.tmp 6, .tmp 7]) (ys := ajy a0 a1 a2) aX (gB hG) Tryz.func262 rfl (by kernel_rfl) rfl (by decide) (fun X hX hrho => ?_) E w vs hr hv
   rw [Tryz.ntmps262]
   refine dG hX rfl (tr := ah5 a0 a1 a2) (fun j st Q h => aqr hX _ rfl a0 a1 a2 j st Q h) (Eq.mpr (awv a0 a1 a2 (fun x => x = _)) ?_)
   exact aqs a0 a1 a2 (atN a0 a1 a2 hp rfl)
 . cases h
def agk : List (Nat × Ag.Spec) := []
def Ef (ig:Nat) (a0:Nat -> Int) (ko:Int) : VS := ⟨dD 18 0 [(2, AV.int .i64 0), (3, AV.int .i64 0), (6, AV.rs none ig [CF.I .i64 a0]), (7, AV.int .i64 (ig:Int)), (8, AV.int .i64 ko)], [], false, 0⟩
def xg (ig:Nat) (a0:Nat -> Int) (o0:Int) : VS := ⟨dD 18 0 [(2, AV.int .i64 0), (3, AV.int .i64 0), (6, AV.rs none ig [CF.I .i64 a0]), (7, AV.int .i64 (ig:Int)), (8, AV.int .i64 o0)], [], false, 0⟩
def Eh (ig:Nat) (a0:Nat -> Int) (o0 o1:Int) : VS := ⟨dD 18 0 [(2, AV.int .i64 o0), (3, AV.int .i64 0), (6, AV.rs none ig [CF.I .i64 a0]), (7, AV.int .i64 (ig:Int)), (8, AV.int .i64 o1)], [], false, 0⟩
theorem anP (ig:Nat) (a0:Nat -> Int) (ko:Int) (Q : Exit -> VS -> Prop) : vwp tab (bC agk) (fun _ _ _ => False) 0 (gY (dA (aF Tryz.f80) 0)) (Ef ig a0 ko) (QM [2, 3, 6, 7, 8] [] 0 Q) = Ip ig a0 ko (fun w0 => Q .normal (Ef ig a0 w0)) (fun o0 => Q (.exit 0) (xg ig a0 o0)) (fun o0 o1 => Q .ret (Eh ig a0 o0 o1))  := by kernel_rfl
theorem anQ {X : Cx} (hX : Std Tryz.prog tab (bC agk) X) (b : Code) (hb : b = aF Tryz.f80) (ig:Nat) (a0:Nat -> Int) (fu:Nat) (ko:Int) (Q : Exit -> VS -> Prop) (h : yB ig a0 fu ko (fun o0 => Q (.exit 0) (xg ig a0 o0)) (fun o0 o1 => Q .ret (Eh ig a0 o0 o1))) : TrK X b 0 (Ef ig a0 ko) Q := by
  subst hb
  refine iF (V := Int) (fun v => Ef ig a0 v) (fun f v => yB ig a0 f v (fun o0 => Q (.exit 0) (xg ig a0 o0)) (fun o0 o1 => Q .ret (Eh ig a0 o0 o1))) (fun _ h => h) (by kernel_rfl) (fun f v hv => ?_) (fuel := fu) (v0 := (ko)) h
  refine mO (bs := [2, 3, 6, 7, 8]) (ms := []) (nm := 0) ?_
  refine dG hX rfl (tr := (fun _ _ _ => False)) (fun _ _ _ h => h.elim) ?_
  refine Eq.mpr (anP ig a0 v _) ?_
  exact aa0 ig a0 v (fun w0 h => ⟨w0, rfl, h⟩) (fun _ h => h) (fun _ _ h => h) hv
def ah7 (ig:Nat) (a0:Nat -> Int) (k:Nat) (st : VS) (Q : Exit -> VS -> Prop) : Prop := match k with
  | 0 => TL [2, 3, 6, 7, 8] [] 0 (convs st []) (fun st => Ef ig a0 (intOf (tAt st 8))) (fun st => yB ig a0 fuel (intOf (tAt st 8)) (fun o0 => Q (.exit 0) (xg ig a0 o0)) (fun o0 o1 => Q .ret (Eh ig a0 o0 o1)))
  | _ => False
theorem aqu {X : Cx} (hX : Std Tryz.prog tab (bC agk) X) (b : Code) (hb : b = aF Tryz.f80) (ig:Nat) (a0:Nat -> Int) (j:Nat) (st : VS) (Q : Exit -> VS -> Prop) (h : ah7 ig a0 j st Q) : TrK X b j st Q := by
  unfold ah7 at h
  split at h
  . exact lF h (fun h' => anQ hX b hb ig a0 _ _ Q h')
  . exact h.elim
def agl (ig:Nat) (a0:Nat -> Int) : List AV := [AV.rs none ig [CF.I .i64 a0]]
theorem aww (ig:Nat) (a0:Nat -> Int) (K : AV -> Prop) : vwp tab (bC agk) (ah7 ig a0) 0 (aF Tryz.f80) (entry (agl ig a0) 18) (aV tab [.tmp 2] fun v s => K (v.frz s.mem)) = ac0 ig a0 (fun r0 => K (AV.int .i64 r0)) (fun p0 y0 y1 => Ef ig a0 p0 = Ef ig a0 p0 /\ yB ig a0 fuel p0 y0 y1) := by kernel_rfl
theorem aqv (ig:Nat) (a0:Nat -> Int) {K0 : Int -> Prop} : ac0 ig a0 K0 (yB ig a0 fuel) -> ac0 ig a0 K0 (fun p0 y0 y1 => Ef ig a0 p0 = Ef ig a0 p0 /\ yB ig a0 fuel p0 y0 y1) := by
  unfold ac0
  repeat' first
    | exact id
    | refine dU ?_
    | refine cO ?_ ?_
    | refine cZ ?_
    | refine fun h => ⟨rfl, aa1 _ _  (fun _ => ?_) (fun _ _ => ?_) _ _  h⟩
def anR : List AV -> Option (Prop × RT)
  | [AV.rs sq0 sn0 sc0] => cond (fG [KC.I .i64] sc0) (some (ahu (nOf sn0 sc0) (aA sc0 0), RT.leaf (AV.int .i64 (QC (nOf sn0 sc0) (aA sc0 0))))) none
  | _ => none
theorem awx : aU Tryz.prog 80 (.pure anR) := by
 intro xs p r h hp E w vs hr hv; unfold anR at h; split at h
 . rename_i sq0 sn0 sc0
   obtain ⟨hk0, h⟩ := dW h
   obtain ⟨rfl, rfl⟩ := aG h
   have hG := (show aO Tryz.prog agk from trivial)
   have hv' := ((AV.les.cons (AV.le.rs hk0) AV.les.nil) _ _ hv : VRs E.bare (agl (nOf sn0 sc0) (aA sc0 0)) vs)
   refine eF (c := aF Tryz.f80) (rs := [.tmp 2]) (ys := agl (nOf sn0 sc0) (aA sc0 0)) aX (gB hG) Tryz.func80 rfl (by kernel_rfl) rfl (by decide) (fun X hX hrho => ?_) E w vs hr hv'
   rw [Tryz.ntmps80]
   refine dG hX rfl (tr := ah7 (nOf sn0 sc0) (aA sc0 0)) (fun j st Q h => aqu hX _ rfl (nOf sn0 sc0) (aA sc0 0) j st Q h) (Eq.mpr (aww (nOf sn0 sc0) (aA sc0 0) (fun x => x = _)) ?_)
   exact aqv (nOf sn0 sc0) (aA sc0 0) (atO (nOf sn0 sc0) (aA sc0 0) hp rfl)
 . cases h
def asI : List (Nat × Ag.Spec) := []
def ag3 (a0:Int) : List AV := [AV.int .u64 a0]
theorem ayv (a0:Int) (K : AV -> Prop) : vwp tab (bC asI) (fun _ _ _ => False) 0 (aF Tryz.f310) (entry (ag3 a0) 6) (aV tab [.tmp 2] fun v s => K (v.frz s.mem)) = amF a0 (fun r0 => K (AV.bool r0))  := by kernel_rfl
def ao5 : List AV -> Option (Prop × RT)
  | [AV.int .u64 a0] => some (adz a0, RT.leaf (AV.bool (yZ a0)))
  | _ => none
theorem ayw : aU Tryz.prog 310 (.pure ao5) := by
 intro xs p r h hp E w vs hr hv; unfold ao5 at h; split at h
 . rename_i a0
   obtain ⟨rfl, rfl⟩ := aG h
   exact dF (ys := ag3 a0) (rs := [.tmp 2]) aX (show aO Tryz.prog asI from trivial) Tryz.func310 rfl (by kernel_rfl) rfl (by decide) Tryz.ntmps310 (ayv a0) (avj a0 hp rfl) E w vs hr hv
 . cases h
def aqx : List (Nat × Ag.Spec) := [(310, .pure ao5)]
def ajA (a0 a1:Int) : List AV := [AV.int .u64 a0, AV.int .u64 a1]
theorem awC (a0 a1:Int) (K : AV -> Prop) : vwp tab (bC aqx) (fun _ _ _ => False) 0 (aF Tryz.f305) (entry (ajA a0 a1) 20) (aV tab [.tmp 4] fun v s => K (v.frz s.mem)) = als a0 a1 (fun r0 => K (AV.int .i64 r0))  := by kernel_rfl
def anT : List AV -> Option (Prop × RT)
  | [AV.int .u64 a0, AV.int .u64 a1] => some (ae3 a0 a1, RT.leaf (AV.int .i64 (lT a0 a1)))
  | _ => none
theorem awD : aU Tryz.prog 305 (.pure anT) := by
 intro xs p r h hp E w vs hr hv; unfold anT at h; split at h
 . rename_i a0 a1
   obtain ⟨rfl, rfl⟩ := aG h
   exact dF (ys := ajA a0 a1) (rs := [.tmp 4]) aX (show aO Tryz.prog aqx from ⟨ayw, trivial⟩) Tryz.func305 rfl (by kernel_rfl) rfl (by decide) Tryz.ntmps305 (awC a0 a1) (atQ a0 a1 hp rfl) E w vs hr hv
 . cases h
def aqy : List (Nat × Ag.Spec) := []
def ajB (cm:Int) (ge:Bool) : List AV := [AV.agg [AV.int .i64 cm, AV.bool ge]]
theorem awE (cm:Int) (ge:Bool) (K : AV -> Prop) : vwp tab (bC aqy) (fun _ _ _ => False) 0 (aF Tryz.f139) (entry (ajB cm ge) 11) (aV tab [.tmp 2, .tmp 3] fun v s => K (v.frz s.mem)) = alu cm ge (fun r0 r1 => K (AV.tup [AV.int .i64 r0, AV.bool r1]))  := by kernel_rfl
def NZ : List AV -> Option (Prop × RT)
  | [AV.agg [AV.int .i64 cm, AV.bool ge]] => some (Ar cm ge, RT.leaf (AV.tup [AV.int .i64 (aW cm ge), AV.bool (dP cm ge)]))
  | _ => none
theorem Tq : aU Tryz.prog 139 (.pure NZ) := by
 intro xs p r h hp E w vs hr hv; unfold NZ at h; split at h
 . rename_i cm ge
   obtain ⟨rfl, rfl⟩ := aG h
   exact dF (ys := ajB cm ge) (rs := [.tmp 2, .tmp 3]) aX (show aO Tryz.prog aqy from trivial) Tryz.func139 rfl (by kernel_rfl) rfl (by decide) Tryz.ntmps139 (awE cm ge) (atS cm ge hp rfl) E w vs hr hv
 . cases h
def ari : List (Nat × Ag.Spec) := []
def akE (a0:Int) : List AV := [AV.int .i64 a0]
theorem axr (a0:Int) (K : AV -> Prop) : vwp tab (bC ari) (fun _ _ _ => False) 0 (aF Tryz.f150) (entry (akE a0) 10) (aV tab [.tmp 2] fun v s => K (v.frz s.mem)) = amC a0 (fun r0 => K (AV.int .u64 r0))  := by kernel_rfl
def aiF : List AV -> Option (Prop × RT)
  | [AV.int .i64 a0] => some (X5 a0, RT.leaf (AV.int .u64 (fP a0)))
  | _ => none
theorem aoo : aU Tryz.prog 150 (.pure aiF) := by
 intro xs p r h hp E w vs hr hv; unfold aiF at h; split at h
 . rename_i a0
   obtain ⟨rfl, rfl⟩ := aG h
   exact dF (ys := akE a0) (rs := [.tmp 2]) aX (show aO Tryz.prog ari from trivial) Tryz.func150 rfl (by kernel_rfl) rfl (by decide) Tryz.ntmps150 (axr a0) (au0 a0 hp rfl) E w vs hr hv
 . cases h
def aqA : List (Nat × Ag.Spec) := [(150, .pure aiF), (224, .pure aoV)]
def ajD (a0 a1:Int) : List AV := [AV.int .i64 a0, AV.int .i64 a1]
theorem awG (a0 a1:Int) (K : AV -> Prop) : vwp tab (bC aqA) (fun _ _ _ => False) 0 (aF Tryz.f147) (entry (ajD a0 a1) 31) (aV tab [.cell 4 185] fun v s => K (v.frz s.mem)) = alx a0 a1 (fun r0 r1 r2 => K (AV.agg [AV.bool r0, AV.int .u64 r1, AV.int .u64 r2]))  := by kernel_rfl
def ah8 : List AV -> Option (Prop × RT)
  | [AV.int .i64 a0, AV.int .i64 a1] => some (ac1 a0 a1, RT.leaf (AV.agg [AV.bool (fZ a0 a1), AV.int .u64 (iH a0 a1), AV.int .u64 (iK a0 a1)]))
  | _ => none
theorem aqB : aU Tryz.prog 147 (.pure ah8) := by
 intro xs p r h hp E w vs hr hv; unfold ah8 at h; split at h
 . rename_i a0 a1
   obtain ⟨rfl, rfl⟩ := aG h
   exact dF (ys := ajD a0 a1) (rs := [.cell 4 185]) aX (show aO Tryz.prog aqA from ⟨aoo, ayj, trivial⟩) Tryz.func147 rfl (by kernel_rfl) rfl (by decide) Tryz.ntmps147 (awG a0 a1) (atU a0 a1 hp rfl) E w vs hr hv
 . cases h
def ar0 : List (Nat × Ag.Spec) := []
def agP (cm:Bool) (ge ij:Int) (ic:Bool) (ie ke:Int) : List AV := [AV.agg [AV.bool cm, AV.int .u64 ge, AV.int .u64 ij], AV.agg [AV.bool ic, AV.int .u64 ie, AV.int .u64 ke]]
theorem axH (cm:Bool) (ge ij:Int) (ic:Bool) (ie ke:Int) (K : AV -> Prop) : vwp tab (bC ar0) (fun _ _ _ => False) 0 (aF Tryz.f192) (entry (agP cm ge ij ic ie ke) 24) (aV tab [.tmp 4] fun v s => K (v.frz s.mem)) = amd cm ge ij ic ie ke (fun r0 => K (AV.bool r0))  := by kernel_rfl
def aoy : List AV -> Option (Prop × RT)
  | [AV.agg [AV.bool cm, AV.int .u64 ge, AV.int .u64 ij], AV.agg [AV.bool ic, AV.int .u64 ie, AV.int .u64 ke]] => some (adr cm ge ij ic ie ke, RT.leaf (AV.bool (AQ cm ge ij ic ie ke)))
  | _ => none
theorem axI : aU Tryz.prog 192 (.pure aoy) := by
 intro xs p r h hp E w vs hr hv; unfold aoy at h; split at h
 . rename_i cm ge ij ic ie ke
   obtain ⟨rfl, rfl⟩ := aG h
   exact dF (ys := agP cm ge ij ic ie ke) (rs := [.tmp 4]) aX (show aO Tryz.prog ar0 from trivial) Tryz.func192 rfl (by kernel_rfl) rfl (by decide) Tryz.ntmps192 (axH cm ge ij ic ie ke) (auR cm ge ij ic ie ke hp rfl) E w vs hr hv
 . cases h
def arM : List (Nat × Ag.Spec) := [(192, .pure aoy), (275, .pure yw), (276, .pure Cm)]
def akd (cm:Bool) (ge ij:Int) (ic:Bool) (ie ke:Int) : List AV := [AV.agg [AV.bool cm, AV.int .u64 ge, AV.int .u64 ij], AV.agg [AV.bool ic, AV.int .u64 ie, AV.int .u64 ke]]
theorem axw (cm:Bool) (ge ij:Int) (ic:Bool) (ie ke:Int) (K : AV -> Prop) : vwp tab (bC arM) (fun _ _ _ => False) 0 (aF Tryz.f221) (entry (akd cm ge ij ic ie ke) 75) (aV tab [.cell 4 185] fun v s => K (v.frz s.mem)) = al6 cm ge ij ic ie ke (fun r0 r1 r2 => K (AV.agg [AV.bool r0, AV.int .u64 r1, AV.int .u64 r2]))  := by kernel_rfl
def adW : List AV -> Option (Prop × RT)
  | [AV.agg [AV.bool cm, AV.int .u64 ge, AV.int .u64 ij], AV.agg [AV.bool ic, AV.int .u64 ie, AV.int .u64 ke]] => some (VG cm ge ij ic ie ke, RT.leaf (AV.agg [AV.bool (nM cm ge ij ic ie ke), AV.int .u64 (kJ cm ge ij ic ie ke), AV.int .u64 (yO cm ge ij ic ie ke)]))
  | _ => none
theorem aiH : aU Tryz.prog 221 (.pure adW) := by
 intro xs p r h hp E w vs hr hv; unfold adW at h; split at h
 . rename_i cm ge ij ic ie ke
   obtain ⟨rfl, rfl⟩ := aG h
   exact dF (ys := akd cm ge ij ic ie ke) (rs := [.cell 4 185]) aX (show aO Tryz.prog arM from ⟨axI, Ih, Qx, trivial⟩) Tryz.func221 rfl (by kernel_rfl) rfl (by decide) Tryz.ntmps221 (axw cm ge ij ic ie ke) (auI cm ge ij ic ie ke hp rfl) E w vs hr hv
 . cases h
def ap6 : List (Nat × Ag.Spec) := []
def ajk (cm:Bool) (ge ij:Int) : List AV := [AV.agg [AV.bool cm, AV.int .u64 ge, AV.int .u64 ij]]
theorem av1 (cm:Bool) (ge ij:Int) (K : AV -> Prop) : vwp tab (bC ap6) (fun _ _ _ => False) 0 (aF Tryz.f146) (entry (ajk cm ge ij) 16) (aV tab [.cell 2 185] fun v s => K (v.frz s.mem)) = anc cm ge ij (fun r0 r1 r2 => K (AV.agg [AV.bool r0, AV.int .u64 r1, AV.int .u64 r2]))  := by kernel_rfl
def ano : List AV -> Option (Prop × RT)
  | [AV.agg [AV.bool cm, AV.int .u64 ge, AV.int .u64 ij]] => some (Yg cm ge ij, RT.leaf (AV.agg [AV.bool (tu cm ge ij), AV.int .u64 (tC cm ge ij), AV.int .u64 (yR cm ge ij)]))
  | _ => none
theorem av2 : aU Tryz.prog 146 (.pure ano) := by
 intro xs p r h hp E w vs hr hv; unfold ano at h; split at h
 . rename_i cm ge ij
   obtain ⟨rfl, rfl⟩ := aG h
   exact dF (ys := ajk cm ge ij) (rs := [.cell 2 185]) aX (show aO Tryz.prog ap6 from trivial) Tryz.func146 rfl (by kernel_rfl) rfl (by decide) Tryz.ntmps146 (av1 cm ge ij) (avS cm ge ij hp rfl) E w vs hr hv
 . cases h
def arS : List (Nat × Ag.Spec) := []
def akh (cm:Bool) (ge ij:Int) (a1:Bool) : List AV := [AV.agg [AV.bool cm, AV.int .u64 ge, AV.int .u64 ij], AV.bool a1]
theorem axC (cm:Bool) (ge ij:Int) (a1:Bool) (K : AV -> Prop) : vwp tab (bC arS) (fun _ _ _ => False) 0 (aF Tryz.f143) (entry (akh cm ge ij a1) 24) (aV tab [.cell 4 64] fun v s => K (v.frz s.mem)) = ama cm ge ij a1 (fun r0 r1 => K (AV.agg [AV.int .i64 r0, AV.bool r1]))  := by kernel_rfl
def aiK : List AV -> Option (Prop × RT)
  | [AV.agg [AV.bool cm, AV.int .u64 ge, AV.int .u64 ij], AV.bool a1] => some (Dc cm ge ij a1, RT.leaf (AV.agg [AV.int .i64 (qQ cm ge ij a1), AV.bool (qR cm ge ij a1)]))
  | _ => none
theorem arT : aU Tryz.prog 143 (.pure aiK) := by
 intro xs p r h hp E w vs hr hv; unfold aiK at h; split at h
 . rename_i cm ge ij a1
   obtain ⟨rfl, rfl⟩ := aG h
   exact dF (ys := akh cm ge ij a1) (rs := [.cell 4 64]) aX (show aO Tryz.prog arS from trivial) Tryz.func143 rfl (by kernel_rfl) rfl (by decide) Tryz.ntmps143 (axC cm ge ij a1) (auN cm ge ij a1 hp rfl) E w vs hr hv
 . cases h
def aqI : List (Nat × Ag.Spec) := [(150, .pure aiF)]
def ajI (a0:Int) : List AV := [AV.int .i64 a0]
theorem awM (a0:Int) (K : AV -> Prop) : vwp tab (bC aqI) (fun _ _ _ => False) 0 (aF Tryz.f145) (entry (ajI a0) 8) (aV tab [.cell 2 185] fun v s => K (v.frz s.mem)) = alC a0 (fun r0 r1 r2 => K (AV.agg [AV.bool r0, AV.int .u64 r1, AV.int .u64 r2]))  := by kernel_rfl
def agp : List AV -> Option (Prop × RT)
  | [AV.int .i64 a0] => some (ac2 a0, RT.leaf (AV.agg [AV.bool (bW a0), AV.int .u64 (bJ a0), AV.int .u64 (bU a0)]))
  | _ => none
theorem anW : aU Tryz.prog 145 (.pure agp) := by
 intro xs p r h hp E w vs hr hv; unfold agp at h; split at h
 . rename_i a0
   obtain ⟨rfl, rfl⟩ := aG h
   exact dF (ys := ajI a0) (rs := [.cell 2 185]) aX (show aO Tryz.prog aqI from ⟨aoo, trivial⟩) Tryz.func145 rfl (by kernel_rfl) rfl (by decide) Tryz.ntmps145 (awM a0) (atZ a0 hp rfl) E w vs hr hv
 . cases h
def ate : List (Nat × Ag.Spec) := []
def akS (cm:Bool) (ge ij:Int) : List AV := [AV.agg [AV.bool cm, AV.int .u64 ge, AV.int .u64 ij]]
theorem ay7 (cm:Bool) (ge ij:Int) (K : AV -> Prop) : vwp tab (bC ate) (fun _ _ _ => False) 0 (aF Tryz.f144) (entry (akS cm ge ij) 16) (aV tab [.cell 2 185] fun v s => K (v.frz s.mem)) = am2 cm ge ij (fun r0 r1 r2 => K (AV.agg [AV.bool r0, AV.int .u64 r1, AV.int .u64 r2]))  := by kernel_rfl
def apt : List AV -> Option (Prop × RT)
  | [AV.agg [AV.bool cm, AV.int .u64 ge, AV.int .u64 ij]] => some (X9 cm ge ij, RT.leaf (AV.agg [AV.bool (SQ cm ge ij), AV.int .u64 (SS cm ge ij), AV.int .u64 (fQ cm ge ij)]))
  | _ => none
theorem ay8 : aU Tryz.prog 144 (.pure apt) := by
 intro xs p r h hp E w vs hr hv; unfold apt at h; split at h
 . rename_i cm ge ij
   obtain ⟨rfl, rfl⟩ := aG h
   exact dF (ys := akS cm ge ij) (rs := [.cell 2 185]) aX (show aO Tryz.prog ate from trivial) Tryz.func144 rfl (by kernel_rfl) rfl (by decide) Tryz.ntmps144 (ay7 cm ge ij) (avH cm ge ij hp rfl) E w vs hr hv
 . cases h
def agq : List (Nat × Ag.Spec) := []
def Ei (cm:Bool) (ge ij a1 jr km np mp:Int) : VS := ⟨dD 58 0 [(1, AV.int .u64 a1), (2, AV.ptr false 0 0 0), (4, AV.ptr false 1 0 0), (5, AV.ptr false 2 0 0), (6, AV.int .u64 jr), (7, AV.int .i64 km)], [.one true 185 [AV.bool cm, AV.int .u64 ge, AV.int .u64 ij], .one true 185 [AV.bool false, AV.int .u64 0, AV.int .u64 0], .one true 185 [AV.bool cm, AV.int .u64 np, AV.int .u64 mp]], false, 0⟩
def xk (cm:Bool) (ge ij a1 o0 o1 o2 o3:Int) : VS := ⟨dD 58 0 [(1, AV.int .u64 a1), (2, AV.ptr false 0 0 0), (4, AV.ptr false 1 0 0), (5, AV.ptr false 2 0 0), (6, AV.int .u64 o0), (7, AV.int .i64 o1)], [.one true 185 [AV.bool cm, AV.int .u64 ge, AV.int .u64 ij], .one true 185 [AV.bool false, AV.int .u64 0, AV.int .u64 0], .one true 185 [AV.bool cm, AV.int .u64 o2, AV.int .u64 o3]], false, 0⟩
theorem anX (cm:Bool) (ge ij a1 jr km np mp:Int) (Q : Exit -> VS -> Prop) : vwp tab (bC agq) (fun _ _ _ => False) 0 (gY (dA (aF Tryz.f149) 0)) (Ei cm ge ij a1 jr km np mp) (QM [1, 2, 4, 5, 6, 7] [0, 1, 2] 3 Q) = CV cm ge ij a1 jr km np mp (fun w0 w1 w2 w3 => Q .normal (Ei cm ge ij a1 w0 w1 w2 w3)) (fun o0 o1 o2 o3 => Q (.exit 0) (xk cm ge ij a1 o0 o1 o2 o3))  := by kernel_rfl
theorem anY {X : Cx} (hX : Std Tryz.prog tab (bC agq) X) (b : Code) (hb : b = aF Tryz.f149) (cm:Bool) (ge ij a1:Int) (fu:Nat) (jr km np mp:Int) (Q : Exit -> VS -> Prop) (h : su cm ge ij a1 fu jr km np mp (fun o0 o1 o2 o3 => Q (.exit 0) (xk cm ge ij a1 o0 o1 o2 o3))) : TrK X b 0 (Ei cm ge ij a1 jr km np mp) Q := by
  subst hb
  refine iF (V := Int × Int × Int × Int) (fun v => Ei cm ge ij a1 v.1 v.2.1 v.2.2.1 v.2.2.2) (fun f v => su cm ge ij a1 f v.1 v.2.1 v.2.2.1 v.2.2.2 (fun o0 o1 o2 o3 => Q (.exit 0) (xk cm ge ij a1 o0 o1 o2 o3))) (fun _ h => h) (by kernel_rfl) (fun f v hv => ?_) (fuel := fu) (v0 := (jr, km, np, mp)) h
  refine mO (bs := [1, 2, 4, 5, 6, 7]) (ms := [0, 1, 2]) (nm := 3) ?_
  refine dG hX rfl (tr := (fun _ _ _ => False)) (fun _ _ _ h => h.elim) ?_
  refine Eq.mpr (anX cm ge ij a1 v.1 v.2.1 v.2.2.1 v.2.2.2 _) ?_
  exact aa8 cm ge ij a1 v.1 v.2.1 v.2.2.1 v.2.2.2 (fun w0 w1 w2 w3 h => ⟨(w0, w1, w2, w3), rfl, h⟩) (fun _ _ _ _ h => h) hv
def aic (cm:Bool) (ge ij a1:Int) (k:Nat) (st : VS) (Q : Exit -> VS -> Prop) : Prop := match k with
  | 0 => TL [1, 2, 4, 5, 6, 7] [0, 1, 2] 3 (convs st []) (fun st => Ei cm ge ij a1 (intOf (tAt st 6)) (intOf (tAt st 7)) (intOf (mAt st 2 1)) (intOf (mAt st 2 2))) (fun st => su cm ge ij a1 fuel (intOf (tAt st 6)) (intOf (tAt st 7)) (intOf (mAt st 2 1)) (intOf (mAt st 2 2)) (fun o0 o1 o2 o3 => Q (.exit 0) (xk cm ge ij a1 o0 o1 o2 o3)))
  | _ => False
theorem aqL {X : Cx} (hX : Std Tryz.prog tab (bC agq) X) (b : Code) (hb : b = aF Tryz.f149) (cm:Bool) (ge ij a1:Int) (j:Nat) (st : VS) (Q : Exit -> VS -> Prop) (h : aic cm ge ij a1 j st Q) : TrK X b j st Q := by
  unfold aic at h
  split at h
  . exact lF h (fun h' => anY hX b hb cm ge ij a1 _ _ _ _ _ Q h')
  . exact h.elim
def ajK (cm:Bool) (ge ij a1:Int) : List AV := [AV.agg [AV.bool cm, AV.int .u64 ge, AV.int .u64 ij], AV.int .u64 a1]
theorem awO (cm:Bool) (ge ij a1:Int) (K : AV -> Prop) : vwp tab (bC agq) (aic cm ge ij a1) 0 (aF Tryz.f149) (entry (ajK cm ge ij a1) 58) (aV tab [.cell 4 185] fun v s => K (v.frz s.mem)) = ac3 cm ge ij a1 (fun r0 r1 r2 => K (AV.agg [AV.bool r0, AV.int .u64 r1, AV.int .u64 r2])) (fun p0 p1 p2 p3 y0 => Ei cm ge ij a1 p0 p1 p2 p3 = Ei cm ge ij a1 p0 p1 p2 p3 /\ su cm ge ij a1 fuel p0 p1 p2 p3 y0) := by kernel_rfl
theorem aqM (cm:Bool) (ge ij a1:Int) {K0 : Bool -> Int -> Int -> Prop} : ac3 cm ge ij a1 K0 (su cm ge ij a1 fuel) -> ac3 cm ge ij a1 K0 (fun p0 p1 p2 p3 y0 => Ei cm ge ij a1 p0 p1 p2 p3 = Ei cm ge ij a1 p0 p1 p2 p3 /\ su cm ge ij a1 fuel p0 p1 p2 p3 y0) := by
  unfold ac3
  repeat' first
    | exact id
    | refine dU ?_
    | refine cO ?_ ?_
    | refine cZ ?_
    | refine fun h => ⟨rfl, aa9 _ _ _ _  (fun _ _ _ _ => ?_) _ _ _ _ _  h⟩
def anZ : List AV -> Option (Prop × RT)
  | [AV.agg [AV.bool cm, AV.int .u64 ge, AV.int .u64 ij], AV.int .u64 a1] => some (ae7 cm ge ij a1, RT.leaf (AV.agg [AV.bool (ae8 cm ge ij a1), AV.int .u64 (uz cm ge ij a1), AV.int .u64 (uD cm ge ij a1)]))
  | _ => none
theorem awP : aU Tryz.prog 149 (.pure anZ) := by
 intro xs p r h hp E w vs hr hv; unfold anZ at h; split at h
 . rename_i cm ge ij a1
   obtain ⟨rfl, rfl⟩ := aG h
   have hG := (show aO Tryz.prog agq from trivial)
   refine eF (c := aF Tryz.f149) (rs := [.cell 4 185]) (ys := ajK cm ge ij a1) aX (gB hG) Tryz.func149 rfl (by kernel_rfl) rfl (by decide) (fun X hX hrho => ?_) E w vs hr hv
   rw [Tryz.ntmps149]
   refine dG hX rfl (tr := aic cm ge ij a1) (fun j st Q h => aqL hX _ rfl cm ge ij a1 j st Q h) (Eq.mpr (awO cm ge ij a1 (fun x => x = _)) ?_)
   exact aqM cm ge ij a1 (at5 cm ge ij a1 hp rfl)
 . cases h
def aqj : List (Nat × Ag.Spec) := [(139, .pure NZ)]
def ajt (cm:Int) (ge:Bool) : List AV := [AV.agg [AV.int .i64 cm, AV.bool ge]]
theorem awn (cm:Int) (ge:Bool) (K : AV -> Prop) : vwp tab (bC aqj) (fun _ _ _ => False) 0 (aF Tryz.f141) (entry (ajt cm ge) 14) (aV tab [.cell 2 64] fun v s => K (v.frz s.mem)) = alm cm ge (fun r0 r1 => K (AV.agg [AV.int .i64 r0, AV.bool r1]))  := by kernel_rfl
def ah3 : List AV -> Option (Prop × RT)
  | [AV.agg [AV.int .i64 cm, AV.bool ge]] => some (QA cm ge, RT.leaf (AV.agg [AV.int .i64 (nJ cm ge), AV.bool (gQ cm ge)]))
  | _ => none
theorem aqk : aU Tryz.prog 141 (.pure ah3) := by
 intro xs p r h hp E w vs hr hv; unfold ah3 at h; split at h
 . rename_i cm ge
   obtain ⟨rfl, rfl⟩ := aG h
   exact dF (ys := ajt cm ge) (rs := [.cell 2 64]) aX (show aO Tryz.prog aqj from ⟨Tq, trivial⟩) Tryz.func141 rfl (by kernel_rfl) rfl (by decide) Tryz.ntmps141 (awn cm ge) (atG cm ge hp rfl) E w vs hr hv
 . cases h
def aqP : List (Nat × Ag.Spec) := [(139, .pure NZ), (143, .pure aiK), (146, .pure ano), (147, .pure ah8)]
def ajM (cm:Int) (ge:Bool) (ic:Int) (ie:Bool) : List AV := [AV.agg [AV.int .i64 cm, AV.bool ge], AV.agg [AV.int .i64 ic, AV.bool ie]]
theorem awR (cm:Int) (ge:Bool) (ic:Int) (ie:Bool) (K : AV -> Prop) : vwp tab (bC aqP) (fun _ _ _ => False) 0 (aF Tryz.f66) (entry (ajM cm ge ic ie) 28) (aV tab [.cell 4 64] fun v s => K (v.frz s.mem)) = alH cm ge ic ie (fun r0 r1 => K (AV.agg [AV.int .i64 r0, AV.bool r1]))  := by kernel_rfl
def aif : List AV -> Option (Prop × RT)
  | [AV.agg [AV.int .i64 cm, AV.bool ge], AV.agg [AV.int .i64 ic, AV.bool ie]] => some (XO cm ge ic ie, RT.leaf (AV.agg [AV.int .i64 (bG cm ge ic ie), AV.bool (bK cm ge ic ie)]))
  | _ => none
theorem aqQ : aU Tryz.prog 66 (.pure aif) := by
 intro xs p r h hp E w vs hr hv; unfold aif at h; split at h
 . rename_i cm ge ic ie
   obtain ⟨rfl, rfl⟩ := aG h
   exact dF (ys := ajM cm ge ic ie) (rs := [.cell 4 64]) aX (show aO Tryz.prog aqP from ⟨Tq, arT, av2, aqB, trivial⟩) Tryz.func66 rfl (by kernel_rfl) rfl (by decide) Tryz.ntmps66 (awR cm ge ic ie) (at7 cm ge ic ie hp rfl) E w vs hr hv
 . cases h
def aqR : List (Nat × Ag.Spec) := [(139, .pure NZ), (143, .pure aiK), (146, .pure ano), (147, .pure ah8), (221, .pure adW)]
def ajN (cm:Int) (ge:Bool) (ic:Int) (ie:Bool) (il:Int) (io:Bool) (je:Int) (jf:Bool) : List AV := [AV.agg [AV.int .i64 cm, AV.bool ge], AV.agg [AV.int .i64 ic, AV.bool ie], AV.agg [AV.int .i64 il, AV.bool io], AV.agg [AV.int .i64 je, AV.bool jf]]
theorem awS (cm:Int) (ge:Bool) (ic:Int) (ie:Bool) (il:Int) (io:Bool) (je:Int) (jf:Bool) (K : AV -> Prop) : vwp tab (bC aqR) (fun _ _ _ => False) 0 (aF Tryz.f180) (entry (ajN cm ge ic ie il io je jf) 56) (aV tab [.cell 8 64] fun v s => K (v.frz s.mem)) = alI cm ge ic ie il io je jf (fun r0 r1 => K (AV.agg [AV.int .i64 r0, AV.bool r1]))  := by kernel_rfl
def aii : List AV -> Option (Prop × RT)
  | [AV.agg [AV.int .i64 cm, AV.bool ge], AV.agg [AV.int .i64 ic, AV.bool ie], AV.agg [AV.int .i64 il, AV.bool io], AV.agg [AV.int .i64 je, AV.bool jf]] => some (Kz cm ge ic ie il io je jf, RT.leaf (AV.agg [AV.int .i64 (pX cm ge ic ie il io je jf), AV.bool (vU cm ge ic ie il io je jf)]))
  | _ => none
theorem aqS : aU Tryz.prog 180 (.pure aii) := by
 intro xs p r h hp E w vs hr hv; unfold aii at h; split at h
 . rename_i cm ge ic ie il io je jf
   obtain ⟨rfl, rfl⟩ := aG h
   exact dF (ys := ajN cm ge ic ie il io je jf) (rs := [.cell 8 64]) aX (show aO Tryz.prog aqR from ⟨Tq, arT, av2, aqB, aiH, trivial⟩) Tryz.func180 rfl (by kernel_rfl) rfl (by decide) Tryz.ntmps180 (awS cm ge ic ie il io je jf) (aua cm ge ic ie il io je jf hp rfl) E w vs hr hv
 . cases h
def arN : List (Nat × Ag.Spec) := [(139, .pure NZ)]
def ake (cm:Int) (ge:Bool) : List AV := [AV.agg [AV.int .i64 cm, AV.bool ge]]
theorem axx (cm:Int) (ge:Bool) (K : AV -> Prop) : vwp tab (bC arN) (fun _ _ _ => False) 0 (aF Tryz.f59) (entry (ake cm ge) 17) (aV tab [.cell 2 64] fun v s => K (v.frz s.mem)) = al8 cm ge (fun r0 r1 => K (AV.agg [AV.int .i64 r0, AV.bool r1]))  := by kernel_rfl
def aor : List AV -> Option (Prop × RT)
  | [AV.agg [AV.int .i64 cm, AV.bool ge]] => some (KF cm ge, RT.leaf (AV.agg [AV.int .i64 (F8 cm ge), AV.bool (F9 cm ge)]))
  | _ => none
theorem axy : aU Tryz.prog 59 (.pure aor) := by
 intro xs p r h hp E w vs hr hv; unfold aor at h; split at h
 . rename_i cm ge
   obtain ⟨rfl, rfl⟩ := aG h
   exact dF (ys := ake cm ge) (rs := [.cell 2 64]) aX (show aO Tryz.prog arN from ⟨Tq, trivial⟩) Tryz.func59 rfl (by kernel_rfl) rfl (by decide) Tryz.ntmps59 (axx cm ge) (auJ cm ge hp rfl) E w vs hr hv
 . cases h
def aqU : List (Nat × Ag.Spec) := [(143, .pure aiK), (144, .pure apt), (145, .pure agp)]
def ajP (a0:Int) : List AV := [AV.int .i64 a0]
theorem awV (a0:Int) (K : AV -> Prop) : vwp tab (bC aqU) (fun _ _ _ => False) 0 (aF Tryz.f64) (entry (ajP a0) 7) (aV tab [.cell 2 64] fun v s => K (v.frz s.mem)) = alK a0 (fun r0 r1 => K (AV.agg [AV.int .i64 r0, AV.bool r1]))  := by kernel_rfl
def aij : List AV -> Option (Prop × RT)
  | [AV.int .i64 a0] => some (ac5 a0, RT.leaf (AV.agg [AV.int .i64 (eG a0), AV.bool (eH a0)]))
  | _ => none
theorem aqV : aU Tryz.prog 64 (.pure aij) := by
 intro xs p r h hp E w vs hr hv; unfold aij at h; split at h
 . rename_i a0
   obtain ⟨rfl, rfl⟩ := aG h
   exact dF (ys := ajP a0) (rs := [.cell 2 64]) aX (show aO Tryz.prog aqU from ⟨arT, ay8, anW, trivial⟩) Tryz.func64 rfl (by kernel_rfl) rfl (by decide) Tryz.ntmps64 (awV a0) (auc a0 hp rfl) E w vs hr hv
 . cases h
def ase : List (Nat × Ag.Spec) := []
def akp (a0:Int) : List AV := [AV.int .i64 a0]
theorem axX (a0:Int) (K : AV -> Prop) : vwp tab (bC ase) (fun _ _ _ => False) 0 (aF Tryz.f148) (entry (akp a0) 10) (aV tab [.cell 2 64] fun v s => K (v.frz s.mem)) = amn a0 (fun r0 r1 => K (AV.agg [AV.int .i64 r0, AV.bool r1]))  := by kernel_rfl
def aoH : List AV -> Option (Prop × RT)
  | [AV.int .i64 a0] => some (adt a0, RT.leaf (AV.agg [AV.int .i64 (Dl a0), AV.bool (yX a0)]))
  | _ => none
theorem axY : aU Tryz.prog 148 (.pure aoH) := by
 intro xs p r h hp E w vs hr hv; unfold aoH at h; split at h
 . rename_i a0
   obtain ⟨rfl, rfl⟩ := aG h
   exact dF (ys := akp a0) (rs := [.cell 2 64]) aX (show aO Tryz.prog ase from trivial) Tryz.func148 rfl (by kernel_rfl) rfl (by decide) Tryz.ntmps148 (axX a0) (au1 a0 hp rfl) E w vs hr hv
 . cases h
def aqY : List (Nat × Ag.Spec) := [(143, .pure aiK), (144, .pure apt), (145, .pure agp), (148, .pure aoH), (149, .pure anZ), (150, .pure aiF)]
def ajR (a0 a1:Int) : List AV := [AV.int .i64 a0, AV.int .i64 a1]
theorem awX (a0 a1:Int) (K : AV -> Prop) : vwp tab (bC aqY) (fun _ _ _ => False) 0 (aF Tryz.f68) (entry (ajR a0 a1) 24) (aV tab [.cell 4 64] fun v s => K (v.frz s.mem)) = alM a0 a1 (fun r0 r1 => K (AV.agg [AV.int .i64 r0, AV.bool r1]))  := by kernel_rfl
def ail : List AV -> Option (Prop × RT)
  | [AV.int .i64 a0, AV.int .i64 a1] => some (Hl a0 a1, RT.leaf (AV.agg [AV.int .i64 (jG a0 a1), AV.bool (jW a0 a1)]))
  | _ => none
theorem aqZ : aU Tryz.prog 68 (.pure ail) := by
 intro xs p r h hp E w vs hr hv; unfold ail at h; split at h
 . rename_i a0 a1
   obtain ⟨rfl, rfl⟩ := aG h
   exact dF (ys := ajR a0 a1) (rs := [.cell 4 64]) aX (show aO Tryz.prog aqY from ⟨arT, ay8, anW, axY, awP, aoo, trivial⟩) Tryz.func68 rfl (by kernel_rfl) rfl (by decide) Tryz.ntmps68 (awX a0 a1) (aue a0 a1 hp rfl) E w vs hr hv
 . cases h
def aq9 : List (Nat × Ag.Spec) := [(68, .pure ail), (139, .pure NZ), (148, .pure aoH)]
def ajT (cm:Int) (ge:Bool) (ic:Int) (ie:Bool) : List AV := [AV.agg [AV.int .i64 cm, AV.bool ge], AV.agg [AV.int .i64 ic, AV.bool ie]]
theorem aw6 (cm:Int) (ge:Bool) (ic:Int) (ie:Bool) (K : AV -> Prop) : vwp tab (bC aq9) (fun _ _ _ => False) 0 (aF Tryz.f188) (entry (ajT cm ge ic ie) 38) (aV tab [.cell 4 64] fun v s => K (v.frz s.mem)) = alP cm ge ic ie (fun r0 r1 => K (AV.agg [AV.int .i64 r0, AV.bool r1]))  := by kernel_rfl
def aoe : List AV -> Option (Prop × RT)
  | [AV.agg [AV.int .i64 cm, AV.bool ge], AV.agg [AV.int .i64 ic, AV.bool ie]] => some (MQ cm ge ic ie, RT.leaf (AV.agg [AV.int .i64 (oI cm ge ic ie), AV.bool (uF cm ge ic ie)]))
  | _ => none
theorem aw7 : aU Tryz.prog 188 (.pure aoe) := by
 intro xs p r h hp E w vs hr hv; unfold aoe at h; split at h
 . rename_i cm ge ic ie
   obtain ⟨rfl, rfl⟩ := aG h
   exact dF (ys := ajT cm ge ic ie) (rs := [.cell 4 64]) aX (show aO Tryz.prog aq9 from ⟨aqZ, Tq, axY, trivial⟩) Tryz.func188 rfl (by kernel_rfl) rfl (by decide) Tryz.ntmps188 (aw6 cm ge ic ie) (auk cm ge ic ie hp rfl) E w vs hr hv
 . cases h
def agr : List (Nat × Ag.Spec) := [(139, .pure NZ)]
def Ej (ig:Nat) (cm:Nat -> Int) (ge : Nat -> Bool) (kc:Int) : VS := ⟨dD 21 0 [(0, AV.rs none ig [CF.I .i64 cm, CF.B ge]), (2, AV.bool false), (3, AV.int .i64 kc)], [], false, 0⟩
def xq (ig:Nat) (cm:Nat -> Int) (ge : Nat -> Bool) (o0:Int) : VS := ⟨dD 21 0 [(0, AV.rs none ig [CF.I .i64 cm, CF.B ge]), (2, AV.bool false), (3, AV.int .i64 o0)], [], false, 0⟩
def Em (ig:Nat) (cm:Nat -> Int) (ge : Nat -> Bool) (o0:Bool) (o1:Int) : VS := ⟨dD 21 0 [(0, AV.rs none ig [CF.I .i64 cm, CF.B ge]), (2, AV.bool o0), (3, AV.int .i64 o1)], [], false, 0⟩
theorem an2 (ig:Nat) (cm:Nat -> Int) (ge : Nat -> Bool) (kc:Int) (Q : Exit -> VS -> Prop) : vwp tab (bC agr) (fun _ _ _ => False) 0 (gY (dA (aF Tryz.f222) 0)) (Ej ig cm ge kc) (QM [0, 2, 3] [] 0 Q) = Iy ig cm ge kc (fun w0 => Q .normal (Ej ig cm ge w0)) (fun o0 => Q (.exit 0) (xq ig cm ge o0)) (fun o0 o1 => Q .ret (Em ig cm ge o0 o1))  := by kernel_rfl
theorem an3 {X : Cx} (hX : Std Tryz.prog tab (bC agr) X) (b : Code) (hb : b = aF Tryz.f222) (ig:Nat) (cm:Nat -> Int) (ge : Nat -> Bool) (fu:Nat) (kc:Int) (Q : Exit -> VS -> Prop) (h : yF ig cm ge fu kc (fun o0 => Q (.exit 0) (xq ig cm ge o0)) (fun o0 o1 => Q .ret (Em ig cm ge o0 o1))) : TrK X b 0 (Ej ig cm ge kc) Q := by
  subst hb
  refine iF (V := Int) (fun v => Ej ig cm ge v) (fun f v => yF ig cm ge f v (fun o0 => Q (.exit 0) (xq ig cm ge o0)) (fun o0 o1 => Q .ret (Em ig cm ge o0 o1))) (fun _ h => h) (by kernel_rfl) (fun f v hv => ?_) (fuel := fu) (v0 := (kc)) h
  refine mO (bs := [0, 2, 3]) (ms := []) (nm := 0) ?_
  refine dG hX rfl (tr := (fun _ _ _ => False)) (fun _ _ _ h => h.elim) ?_
  refine Eq.mpr (an2 ig cm ge v _) ?_
  exact abd ig cm ge v (fun w0 h => ⟨w0, rfl, h⟩) (fun _ h => h) (fun _ _ h => h) hv
def ain (ig:Nat) (cm:Nat -> Int) (ge : Nat -> Bool) (k:Nat) (st : VS) (Q : Exit -> VS -> Prop) : Prop := match k with
  | 0 => TL [0, 2, 3] [] 0 (convs st []) (fun st => Ej ig cm ge (intOf (tAt st 3))) (fun st => yF ig cm ge fuel (intOf (tAt st 3)) (fun o0 => Q (.exit 0) (xq ig cm ge o0)) (fun o0 o1 => Q .ret (Em ig cm ge o0 o1)))
  | _ => False
theorem aq1 {X : Cx} (hX : Std Tryz.prog tab (bC agr) X) (b : Code) (hb : b = aF Tryz.f222) (ig:Nat) (cm:Nat -> Int) (ge : Nat -> Bool) (j:Nat) (st : VS) (Q : Exit -> VS -> Prop) (h : ain ig cm ge j st Q) : TrK X b j st Q := by
  unfold ain at h
  split at h
  . exact lF h (fun h' => an3 hX b hb ig cm ge _ _ Q h')
  . exact h.elim
def ags (ig:Nat) (cm:Nat -> Int) (ge : Nat -> Bool) : List AV := [AV.rs none ig [CF.I .i64 cm, CF.B ge]]
theorem aw0 (ig:Nat) (cm:Nat -> Int) (ge : Nat -> Bool) (K : AV -> Prop) : vwp tab (bC agr) (ain ig cm ge) 0 (aF Tryz.f222) (entry (ags ig cm ge) 21) (aV tab [.tmp 2] fun v s => K (v.frz s.mem)) = ac6 ig cm ge (fun r0 => K (AV.bool r0)) (fun p0 y0 y1 => Ej ig cm ge p0 = Ej ig cm ge p0 /\ yF ig cm ge fuel p0 y0 y1) := by kernel_rfl
theorem aq2 (ig:Nat) (cm:Nat -> Int) (ge : Nat -> Bool) {K0 : Bool -> Prop} : ac6 ig cm ge K0 (yF ig cm ge fuel) -> ac6 ig cm ge K0 (fun p0 y0 y1 => Ej ig cm ge p0 = Ej ig cm ge p0 /\ yF ig cm ge fuel p0 y0 y1) := by
  unfold ac6
  repeat' first
    | exact id
    | refine dU ?_
    | refine cO ?_ ?_
    | refine cZ ?_
    | refine fun h => ⟨rfl, abe _ _ _  (fun _ => ?_) (fun _ _ => ?_) _ _  h⟩
def agt : List AV -> Option (Prop × RT)
  | [AV.rs sq0 sn0 sc0] => cond (fG [KC.I .i64, KC.B] sc0) (some (ac7 (nOf sn0 sc0) (aA sc0 0) (bP sc0 1), RT.leaf (AV.bool (kR (nOf sn0 sc0) (aA sc0 0) (bP sc0 1))))) none
  | _ => none
theorem an4 : aU Tryz.prog 222 (.pure agt) := by
 intro xs p r h hp E w vs hr hv; unfold agt at h; split at h
 . rename_i sq0 sn0 sc0
   obtain ⟨hk0, h⟩ := dW h
   obtain ⟨rfl, rfl⟩ := aG h
   have hG := (show aO Tryz.prog agr from ⟨Tq, trivial⟩)
   have hv' := ((AV.les.cons (AV.le.rs hk0) AV.les.nil) _ _ hv : VRs E.bare (ags (nOf sn0 sc0) (aA sc0 0) (bP sc0 1)) vs)
   refine eF (c := aF Tryz.f222) (rs := [.tmp 2]) (ys := ags (nOf sn0 sc0) (aA sc0 0) (bP sc0 1)) aX (gB hG) Tryz.func222 rfl (by kernel_rfl) rfl (by decide) (fun X hX hrho => ?_) E w vs hr hv'
   rw [Tryz.ntmps222]
   refine dG hX rfl (tr := ain (nOf sn0 sc0) (aA sc0 0) (bP sc0 1)) (fun j st Q h => aq1 hX _ rfl (nOf sn0 sc0) (aA sc0 0) (bP sc0 1) j st Q h) (Eq.mpr (aw0 (nOf sn0 sc0) (aA sc0 0) (bP sc0 1) (fun x => x = _)) ?_)
   exact aq2 (nOf sn0 sc0) (aA sc0 0) (bP sc0 1) (aug (nOf sn0 sc0) (aA sc0 0) (bP sc0 1) hp rfl)
 . cases h
def agu : List (Nat × Ag.Spec) := [(139, .pure NZ), (143, .pure aiK), (145, .pure agp), (221, .pure adW), (222, .pure agt)]
def En (ig:Nat) (cm:Nat -> Int) (ge : Nat -> Bool) (ir:Int) (k8:Bool) (k9 lc:Int) : VS := ⟨dD 30 0 [(0, AV.rs none ig [CF.I .i64 cm, CF.B ge]), (2, AV.ptr false 0 0 0), (3, AV.ptr false 1 0 0), (4, AV.int .i64 ir)], [.one true 64 [AV.int .i64 0, AV.bool false], .one true 185 [AV.bool k8, AV.int .u64 k9, AV.int .u64 lc]], false, 0⟩
def xu (ig:Nat) (cm:Nat -> Int) (ge : Nat -> Bool) (o0:Int) (o1:Bool) (o2 o3:Int) : VS := ⟨dD 30 0 [(0, AV.rs none ig [CF.I .i64 cm, CF.B ge]), (2, AV.ptr false 0 0 0), (3, AV.ptr false 1 0 0), (4, AV.int .i64 o0)], [.one true 64 [AV.int .i64 0, AV.bool false], .one true 185 [AV.bool o1, AV.int .u64 o2, AV.int .u64 o3]], false, 0⟩
theorem an5 (ig:Nat) (cm:Nat -> Int) (ge : Nat -> Bool) (ir:Int) (k8:Bool) (k9 lc:Int) (Q : Exit -> VS -> Prop) : vwp tab (bC agu) (fun _ _ _ => False) 0 (gY (dA (aF Tryz.f140) 0)) (En ig cm ge ir k8 k9 lc) (QM [0, 2, 3, 4] [0, 1] 2 Q) = Iz ig cm ge ir k8 k9 lc (fun w0 w1 w2 w3 => Q .normal (En ig cm ge w0 w1 w2 w3)) (fun o0 o1 o2 o3 => Q (.exit 0) (xu ig cm ge o0 o1 o2 o3))  := by kernel_rfl
theorem an6 {X : Cx} (hX : Std Tryz.prog tab (bC agu) X) (b : Code) (hb : b = aF Tryz.f140) (ig:Nat) (cm:Nat -> Int) (ge : Nat -> Bool) (fu:Nat) (ir:Int) (k8:Bool) (k9 lc:Int) (Q : Exit -> VS -> Prop) (h : yG ig cm ge fu ir k8 k9 lc (fun o0 o1 o2 o3 => Q (.exit 0) (xu ig cm ge o0 o1 o2 o3))) : TrK X b 0 (En ig cm ge ir k8 k9 lc) Q := by
  subst hb
  refine iF (V := Int × Bool × Int × Int) (fun v => En ig cm ge v.1 v.2.1 v.2.2.1 v.2.2.2) (fun f v => yG ig cm ge f v.1 v.2.1 v.2.2.1 v.2.2.2 (fun o0 o1 o2 o3 => Q (.exit 0) (xu ig cm ge o0 o1 o2 o3))) (fun _ h => h) (by kernel_rfl) (fun f v hv => ?_) (fuel := fu) (v0 := (ir, k8, k9, lc)) h
  refine mO (bs := [0, 2, 3, 4]) (ms := [0, 1]) (nm := 2) ?_
  refine dG hX rfl (tr := (fun _ _ _ => False)) (fun _ _ _ h => h.elim) ?_
  refine Eq.mpr (an5 ig cm ge v.1 v.2.1 v.2.2.1 v.2.2.2 _) ?_
  exact abg ig cm ge v.1 v.2.1 v.2.2.1 v.2.2.2 (fun w0 w1 w2 w3 h => ⟨(w0, w1, w2, w3), rfl, h⟩) (fun _ _ _ _ h => h) hv
def aio (ig:Nat) (cm:Nat -> Int) (ge : Nat -> Bool) (k:Nat) (st : VS) (Q : Exit -> VS -> Prop) : Prop := match k with
  | 0 => TL [0, 2, 3, 4] [0, 1] 2 (convs st []) (fun st => En ig cm ge (intOf (tAt st 4)) (gV (mAt st 1 0)) (intOf (mAt st 1 1)) (intOf (mAt st 1 2))) (fun st => yG ig cm ge fuel (intOf (tAt st 4)) (gV (mAt st 1 0)) (intOf (mAt st 1 1)) (intOf (mAt st 1 2)) (fun o0 o1 o2 o3 => Q (.exit 0) (xu ig cm ge o0 o1 o2 o3)))
  | _ => False
theorem aq3 {X : Cx} (hX : Std Tryz.prog tab (bC agu) X) (b : Code) (hb : b = aF Tryz.f140) (ig:Nat) (cm:Nat -> Int) (ge : Nat -> Bool) (j:Nat) (st : VS) (Q : Exit -> VS -> Prop) (h : aio ig cm ge j st Q) : TrK X b j st Q := by
  unfold aio at h
  split at h
  . exact lF h (fun h' => an6 hX b hb ig cm ge _ _ _ _ _ Q h')
  . exact h.elim
def agv (ig:Nat) (cm:Nat -> Int) (ge : Nat -> Bool) : List AV := [AV.rs none ig [CF.I .i64 cm, CF.B ge]]
theorem aw1 (ig:Nat) (cm:Nat -> Int) (ge : Nat -> Bool) (K : AV -> Prop) : vwp tab (bC agu) (aio ig cm ge) 0 (aF Tryz.f140) (entry (agv ig cm ge) 30) (aV tab [.cell 2 64] fun v s => K (v.frz s.mem)) = ac8 ig cm ge (fun r0 r1 => K (AV.agg [AV.int .i64 r0, AV.bool r1])) (fun p0 p1 p2 p3 y0 => En ig cm ge p0 p1 p2 p3 = En ig cm ge p0 p1 p2 p3 /\ yG ig cm ge fuel p0 p1 p2 p3 y0) := by kernel_rfl
theorem aq4 (ig:Nat) (cm:Nat -> Int) (ge : Nat -> Bool) {K0 : Int -> Bool -> Prop} : ac8 ig cm ge K0 (yG ig cm ge fuel) -> ac8 ig cm ge K0 (fun p0 p1 p2 p3 y0 => En ig cm ge p0 p1 p2 p3 = En ig cm ge p0 p1 p2 p3 /\ yG ig cm ge fuel p0 p1 p2 p3 y0) := by
  unfold ac8
  repeat' first
    | exact id
    | refine dU ?_
    | refine cO ?_ ?_
    | refine cZ ?_
    | refine fun h => ⟨rfl, abh _ _ _  (fun _ _ _ _ => ?_) _ _ _ _ _  h⟩
def agw : List AV -> Option (Prop × RT)
  | [AV.rs sq0 sn0 sc0] => cond (fG [KC.I .i64, KC.B] sc0) (some (O4 (nOf sn0 sc0) (aA sc0 0) (bP sc0 1), RT.leaf (AV.agg [AV.int .i64 (rH (nOf sn0 sc0) (aA sc0 0) (bP sc0 1)), AV.bool (pY (nOf sn0 sc0) (aA sc0 0) (bP sc0 1))]))) none
  | _ => none
theorem an7 : aU Tryz.prog 140 (.pure agw) := by
 intro xs p r h hp E w vs hr hv; unfold agw at h; split at h
 . rename_i sq0 sn0 sc0
   obtain ⟨hk0, h⟩ := dW h
   obtain ⟨rfl, rfl⟩ := aG h
   have hG := (show aO Tryz.prog agu from ⟨Tq, arT, anW, aiH, an4, trivial⟩)
   have hv' := ((AV.les.cons (AV.le.rs hk0) AV.les.nil) _ _ hv : VRs E.bare (agv (nOf sn0 sc0) (aA sc0 0) (bP sc0 1)) vs)
   refine eF (c := aF Tryz.f140) (rs := [.cell 2 64]) (ys := agv (nOf sn0 sc0) (aA sc0 0) (bP sc0 1)) aX (gB hG) Tryz.func140 rfl (by kernel_rfl) rfl (by decide) (fun X hX hrho => ?_) E w vs hr hv'
   rw [Tryz.ntmps140]
   refine dG hX rfl (tr := aio (nOf sn0 sc0) (aA sc0 0) (bP sc0 1)) (fun j st Q h => aq3 hX _ rfl (nOf sn0 sc0) (aA sc0 0) (bP sc0 1) j st Q h) (Eq.mpr (aw1 (nOf sn0 sc0) (aA sc0 0) (bP sc0 1) (fun x => x = _)) ?_)
   exact aq4 (nOf sn0 sc0) (aA sc0 0) (bP sc0 1) (auh (nOf sn0 sc0) (aA sc0 0) (bP sc0 1) hp rfl)
 . cases h
def arF : List (Nat × Ag.Spec) := [(139, .pure NZ), (222, .pure agt)]
def Du (ig:Nat) (cm:Nat -> Int) (ge : Nat -> Bool) (kc j5:Int) : VS := ⟨dD 41 0 [(0, AV.rs none ig [CF.I .i64 cm, CF.B ge]), (2, AV.ptr false 0 0 0), (3, AV.int .i64 kc), (5, AV.int .i64 j5)], [.one true 64 [AV.int .i64 0, AV.bool false]], false, 0⟩
def uP (ig:Nat) (cm:Nat -> Int) (ge : Nat -> Bool) (o0 o1:Int) : VS := ⟨dD 41 0 [(0, AV.rs none ig [CF.I .i64 cm, CF.B ge]), (2, AV.ptr false 0 0 0), (3, AV.int .i64 o0), (5, AV.int .i64 o1)], [.one true 64 [AV.int .i64 0, AV.bool false]], false, 0⟩
theorem aop (ig:Nat) (cm:Nat -> Int) (ge : Nat -> Bool) (kc j5:Int) (Q : Exit -> VS -> Prop) : vwp tab (bC arF) (fun _ _ _ => False) 0 (gY (dA (aF Tryz.f187) 0)) (Du ig cm ge kc j5) (QM [0, 2, 3, 5] [0] 1 Q) = Gl ig cm ge kc j5 (fun w0 w1 => Q .normal (Du ig cm ge w0 w1)) (fun o0 o1 => Q (.exit 0) (uP ig cm ge o0 o1))  := by kernel_rfl
theorem aoq {X : Cx} (hX : Std Tryz.prog tab (bC arF) X) (b : Code) (hb : b = aF Tryz.f187) (ig:Nat) (cm:Nat -> Int) (ge : Nat -> Bool) (fu:Nat) (kc j5:Int) (Q : Exit -> VS -> Prop) (h : xI ig cm ge fu kc j5 (fun o0 o1 => Q (.exit 0) (uP ig cm ge o0 o1))) : TrK X b 0 (Du ig cm ge kc j5) Q := by
  subst hb
  refine iF (V := Int × Int) (fun v => Du ig cm ge v.1 v.2) (fun f v => xI ig cm ge f v.1 v.2 (fun o0 o1 => Q (.exit 0) (uP ig cm ge o0 o1))) (fun _ h => h) (by kernel_rfl) (fun f v hv => ?_) (fuel := fu) (v0 := (kc, j5)) h
  refine mO (bs := [0, 2, 3, 5]) (ms := [0]) (nm := 1) ?_
  refine dG hX rfl (tr := (fun _ _ _ => False)) (fun _ _ _ h => h.elim) ?_
  refine Eq.mpr (aop ig cm ge v.1 v.2 _) ?_
  exact abp ig cm ge v.1 v.2 (fun w0 w1 h => ⟨(w0, w1), rfl, h⟩) (fun _ _ h => h) hv
def aiX (ig:Nat) (cm:Nat -> Int) (ge : Nat -> Bool) (k:Nat) (st : VS) (Q : Exit -> VS -> Prop) : Prop := match k with
  | 0 => TL [0, 2, 3, 5] [0] 1 (convs st []) (fun st => Du ig cm ge (intOf (tAt st 3)) (intOf (tAt st 5))) (fun st => xI ig cm ge fuel (intOf (tAt st 3)) (intOf (tAt st 5)) (fun o0 o1 => Q (.exit 0) (uP ig cm ge o0 o1)))
  | _ => False
theorem arj {X : Cx} (hX : Std Tryz.prog tab (bC arF) X) (b : Code) (hb : b = aF Tryz.f187) (ig:Nat) (cm:Nat -> Int) (ge : Nat -> Bool) (j:Nat) (st : VS) (Q : Exit -> VS -> Prop) (h : aiX ig cm ge j st Q) : TrK X b j st Q := by
  unfold aiX at h
  split at h
  . exact lF h (fun h' => aoq hX b hb ig cm ge _ _ _ Q h')
  . exact h.elim
def aj9 (ig:Nat) (cm:Nat -> Int) (ge : Nat -> Bool) : List AV := [AV.rs none ig [CF.I .i64 cm, CF.B ge]]
theorem axq (ig:Nat) (cm:Nat -> Int) (ge : Nat -> Bool) (K : AV -> Prop) : vwp tab (bC arF) (aiX ig cm ge) 0 (aF Tryz.f187) (entry (aj9 ig cm ge) 41) (aV tab [.cell 2 64] fun v s => K (v.frz s.mem)) = al3 ig cm ge (fun r0 r1 => K (AV.agg [AV.int .i64 r0, AV.bool r1])) (fun p0 p1 y0 => Du ig cm ge p0 p1 = Du ig cm ge p0 p1 /\ xI ig cm ge fuel p0 p1 y0) := by kernel_rfl
theorem arl (ig:Nat) (cm:Nat -> Int) (ge : Nat -> Bool) {K0 : Int -> Bool -> Prop} : al3 ig cm ge K0 (xI ig cm ge fuel) -> al3 ig cm ge K0 (fun p0 p1 y0 => Du ig cm ge p0 p1 = Du ig cm ge p0 p1 /\ xI ig cm ge fuel p0 p1 y0) := by
  unfold al3
  repeat' first
    | exact id
    | refine dU ?_
    | refine cO ?_ ?_
    | refine cZ ?_
    | refine fun h => ⟨rfl, abv _ _ _  (fun _ _ => ?_) _ _ _  h⟩
def aiD : List AV -> Option (Prop × RT)
  | [AV.rs sq0 sn0 sc0] => cond (fG [KC.I .i64, KC.B] sc0) (some (Fj (nOf sn0 sc0) (aA sc0 0) (bP sc0 1), RT.leaf (AV.agg [AV.int .i64 (vZ (nOf sn0 sc0) (aA sc0 0) (bP sc0 1)), AV.bool (wo (nOf sn0 sc0) (aA sc0 0) (bP sc0 1))]))) none
  | _ => none
theorem arG : aU Tryz.prog 187 (.pure aiD) := by
 intro xs p r h hp E w vs hr hv; unfold aiD at h; split at h
 . rename_i sq0 sn0 sc0
   obtain ⟨hk0, h⟩ := dW h
   obtain ⟨rfl, rfl⟩ := aG h
   have hG := (show aO Tryz.prog arF from ⟨Tq, an4, trivial⟩)
   have hv' := ((AV.les.cons (AV.le.rs hk0) AV.les.nil) _ _ hv : VRs E.bare (aj9 (nOf sn0 sc0) (aA sc0 0) (bP sc0 1)) vs)
   refine eF (c := aF Tryz.f187) (rs := [.cell 2 64]) (ys := aj9 (nOf sn0 sc0) (aA sc0 0) (bP sc0 1)) aX (gB hG) Tryz.func187 rfl (by kernel_rfl) rfl (by decide) (fun X hX hrho => ?_) E w vs hr hv'
   rw [Tryz.ntmps187]
   refine dG hX rfl (tr := aiX (nOf sn0 sc0) (aA sc0 0) (bP sc0 1)) (fun j st Q h => arj hX _ rfl (nOf sn0 sc0) (aA sc0 0) (bP sc0 1) j st Q h) (Eq.mpr (axq (nOf sn0 sc0) (aA sc0 0) (bP sc0 1) (fun x => x = _)) ?_)
   exact arl (nOf sn0 sc0) (aA sc0 0) (bP sc0 1) (auE (nOf sn0 sc0) (aA sc0 0) (bP sc0 1) hp rfl)
 . cases h
def asj : List (Nat × Ag.Spec) := [(139, .pure NZ), (222, .pure agt)]
def Eo (ig:Nat) (cm:Nat -> Int) (ge : Nat -> Bool) (kc j5:Int) : VS := ⟨dD 41 0 [(0, AV.rs none ig [CF.I .i64 cm, CF.B ge]), (2, AV.ptr false 0 0 0), (3, AV.int .i64 kc), (5, AV.int .i64 j5)], [.one true 64 [AV.int .i64 0, AV.bool false]], false, 0⟩
def vX (ig:Nat) (cm:Nat -> Int) (ge : Nat -> Bool) (o0 o1:Int) : VS := ⟨dD 41 0 [(0, AV.rs none ig [CF.I .i64 cm, CF.B ge]), (2, AV.ptr false 0 0 0), (3, AV.int .i64 o0), (5, AV.int .i64 o1)], [.one true 64 [AV.int .i64 0, AV.bool false]], false, 0⟩
theorem aoB (ig:Nat) (cm:Nat -> Int) (ge : Nat -> Bool) (kc j5:Int) (Q : Exit -> VS -> Prop) : vwp tab (bC asj) (fun _ _ _ => False) 0 (gY (dA (aF Tryz.f201) 0)) (Eo ig cm ge kc j5) (QM [0, 2, 3, 5] [0] 1 Q) = Gm ig cm ge kc j5 (fun w0 w1 => Q .normal (Eo ig cm ge w0 w1)) (fun o0 o1 => Q (.exit 0) (vX ig cm ge o0 o1))  := by kernel_rfl
theorem aoD {X : Cx} (hX : Std Tryz.prog tab (bC asj) X) (b : Code) (hb : b = aF Tryz.f201) (ig:Nat) (cm:Nat -> Int) (ge : Nat -> Bool) (fu:Nat) (kc j5:Int) (Q : Exit -> VS -> Prop) (h : xO ig cm ge fu kc j5 (fun o0 o1 => Q (.exit 0) (vX ig cm ge o0 o1))) : TrK X b 0 (Eo ig cm ge kc j5) Q := by
  subst hb
  refine iF (V := Int × Int) (fun v => Eo ig cm ge v.1 v.2) (fun f v => xO ig cm ge f v.1 v.2 (fun o0 o1 => Q (.exit 0) (vX ig cm ge o0 o1))) (fun _ h => h) (by kernel_rfl) (fun f v hv => ?_) (fuel := fu) (v0 := (kc, j5)) h
  refine mO (bs := [0, 2, 3, 5]) (ms := [0]) (nm := 1) ?_
  refine dG hX rfl (tr := (fun _ _ _ => False)) (fun _ _ _ h => h.elim) ?_
  refine Eq.mpr (aoB ig cm ge v.1 v.2 _) ?_
  exact abx ig cm ge v.1 v.2 (fun w0 w1 h => ⟨(w0, w1), rfl, h⟩) (fun _ _ h => h) hv
def ajr (ig:Nat) (cm:Nat -> Int) (ge : Nat -> Bool) (k:Nat) (st : VS) (Q : Exit -> VS -> Prop) : Prop := match k with
  | 0 => TL [0, 2, 3, 5] [0] 1 (convs st []) (fun st => Eo ig cm ge (intOf (tAt st 3)) (intOf (tAt st 5))) (fun st => xO ig cm ge fuel (intOf (tAt st 3)) (intOf (tAt st 5)) (fun o0 o1 => Q (.exit 0) (vX ig cm ge o0 o1)))
  | _ => False
theorem arH {X : Cx} (hX : Std Tryz.prog tab (bC asj) X) (b : Code) (hb : b = aF Tryz.f201) (ig:Nat) (cm:Nat -> Int) (ge : Nat -> Bool) (j:Nat) (st : VS) (Q : Exit -> VS -> Prop) (h : ajr ig cm ge j st Q) : TrK X b j st Q := by
  unfold ajr at h
  split at h
  . exact lF h (fun h' => aoD hX b hb ig cm ge _ _ _ Q h')
  . exact h.elim
def akt (ig:Nat) (cm:Nat -> Int) (ge : Nat -> Bool) : List AV := [AV.rs none ig [CF.I .i64 cm, CF.B ge]]
theorem ax5 (ig:Nat) (cm:Nat -> Int) (ge : Nat -> Bool) (K : AV -> Prop) : vwp tab (bC asj) (ajr ig cm ge) 0 (aF Tryz.f201) (entry (akt ig cm ge) 41) (aV tab [.cell 2 64] fun v s => K (v.frz s.mem)) = ams ig cm ge (fun r0 r1 => K (AV.agg [AV.int .i64 r0, AV.bool r1])) (fun p0 p1 y0 => Eo ig cm ge p0 p1 = Eo ig cm ge p0 p1 /\ xO ig cm ge fuel p0 p1 y0) := by kernel_rfl
theorem arJ (ig:Nat) (cm:Nat -> Int) (ge : Nat -> Bool) {K0 : Int -> Bool -> Prop} : ams ig cm ge K0 (xO ig cm ge fuel) -> ams ig cm ge K0 (fun p0 p1 y0 => Eo ig cm ge p0 p1 = Eo ig cm ge p0 p1 /\ xO ig cm ge fuel p0 p1 y0) := by
  unfold ams
  repeat' first
    | exact id
    | refine dU ?_
    | refine cO ?_ ?_
    | refine cZ ?_
    | refine fun h => ⟨rfl, abH _ _ _  (fun _ _ => ?_) _ _ _  h⟩
def aoL : List AV -> Option (Prop × RT)
  | [AV.rs sq0 sn0 sc0] => cond (fG [KC.I .i64, KC.B] sc0) (some (afH (nOf sn0 sc0) (aA sc0 0) (bP sc0 1), RT.leaf (AV.agg [AV.int .i64 (iL (nOf sn0 sc0) (aA sc0 0) (bP sc0 1)), AV.bool (Aw (nOf sn0 sc0) (aA sc0 0) (bP sc0 1))]))) none
  | _ => none
theorem ax6 : aU Tryz.prog 201 (.pure aoL) := by
 intro xs p r h hp E w vs hr hv; unfold aoL at h; split at h
 . rename_i sq0 sn0 sc0
   obtain ⟨hk0, h⟩ := dW h
   obtain ⟨rfl, rfl⟩ := aG h
   have hG := (show aO Tryz.prog asj from ⟨Tq, an4, trivial⟩)
   have hv' := ((AV.les.cons (AV.le.rs hk0) AV.les.nil) _ _ hv : VRs E.bare (akt (nOf sn0 sc0) (aA sc0 0) (bP sc0 1)) vs)
   refine eF (c := aF Tryz.f201) (rs := [.cell 2 64]) (ys := akt (nOf sn0 sc0) (aA sc0 0) (bP sc0 1)) aX (gB hG) Tryz.func201 rfl (by kernel_rfl) rfl (by decide) (fun X hX hrho => ?_) E w vs hr hv'
   rw [Tryz.ntmps201]
   refine dG hX rfl (tr := ajr (nOf sn0 sc0) (aA sc0 0) (bP sc0 1)) (fun j st Q h => arH hX _ rfl (nOf sn0 sc0) (aA sc0 0) (bP sc0 1) j st Q h) (Eq.mpr (ax5 (nOf sn0 sc0) (aA sc0 0) (bP sc0 1) (fun x => x = _)) ?_)
   exact arJ (nOf sn0 sc0) (aA sc0 0) (bP sc0 1) (au5 (nOf sn0 sc0) (aA sc0 0) (bP sc0 1) hp rfl)
 . cases h






def aqJ : List (Nat × Ag.Spec) := [(187, .pure aiD), (201, .pure aoL)]
def ajJ (cm:Int) (ge:Bool) (ic:Int) (ie:Bool) (il:Int) (io:Bool) : List AV := [AV.agg [AV.int .i64 cm, AV.bool ge], AV.agg [AV.int .i64 ic, AV.bool ie], AV.agg [AV.int .i64 il, AV.bool io]]
theorem awN (cm:Int) (ge:Bool) (ic:Int) (ie:Bool) (il:Int) (io:Bool) (K : AV -> Prop) : vwp tab (bC aqJ) (fun _ _ _ => False) 0 (aF Tryz.f190) (entry (ajJ cm ge ic ie il io) 14) (aV tab [.cell 6 64] fun v s => K (v.frz s.mem)) = alD cm ge ic ie il io (fun r0 r1 => K (AV.agg [AV.int .i64 r0, AV.bool r1]))  := by kernel_rfl
def aib : List AV -> Option (Prop × RT)
  | [AV.agg [AV.int .i64 cm, AV.bool ge], AV.agg [AV.int .i64 ic, AV.bool ie], AV.agg [AV.int .i64 il, AV.bool io]] => some (ae6 cm ge ic ie il io, RT.leaf (AV.agg [AV.int .i64 (iY cm ge ic ie il io), AV.bool (iC cm ge ic ie il io)]))
  | _ => none
theorem aqK : aU Tryz.prog 190 (.pure aib) := by
 intro xs p r h hp E w vs hr hv; unfold aib at h; split at h
 . rename_i cm ge ic ie il io
   obtain ⟨rfl, rfl⟩ := aG h
   exact dF (ys := ajJ cm ge ic ie il io) (rs := [.cell 6 64]) aX (show aO Tryz.prog aqJ from ⟨arG, ax6, trivial⟩) Tryz.func190 rfl (by kernel_rfl) rfl (by decide) Tryz.ntmps190 (awN cm ge ic ie il io) (at1 cm ge ic ie il io hp rfl) E w vs hr hv
 . cases h
def arY : List (Nat × Ag.Spec) := [(139, .pure NZ)]
def agO (cm:Int) (ge:Bool) : List AV := [AV.agg [AV.int .i64 cm, AV.bool ge]]
theorem axG (cm:Int) (ge:Bool) (K : AV -> Prop) : vwp tab (bC arY) (fun _ _ _ => False) 0 (aF Tryz.f65) (entry (agO cm ge) 16) (aV tab [.tmp 2] fun v s => K (v.frz s.mem)) = amc cm ge (fun r0 => K (AV.int .i64 r0))  := by kernel_rfl
def aiN : List AV -> Option (Prop × RT)
  | [AV.agg [AV.int .i64 cm, AV.bool ge]] => some (XZ cm ge, RT.leaf (AV.int .i64 (Gf cm ge)))
  | _ => none
theorem arZ : aU Tryz.prog 65 (.pure aiN) := by
 intro xs p r h hp E w vs hr hv; unfold aiN at h; split at h
 . rename_i cm ge
   obtain ⟨rfl, rfl⟩ := aG h
   exact dF (ys := agO cm ge) (rs := [.tmp 2]) aX (show aO Tryz.prog arY from ⟨Tq, trivial⟩) Tryz.func65 rfl (by kernel_rfl) rfl (by decide) Tryz.ntmps65 (axG cm ge) (auQ cm ge hp rfl) E w vs hr hv
 . cases h
def aqT : List (Nat × Ag.Spec) := [(140, .pure agw)]
def ajO (cm:Int) (ge:Bool) (ic:Int) (ie:Bool) : List AV := [AV.agg [AV.int .i64 cm, AV.bool ge], AV.agg [AV.int .i64 ic, AV.bool ie]]
theorem awT (cm:Int) (ge:Bool) (ic:Int) (ie:Bool) (K : AV -> Prop) : vwp tab (bC aqT) (fun _ _ _ => False) 0 (aF Tryz.f268) (entry (ajO cm ge ic ie) 9) (aV tab [.cell 4 64] fun v s => K (v.frz s.mem)) = alJ cm ge ic ie (fun r0 r1 => K (AV.agg [AV.int .i64 r0, AV.bool r1]))  := by kernel_rfl
def an0 : List AV -> Option (Prop × RT)
  | [AV.agg [AV.int .i64 cm, AV.bool ge], AV.agg [AV.int .i64 ic, AV.bool ie]] => some (ahw cm ge ic ie, RT.leaf (AV.agg [AV.int .i64 (lU cm ge ic ie), AV.bool (Iw cm ge ic ie)]))
  | _ => none
theorem awU : aU Tryz.prog 268 (.pure an0) := by
 intro xs p r h hp E w vs hr hv; unfold an0 at h; split at h
 . rename_i cm ge ic ie
   obtain ⟨rfl, rfl⟩ := aG h
   exact dF (ys := ajO cm ge ic ie) (rs := [.cell 4 64]) aX (show aO Tryz.prog aqT from ⟨an7, trivial⟩) Tryz.func268 rfl (by kernel_rfl) rfl (by decide) Tryz.ntmps268 (awT cm ge ic ie) (aub cm ge ic ie hp rfl) E w vs hr hv
 . cases h
def arf : List (Nat × Ag.Spec) := [(139, .pure NZ)]
def ajW (cm:Int) (ge:Bool) : List AV := [AV.agg [AV.int .i64 cm, AV.bool ge]]
theorem axb (cm:Int) (ge:Bool) (K : AV -> Prop) : vwp tab (bC arf) (fun _ _ _ => False) 0 (aF Tryz.f269) (entry (ajW cm ge) 24) (aV tab [.cell 2 64] fun v s => K (v.frz s.mem)) = alS cm ge (fun r0 r1 => K (AV.agg [AV.int .i64 r0, AV.bool r1]))  := by kernel_rfl
def ais : List AV -> Option (Prop × RT)
  | [AV.agg [AV.int .i64 cm, AV.bool ge]] => some (afh cm ge, RT.leaf (AV.agg [AV.int .i64 (gq cm ge), AV.bool (aK cm ge)]))
  | _ => none
theorem arh : aU Tryz.prog 269 (.pure ais) := by
 intro xs p r h hp E w vs hr hv; unfold ais at h; split at h
 . rename_i cm ge
   obtain ⟨rfl, rfl⟩ := aG h
   exact dF (ys := ajW cm ge) (rs := [.cell 2 64]) aX (show aO Tryz.prog arf from ⟨Tq, trivial⟩) Tryz.func269 rfl (by kernel_rfl) rfl (by decide) Tryz.ntmps269 (axb cm ge) (aun cm ge hp rfl) E w vs hr hv
 . cases h
def asJ : List (Nat × Ag.Spec) := [(64, .pure aij), (66, .pure aif), (141, .pure ah3), (188, .pure aoe), (190, .pure aib), (268, .pure an0), (269, .pure ais)]
def Es (cm:Int) (ge:Bool) (jr jb jz:Int) (jt:Bool) (kw:Int) (kx:Bool) : VS := ⟨dD 50 0 [(2, AV.ptr false 1 0 0), (3, AV.ptr false 2 0 0), (4, AV.ptr false 3 0 0), (5, AV.ptr false 4 0 0), (6, AV.int .i64 jr)], [.gone, .one true 64 [AV.int .i64 0, AV.bool false], .one true 64 [AV.int .i64 jb, AV.bool (aK cm ge)], .one true 64 [AV.int .i64 jz, AV.bool jt], .one true 64 [AV.int .i64 kw, AV.bool kx]], false, 0⟩
def vY (cm:Int) (ge:Bool) (o0 o1 o2:Int) (o3:Bool) (o4:Int) (o5:Bool) : VS := ⟨dD 50 0 [(2, AV.ptr false 1 0 0), (3, AV.ptr false 2 0 0), (4, AV.ptr false 3 0 0), (5, AV.ptr false 4 0 0), (6, AV.int .i64 o0)], [.gone, .one true 64 [AV.int .i64 0, AV.bool false], .one true 64 [AV.int .i64 o1, AV.bool (aK cm ge)], .one true 64 [AV.int .i64 o2, AV.bool o3], .one true 64 [AV.int .i64 o4, AV.bool o5]], false, 0⟩
theorem aoE (cm:Int) (ge:Bool) (jr jb jz:Int) (jt:Bool) (kw:Int) (kx:Bool) (Q : Exit -> VS -> Prop) : vwp tab (bC asJ) (fun _ _ _ => False) 0 (gY (dA (aF Tryz.f195) 0)) (Es cm ge jr jb jz jt kw kx) (QM [2, 3, 4, 5, 6] [1, 2, 3, 4] 5 Q) = IB cm ge jr jb jz jt kw kx (fun w0 w1 w2 w3 w4 w5 => Q .normal (Es cm ge w0 w1 w2 w3 w4 w5)) (fun o0 o1 o2 o3 o4 o5 => Q (.exit 0) (vY cm ge o0 o1 o2 o3 o4 o5))  := by kernel_rfl
theorem aoW {X : Cx} (hX : Std Tryz.prog tab (bC asJ) X) (b : Code) (hb : b = aF Tryz.f195) (cm:Int) (ge:Bool) (fu:Nat) (jr jb jz:Int) (jt:Bool) (kw:Int) (kx:Bool) (Q : Exit -> VS -> Prop) (h : sU cm ge fu jr jb jz jt kw kx (fun o0 o1 o2 o3 o4 o5 => Q (.exit 0) (vY cm ge o0 o1 o2 o3 o4 o5))) : TrK X b 0 (Es cm ge jr jb jz jt kw kx) Q := by
  subst hb
  refine iF (V := Int × Int × Int × Bool × Int × Bool) (fun v => Es cm ge v.1 v.2.1 v.2.2.1 v.2.2.2.1 v.2.2.2.2.1 v.2.2.2.2.2) (fun f v => sU cm ge f v.1 v.2.1 v.2.2.1 v.2.2.2.1 v.2.2.2.2.1 v.2.2.2.2.2 (fun o0 o1 o2 o3 o4 o5 => Q (.exit 0) (vY cm ge o0 o1 o2 o3 o4 o5))) (fun _ h => h) (by kernel_rfl) (fun f v hv => ?_) (fuel := fu) (v0 := (jr, jb, jz, jt, kw, kx)) h
  refine mO (bs := [2, 3, 4, 5, 6]) (ms := [1, 2, 3, 4]) (nm := 5) ?_
  refine dG hX rfl (tr := (fun _ _ _ => False)) (fun _ _ _ h => h.elim) ?_
  refine Eq.mpr (aoE cm ge v.1 v.2.1 v.2.2.1 v.2.2.2.1 v.2.2.2.2.1 v.2.2.2.2.2 _) ?_
  exact abJ cm ge v.1 v.2.1 v.2.2.1 v.2.2.2.1 v.2.2.2.2.1 v.2.2.2.2.2 (fun w0 w1 w2 w3 w4 w5 h => ⟨(w0, w1, w2, w3, w4, w5), rfl, h⟩) (fun _ _ _ _ _ _ h => h) hv
def ajL (cm:Int) (ge:Bool) (k:Nat) (st : VS) (Q : Exit -> VS -> Prop) : Prop := match k with
  | 0 => TL [2, 3, 4, 5, 6] [1, 2, 3, 4] 5 (convs st []) (fun st => Es cm ge (intOf (tAt st 6)) (intOf (mAt st 2 0)) (intOf (mAt st 3 0)) (gV (mAt st 3 1)) (intOf (mAt st 4 0)) (gV (mAt st 4 1))) (fun st => sU cm ge fuel (intOf (tAt st 6)) (intOf (mAt st 2 0)) (intOf (mAt st 3 0)) (gV (mAt st 3 1)) (intOf (mAt st 4 0)) (gV (mAt st 4 1)) (fun o0 o1 o2 o3 o4 o5 => Q (.exit 0) (vY cm ge o0 o1 o2 o3 o4 o5)))
  | _ => False
theorem arK {X : Cx} (hX : Std Tryz.prog tab (bC asJ) X) (b : Code) (hb : b = aF Tryz.f195) (cm:Int) (ge:Bool) (j:Nat) (st : VS) (Q : Exit -> VS -> Prop) (h : ajL cm ge j st Q) : TrK X b j st Q := by
  unfold ajL at h
  split at h
  . exact lF h (fun h' => aoW hX b hb cm ge _ _ _ _ _ _ _ Q h')
  . exact h.elim
def akC (cm:Int) (ge:Bool) : List AV := [AV.agg [AV.int .i64 cm, AV.bool ge]]
theorem ayx (cm:Int) (ge:Bool) (K : AV -> Prop) : vwp tab (bC asJ) (ajL cm ge) 0 (aF Tryz.f195) (entry (akC cm ge) 50) (aV tab [.cell 2 64] fun v s => K (v.frz s.mem)) = amG cm ge (fun r0 r1 => K (AV.agg [AV.int .i64 r0, AV.bool r1])) (fun p0 p1 p2 p3 p4 p5 y0 => Es cm ge p0 p1 p2 p3 p4 p5 = Es cm ge p0 p1 p2 p3 p4 p5 /\ sU cm ge fuel p0 p1 p2 p3 p4 p5 y0) := by kernel_rfl
theorem ar8 (cm:Int) (ge:Bool) {K0 : Int -> Bool -> Prop} : amG cm ge K0 (sU cm ge fuel) -> amG cm ge K0 (fun p0 p1 p2 p3 p4 p5 y0 => Es cm ge p0 p1 p2 p3 p4 p5 = Es cm ge p0 p1 p2 p3 p4 p5 /\ sU cm ge fuel p0 p1 p2 p3 p4 p5 y0) := by
  unfold amG
  repeat' first
    | exact id
    | refine dU ?_
    | refine cO ?_ ?_
    | refine cZ ?_
    | refine fun h => ⟨rfl, abR _ _  (fun _ _ _ _ _ _ => ?_) _ _ _ _ _ _ _  h⟩
def aiZ : List AV -> Option (Prop × RT)
  | [AV.agg [AV.int .i64 cm, AV.bool ge]] => some (Je cm ge, RT.leaf (AV.agg [AV.int .i64 (Dp cm ge), AV.bool (Dq cm ge)]))
  | _ => none
theorem asK : aU Tryz.prog 195 (.pure aiZ) := by
 intro xs p r h hp E w vs hr hv; unfold aiZ at h; split at h
 . rename_i cm ge
   obtain ⟨rfl, rfl⟩ := aG h
   have hG := (show aO Tryz.prog asJ from ⟨aqV, aqQ, aqk, aw7, aqK, awU, arh, trivial⟩)
   refine eF (c := aF Tryz.f195) (rs := [.cell 2 64]) (ys := akC cm ge) aX (gB hG) Tryz.func195 rfl (by kernel_rfl) rfl (by decide) (fun X hX hrho => ?_) E w vs hr hv
   rw [Tryz.ntmps195]
   refine dG hX rfl (tr := ajL cm ge) (fun j st Q h => arK hX _ rfl cm ge j st Q h) (Eq.mpr (ayx cm ge (fun x => x = _)) ?_)
   exact ar8 cm ge (avk cm ge hp rfl)
 . cases h
def asO : List (Nat × Ag.Spec) := [(195, .pure aiZ), (268, .pure an0), (269, .pure ais)]
def akG (cm:Int) (ge:Bool) : List AV := [AV.agg [AV.int .i64 cm, AV.bool ge]]
theorem ayE (cm:Int) (ge:Bool) (K : AV -> Prop) : vwp tab (bC asO) (fun _ _ _ => False) 0 (aF Tryz.f194) (entry (akG cm ge) 8) (aV tab [.cell 2 64] fun v s => K (v.frz s.mem)) = amK cm ge (fun r0 r1 => K (AV.agg [AV.int .i64 r0, AV.bool r1]))  := by kernel_rfl
def ao9 : List AV -> Option (Prop × RT)
  | [AV.agg [AV.int .i64 cm, AV.bool ge]] => some (ahK cm ge, RT.leaf (AV.agg [AV.int .i64 (SE cm ge), AV.bool (SG cm ge)]))
  | _ => none
theorem ayF : aU Tryz.prog 194 (.pure ao9) := by
 intro xs p r h hp E w vs hr hv; unfold ao9 at h; split at h
 . rename_i cm ge
   obtain ⟨rfl, rfl⟩ := aG h
   exact dF (ys := akG cm ge) (rs := [.cell 2 64]) aX (show aO Tryz.prog asO from ⟨asK, awU, arh, trivial⟩) Tryz.func194 rfl (by kernel_rfl) rfl (by decide) Tryz.ntmps194 (ayE cm ge) (avo cm ge hp rfl) E w vs hr hv
 . cases h
def agC : List (Nat × Ag.Spec) := []
def Eu (ig:Nat) (cm:Nat -> Int) (ge : Nat -> Bool) (km:Int) : VS := ⟨dD 14 0 [(2, AV.bool false), (5, AV.rs none ig [CF.I .i64 cm, CF.B ge]), (6, AV.int .i64 (ig:Int)), (7, AV.int .i64 km)], [], false, 0⟩
def xC (ig:Nat) (cm:Nat -> Int) (ge : Nat -> Bool) (o0:Int) : VS := ⟨dD 14 0 [(2, AV.bool false), (5, AV.rs none ig [CF.I .i64 cm, CF.B ge]), (6, AV.int .i64 (ig:Int)), (7, AV.int .i64 o0)], [], false, 0⟩
def Ey (ig:Nat) (cm:Nat -> Int) (ge : Nat -> Bool) (o0:Bool) (o1:Int) : VS := ⟨dD 14 0 [(2, AV.bool o0), (5, AV.rs none ig [CF.I .i64 cm, CF.B ge]), (6, AV.int .i64 (ig:Int)), (7, AV.int .i64 o1)], [], false, 0⟩
theorem aoj (ig:Nat) (cm:Nat -> Int) (ge : Nat -> Bool) (km:Int) (Q : Exit -> VS -> Prop) : vwp tab (bC agC) (fun _ _ _ => False) 0 (gY (dA (aF Tryz.f258) 0)) (Eu ig cm ge km) (QM [2, 5, 6, 7] [] 0 Q) = IJ ig cm ge km (fun w0 => Q .normal (Eu ig cm ge w0)) (fun o0 => Q (.exit 0) (xC ig cm ge o0)) (fun o0 o1 => Q .ret (Ey ig cm ge o0 o1))  := by kernel_rfl
theorem aok {X : Cx} (hX : Std Tryz.prog tab (bC agC) X) (b : Code) (hb : b = aF Tryz.f258) (ig:Nat) (cm:Nat -> Int) (ge : Nat -> Bool) (fu:Nat) (km:Int) (Q : Exit -> VS -> Prop) (h : yL ig cm ge fu km (fun o0 => Q (.exit 0) (xC ig cm ge o0)) (fun o0 o1 => Q .ret (Ey ig cm ge o0 o1))) : TrK X b 0 (Eu ig cm ge km) Q := by
  subst hb
  refine iF (V := Int) (fun v => Eu ig cm ge v) (fun f v => yL ig cm ge f v (fun o0 => Q (.exit 0) (xC ig cm ge o0)) (fun o0 o1 => Q .ret (Ey ig cm ge o0 o1))) (fun _ h => h) (by kernel_rfl) (fun f v hv => ?_) (fuel := fu) (v0 := (km)) h
  refine mO (bs := [2, 5, 6, 7]) (ms := []) (nm := 0) ?_
  refine dG hX rfl (tr := (fun _ _ _ => False)) (fun _ _ _ h => h.elim) ?_
  refine Eq.mpr (aoj ig cm ge v _) ?_
  exact aby ig cm ge v (fun w0 h => ⟨w0, rfl, h⟩) (fun _ h => h) (fun _ _ h => h) hv
def aiv (ig:Nat) (cm:Nat -> Int) (ge : Nat -> Bool) (k:Nat) (st : VS) (Q : Exit -> VS -> Prop) : Prop := match k with
  | 0 => TL [2, 5, 6, 7] [] 0 (convs st []) (fun st => Eu ig cm ge (intOf (tAt st 7))) (fun st => yL ig cm ge fuel (intOf (tAt st 7)) (fun o0 => Q (.exit 0) (xC ig cm ge o0)) (fun o0 o1 => Q .ret (Ey ig cm ge o0 o1)))
  | _ => False
theorem arn {X : Cx} (hX : Std Tryz.prog tab (bC agC) X) (b : Code) (hb : b = aF Tryz.f258) (ig:Nat) (cm:Nat -> Int) (ge : Nat -> Bool) (j:Nat) (st : VS) (Q : Exit -> VS -> Prop) (h : aiv ig cm ge j st Q) : TrK X b j st Q := by
  unfold aiv at h
  split at h
  . exact lF h (fun h' => aok hX b hb ig cm ge _ _ Q h')
  . exact h.elim
def agD (ig:Nat) (cm:Nat -> Int) (ge : Nat -> Bool) : List AV := [AV.rs none ig [CF.I .i64 cm, CF.B ge]]
theorem axf (ig:Nat) (cm:Nat -> Int) (ge : Nat -> Bool) (K : AV -> Prop) : vwp tab (bC agC) (aiv ig cm ge) 0 (aF Tryz.f258) (entry (agD ig cm ge) 14) (aV tab [.tmp 2] fun v s => K (v.frz s.mem)) = adg ig cm ge (fun r0 => K (AV.bool r0)) (fun p0 y0 y1 => Eu ig cm ge p0 = Eu ig cm ge p0 /\ yL ig cm ge fuel p0 y0 y1) := by kernel_rfl
theorem aro (ig:Nat) (cm:Nat -> Int) (ge : Nat -> Bool) {K0 : Bool -> Prop} : adg ig cm ge K0 (yL ig cm ge fuel) -> adg ig cm ge K0 (fun p0 y0 y1 => Eu ig cm ge p0 = Eu ig cm ge p0 /\ yL ig cm ge fuel p0 y0 y1) := by
  unfold adg
  repeat' first
    | exact id
    | refine dU ?_
    | refine cO ?_ ?_
    | refine cZ ?_
    | refine fun h => ⟨rfl, abz _ _ _  (fun _ => ?_) (fun _ _ => ?_) _ _  h⟩
def adS : List AV -> Option (Prop × RT)
  | [AV.rs sq0 sn0 sc0] => cond (fG [KC.I .i64, KC.B] sc0) (some (O5 (nOf sn0 sc0) (aA sc0 0) (bP sc0 1), RT.leaf (AV.bool (CZ (nOf sn0 sc0) (aA sc0 0) (bP sc0 1))))) none
  | _ => none
theorem aiw : aU Tryz.prog 258 (.pure adS) := by
 intro xs p r h hp E w vs hr hv; unfold adS at h; split at h
 . rename_i sq0 sn0 sc0
   obtain ⟨hk0, h⟩ := dW h
   obtain ⟨rfl, rfl⟩ := aG h
   have hG := (show aO Tryz.prog agC from trivial)
   have hv' := ((AV.les.cons (AV.le.rs hk0) AV.les.nil) _ _ hv : VRs E.bare (agD (nOf sn0 sc0) (aA sc0 0) (bP sc0 1)) vs)
   refine eF (c := aF Tryz.f258) (rs := [.tmp 2]) (ys := agD (nOf sn0 sc0) (aA sc0 0) (bP sc0 1)) aX (gB hG) Tryz.func258 rfl (by kernel_rfl) rfl (by decide) (fun X hX hrho => ?_) E w vs hr hv'
   rw [Tryz.ntmps258]
   refine dG hX rfl (tr := aiv (nOf sn0 sc0) (aA sc0 0) (bP sc0 1)) (fun j st Q h => arn hX _ rfl (nOf sn0 sc0) (aA sc0 0) (bP sc0 1) j st Q h) (Eq.mpr (axf (nOf sn0 sc0) (aA sc0 0) (bP sc0 1) (fun x => x = _)) ?_)
   exact aro (nOf sn0 sc0) (aA sc0 0) (bP sc0 1) (aus (nOf sn0 sc0) (aA sc0 0) (bP sc0 1) hp rfl)
 . cases h
def arp : List (Nat × Ag.Spec) := []
def ajZ (cm:Int) (ge:Bool) : List AV := [AV.agg [AV.int .i64 cm, AV.bool ge]]
theorem axg (cm:Int) (ge:Bool) (K : AV -> Prop) : vwp tab (bC arp) (fun _ _ _ => False) 0 (aF Tryz.f196) (entry (ajZ cm ge) 8) (aV tab [.cell 2 64] fun v s => K (v.frz s.mem)) = alV cm ge (fun r0 r1 => K (AV.agg [AV.int .i64 r0, AV.bool r1]))  := by kernel_rfl
def TY : List AV -> Option (Prop × RT)
  | [AV.agg [AV.int .i64 cm, AV.bool ge]] => some (Fh cm ge, RT.leaf (AV.agg [AV.int .i64 (aZ cm ge), AV.bool (fC cm ge)]))
  | _ => none
theorem Yh : aU Tryz.prog 196 (.pure TY) := by
 intro xs p r h hp E w vs hr hv; unfold TY at h; split at h
 . rename_i cm ge
   obtain ⟨rfl, rfl⟩ := aG h
   exact dF (ys := ajZ cm ge) (rs := [.cell 2 64]) aX (show aO Tryz.prog arp from trivial) Tryz.func196 rfl (by kernel_rfl) rfl (by decide) Tryz.ntmps196 (axg cm ge) (auu cm ge hp rfl) E w vs hr hv
 . cases h
def agE : List (Nat × Ag.Spec) := [(196, .pure TY)]
def Ez (ig:Nat) (cm:Nat -> Int) (ge : Nat -> Bool) (j5:Bool) (ld:Int) (ns : (Nat -> Int)) : VS := ⟨dD 33 0 [(2, AV.nils), (3, AV.bool false), (4, AV.sl (some false) 0 (Int.toNat (ig:Int)) 1), (5, AV.bool j5), (11, AV.rs none ig [CF.I .i64 cm, CF.B ge]), (12, AV.int .i64 (ig:Int)), (13, AV.int .i64 ld)], [.many true 2 (Int.toNat (ig:Int)) [CF.I .i64 ns]], false, 0⟩
def xE (ig:Nat) (cm:Nat -> Int) (ge : Nat -> Bool) (o0:Bool) (o1:Int) (o2 : (Nat -> Int)) : VS := ⟨dD 33 0 [(2, AV.nils), (3, AV.bool false), (4, AV.sl (some false) 0 (Int.toNat (ig:Int)) 1), (5, AV.bool o0), (11, AV.rs none ig [CF.I .i64 cm, CF.B ge]), (12, AV.int .i64 (ig:Int)), (13, AV.int .i64 o1)], [.many true 2 (Int.toNat (ig:Int)) [CF.I .i64 o2]], false, 0⟩
theorem aol (ig:Nat) (cm:Nat -> Int) (ge : Nat -> Bool) (j5:Bool) (ld:Int) (ns : (Nat -> Int)) (Q : Exit -> VS -> Prop) : vwp tab (bC agE) (fun _ _ _ => False) 0 (gY (dA (aF Tryz.f290) 0)) (Ez ig cm ge j5 ld ns) (QM [2, 3, 4, 5, 11, 12, 13] [0] 1 Q) = IK ig cm ge j5 ld ns (fun w0 w1 w2 => Q .normal (Ez ig cm ge w0 w1 w2)) (fun o0 o1 o2 => Q (.exit 0) (xE ig cm ge o0 o1 o2))  := by kernel_rfl
theorem aom {X : Cx} (hX : Std Tryz.prog tab (bC agE) X) (b : Code) (hb : b = aF Tryz.f290) (ig:Nat) (cm:Nat -> Int) (ge : Nat -> Bool) (fu:Nat) (j5:Bool) (ld:Int) (ns : (Nat -> Int)) (Q : Exit -> VS -> Prop) (h : yM ig cm ge fu j5 ld ns (fun o0 o1 o2 => Q (.exit 0) (xE ig cm ge o0 o1 o2))) : TrK X b 0 (Ez ig cm ge j5 ld ns) Q := by
  subst hb
  refine iF (V := Bool × Int × (Nat -> Int)) (fun v => Ez ig cm ge v.1 v.2.1 v.2.2) (fun f v => yM ig cm ge f v.1 v.2.1 v.2.2 (fun o0 o1 o2 => Q (.exit 0) (xE ig cm ge o0 o1 o2))) (fun _ h => h) (by kernel_rfl) (fun f v hv => ?_) (fuel := fu) (v0 := (j5, ld, ns)) h
  refine mO (bs := [2, 3, 4, 5, 11, 12, 13]) (ms := [0]) (nm := 1) ?_
  refine dG hX rfl (tr := (fun _ _ _ => False)) (fun _ _ _ h => h.elim) ?_
  refine Eq.mpr (aol ig cm ge v.1 v.2.1 v.2.2 _) ?_
  exact abB ig cm ge v.1 v.2.1 v.2.2 (fun w0 w1 w2 h => ⟨(w0, w1, w2), rfl, h⟩) (fun _ _ _ h => h) hv
def aix (ig:Nat) (cm:Nat -> Int) (ge : Nat -> Bool) (k:Nat) (st : VS) (Q : Exit -> VS -> Prop) : Prop := match k with
  | 0 => TL [2, 3, 4, 5, 11, 12, 13] [0] 1 (convs st []) (fun st => Ez ig cm ge (gV (tAt st 5)) (intOf (tAt st 13)) (aA (cAB (fK st 0)) 0)) (fun st => yM ig cm ge fuel (gV (tAt st 5)) (intOf (tAt st 13)) (aA (cAB (fK st 0)) 0) (fun o0 o1 o2 => Q (.exit 0) (xE ig cm ge o0 o1 o2)))
  | _ => False
theorem arq {X : Cx} (hX : Std Tryz.prog tab (bC agE) X) (b : Code) (hb : b = aF Tryz.f290) (ig:Nat) (cm:Nat -> Int) (ge : Nat -> Bool) (j:Nat) (st : VS) (Q : Exit -> VS -> Prop) (h : aix ig cm ge j st Q) : TrK X b j st Q := by
  unfold aix at h
  split at h
  . exact lF h (fun h' => aom hX b hb ig cm ge _ _ _ _ Q h')
  . exact h.elim
def agF (ig:Nat) (cm:Nat -> Int) (ge : Nat -> Bool) : List AV := [AV.rs none ig [CF.I .i64 cm, CF.B ge]]
theorem axh (ig:Nat) (cm:Nat -> Int) (ge : Nat -> Bool) (K : AV -> Prop) : vwp tab (bC agE) (aix ig cm ge) 0 (aF Tryz.f290) (entry (agF ig cm ge) 33) (aV tab [.tmp 2, .tmp 3] fun v s => K (v.frz s.mem)) = adh ig cm ge (fun r0 r1 r2 => K (AV.tup [AV.rs none r0 [CF.I .i64 r1], AV.bool r2])) (fun p0 p1 p2 y0 => Ez ig cm ge p0 p1 p2 = Ez ig cm ge p0 p1 p2 /\ yM ig cm ge fuel p0 p1 p2 y0) := by kernel_rfl
theorem ars (ig:Nat) (cm:Nat -> Int) (ge : Nat -> Bool) {K0 : Nat -> (Nat -> Int) -> Bool -> Prop} : adh ig cm ge K0 (yM ig cm ge fuel) -> adh ig cm ge K0 (fun p0 p1 p2 y0 => Ez ig cm ge p0 p1 p2 = Ez ig cm ge p0 p1 p2 /\ yM ig cm ge fuel p0 p1 p2 y0) := by
  unfold adh
  repeat' first
    | exact id
    | refine dU ?_
    | refine cO ?_ ?_
    | refine cZ ?_
    | refine fun h => ⟨rfl, abC _ _ _  (fun _ _ _ => ?_) _ _ _ _  h⟩
def aiy : List AV -> Option (Prop × RT)
  | [AV.rs sq0 sn0 sc0] => cond (fG [KC.I .i64, KC.B] sc0) (some (afk (nOf sn0 sc0) (aA sc0 0) (bP sc0 1), RT.leaf (AV.tup [AV.rs none (nK (nOf sn0 sc0) (aA sc0 0) (bP sc0 1)) [CF.I .i64 (jD (nOf sn0 sc0) (aA sc0 0) (bP sc0 1))], AV.bool (AP (nOf sn0 sc0) (aA sc0 0) (bP sc0 1))]))) none
  | _ => none
theorem aru : aU Tryz.prog 290 (.pure aiy) := by
 intro xs p r h hp E w vs hr hv; unfold aiy at h; split at h
 . rename_i sq0 sn0 sc0
   obtain ⟨hk0, h⟩ := dW h
   obtain ⟨rfl, rfl⟩ := aG h
   have hG := (show aO Tryz.prog agE from ⟨Yh, trivial⟩)
   have hv' := ((AV.les.cons (AV.le.rs hk0) AV.les.nil) _ _ hv : VRs E.bare (agF (nOf sn0 sc0) (aA sc0 0) (bP sc0 1)) vs)
   refine eF (c := aF Tryz.f290) (rs := [.tmp 2, .tmp 3]) (ys := agF (nOf sn0 sc0) (aA sc0 0) (bP sc0 1)) aX (gB hG) Tryz.func290 rfl (by kernel_rfl) rfl (by decide) (fun X hX hrho => ?_) E w vs hr hv'
   rw [Tryz.ntmps290]
   refine dG hX rfl (tr := aix (nOf sn0 sc0) (aA sc0 0) (bP sc0 1)) (fun j st Q h => arq hX _ rfl (nOf sn0 sc0) (aA sc0 0) (bP sc0 1) j st Q h) (Eq.mpr (axh (nOf sn0 sc0) (aA sc0 0) (bP sc0 1) (fun x => x = _)) ?_)
   exact ars (nOf sn0 sc0) (aA sc0 0) (bP sc0 1) (auv (nOf sn0 sc0) (aA sc0 0) (bP sc0 1) hp rfl)
 . cases h
def arv : List (Nat × Ag.Spec) := []
def aj0 (cm:Bool) (im ip:Int) (a1:Bool) : List AV := [AV.agg [AV.bool cm, AV.int .u64 im, AV.int .u64 ip], AV.bool a1]
theorem axi (cm:Bool) (im ip:Int) (a1:Bool) (K : AV -> Prop) : vwp tab (bC arv) (fun _ _ _ => False) 0 (aF Tryz.f257) (entry (aj0 cm im ip a1) 30) (aV tab [.cell 4 64] fun v s => K (v.frz s.mem)) = alW cm im ip a1 (fun r0 r1 => K (AV.agg [AV.int .i64 r0, AV.bool r1]))  := by kernel_rfl
def WZ : List AV -> Option (Prop × RT)
  | [AV.agg [AV.bool cm, AV.int .u64 im, AV.int .u64 ip], AV.bool a1] => some (TP cm im ip a1, RT.leaf (AV.agg [AV.int .i64 (sD cm im ip a1), AV.bool (sF cm im ip a1)]))
  | _ => none
theorem ZX : aU Tryz.prog 257 (.pure WZ) := by
 intro xs p r h hp E w vs hr hv; unfold WZ at h; split at h
 . rename_i cm im ip a1
   obtain ⟨rfl, rfl⟩ := aG h
   exact dF (ys := aj0 cm im ip a1) (rs := [.cell 4 64]) aX (show aO Tryz.prog arv from trivial) Tryz.func257 rfl (by kernel_rfl) rfl (by decide) Tryz.ntmps257 (axi cm im ip a1) (auw cm im ip a1 hp rfl) E w vs hr hv
 . cases h
def arw : List (Nat × Ag.Spec) := []
def aj1 (a0:Int) : List AV := [AV.int .i64 a0]
theorem axj (a0:Int) (K : AV -> Prop) : vwp tab (bC arw) (fun _ _ _ => False) 0 (aF Tryz.f259) (entry (aj1 a0) 14) (aV tab [.cell 2 270] fun v s => K (v.frz s.mem)) = alX a0 (fun r0 r1 r2 => K (AV.agg [AV.bool r0, AV.int .u64 r1, AV.int .u64 r2]))  := by kernel_rfl
def ZY : List AV -> Option (Prop × RT)
  | [AV.int .i64 a0] => some (TQ a0, RT.leaf (AV.agg [AV.bool (dh a0), AV.int .u64 (bg a0), AV.int .u64 (dK a0)]))
  | _ => none
theorem agG : aU Tryz.prog 259 (.pure ZY) := by
 intro xs p r h hp E w vs hr hv; unfold ZY at h; split at h
 . rename_i a0
   obtain ⟨rfl, rfl⟩ := aG h
   exact dF (ys := aj1 a0) (rs := [.cell 2 270]) aX (show aO Tryz.prog arw from trivial) Tryz.func259 rfl (by kernel_rfl) rfl (by decide) Tryz.ntmps259 (axj a0) (auy a0 hp rfl) E w vs hr hv
 . cases h
def arx : List (Nat × Ag.Spec) := []
def aj2 (cm:Bool) (im ip:Int) : List AV := [AV.agg [AV.bool cm, AV.int .u64 im, AV.int .u64 ip]]
theorem axk (cm:Bool) (im ip:Int) (K : AV -> Prop) : vwp tab (bC arx) (fun _ _ _ => False) 0 (aF Tryz.f260) (entry (aj2 cm im ip) 19) (aV tab [.cell 2 270] fun v s => K (v.frz s.mem)) = alY cm im ip (fun r0 r1 r2 => K (AV.agg [AV.bool r0, AV.int .u64 r1, AV.int .u64 r2]))  := by kernel_rfl
def agH : List AV -> Option (Prop × RT)
  | [AV.agg [AV.bool cm, AV.int .u64 im, AV.int .u64 ip]] => some (adk cm im ip, RT.leaf (AV.agg [AV.bool (qA cm im ip), AV.int .u64 (lV cm im ip), AV.int .u64 (jH cm im ip)]))
  | _ => none
theorem aon : aU Tryz.prog 260 (.pure agH) := by
 intro xs p r h hp E w vs hr hv; unfold agH at h; split at h
 . rename_i cm im ip
   obtain ⟨rfl, rfl⟩ := aG h
   exact dF (ys := aj2 cm im ip) (rs := [.cell 2 270]) aX (show aO Tryz.prog arx from trivial) Tryz.func260 rfl (by kernel_rfl) rfl (by decide) Tryz.ntmps260 (axk cm im ip) (auz cm im ip hp rfl) E w vs hr hv
 . cases h
def asa : List (Nat × Ag.Spec) := [(81, .pure agj), (257, .pure WZ), (259, .pure ZY), (260, .pure agH), (262, .pure ah6)]
def akM (a0 a1:Int) : List AV := [AV.int .i64 a0, AV.int .i64 a1]
theorem axt (a0 a1:Int) (K : AV -> Prop) : vwp tab (bC asa) (fun _ _ _ => False) 0 (aF Tryz.f176) (entry (akM a0 a1) 53) (aV tab [.cell 4 64] fun v s => K (v.frz s.mem)) = amI a0 a1 (fun r0 r1 => K (AV.agg [AV.int .i64 r0, AV.bool r1]))  := by kernel_rfl
def afD : List AV -> Option (Prop × RT)
  | [AV.int .i64 a0, AV.int .i64 a1] => some (EM a0 a1, RT.leaf (AV.agg [AV.int .i64 (iD a0 a1), AV.bool (mJ a0 a1)]))
  | _ => none
theorem ajU : aU Tryz.prog 176 (.pure afD) := by
 intro xs p r h hp E w vs hr hv; unfold afD at h; split at h
 . rename_i a0 a1
   obtain ⟨rfl, rfl⟩ := aG h
   exact dF (ys := akM a0 a1) (rs := [.cell 4 64]) aX (show aO Tryz.prog asa from ⟨anK, ZX, agG, aon, aqt, trivial⟩) Tryz.func176 rfl (by kernel_rfl) rfl (by decide) Tryz.ntmps176 (axt a0 a1) (avd a0 a1 hp rfl) E w vs hr hv
 . cases h
def asX : List (Nat × Ag.Spec) := [(257, .pure WZ), (259, .pure ZY), (260, .pure agH)]
def akL (a0:Int) : List AV := [AV.int .i64 a0]
theorem ayN (a0:Int) (K : AV -> Prop) : vwp tab (bC asX) (fun _ _ _ => False) 0 (aF Tryz.f171) (entry (akL a0) 7) (aV tab [.cell 2 64] fun v s => K (v.frz s.mem)) = amP a0 (fun r0 r1 => K (AV.agg [AV.int .i64 r0, AV.bool r1]))  := by kernel_rfl
def adY : List AV -> Option (Prop × RT)
  | [AV.int .i64 a0] => some (X6 a0, RT.leaf (AV.agg [AV.int .i64 (qF a0), AV.bool (oC a0)]))
  | _ => none
theorem ai3 : aU Tryz.prog 171 (.pure adY) := by
 intro xs p r h hp E w vs hr hv; unfold adY at h; split at h
 . rename_i a0
   obtain ⟨rfl, rfl⟩ := aG h
   exact dF (ys := akL a0) (rs := [.cell 2 64]) aX (show aO Tryz.prog asX from ⟨ZX, agG, aon, trivial⟩) Tryz.func171 rfl (by kernel_rfl) rfl (by decide) Tryz.ntmps171 (ayN a0) (avu a0 hp rfl) E w vs hr hv
 . cases h
def arC : List (Nat × Ag.Spec) := [(224, .pure aoV), (259, .pure ZY)]
def aj7 (a0 a1:Int) : List AV := [AV.int .i64 a0, AV.int .i64 a1]
theorem axo (a0 a1:Int) (K : AV -> Prop) : vwp tab (bC arC) (fun _ _ _ => False) 0 (aF Tryz.f254) (entry (aj7 a0 a1) 32) (aV tab [.cell 4 270] fun v s => K (v.frz s.mem)) = al1 a0 a1 (fun r0 r1 r2 => K (AV.agg [AV.bool r0, AV.int .u64 r1, AV.int .u64 r2]))  := by kernel_rfl
def adU : List AV -> Option (Prop × RT)
  | [AV.int .i64 a0, AV.int .i64 a1] => some (TR a0 a1, RT.leaf (AV.agg [AV.bool (eP a0 a1), AV.int .u64 (fO a0 a1), AV.int .u64 (fH a0 a1)]))
  | _ => none
theorem aiB : aU Tryz.prog 254 (.pure adU) := by
 intro xs p r h hp E w vs hr hv; unfold adU at h; split at h
 . rename_i a0 a1
   obtain ⟨rfl, rfl⟩ := aG h
   exact dF (ys := aj7 a0 a1) (rs := [.cell 4 270]) aX (show aO Tryz.prog arC from ⟨ayj, agG, trivial⟩) Tryz.func254 rfl (by kernel_rfl) rfl (by decide) Tryz.ntmps254 (axo a0 a1) (auC a0 a1 hp rfl) E w vs hr hv
 . cases h
def arD : List (Nat × Ag.Spec) := []
def aj8 (cm:Bool) (im ip:Int) : List AV := [AV.agg [AV.bool cm, AV.int .u64 im, AV.int .u64 ip]]
theorem axp (cm:Bool) (im ip:Int) (K : AV -> Prop) : vwp tab (bC arD) (fun _ _ _ => False) 0 (aF Tryz.f256) (entry (aj8 cm im ip) 19) (aV tab [.cell 2 270] fun v s => K (v.frz s.mem)) = al2 cm im ip (fun r0 r1 r2 => K (AV.agg [AV.bool r0, AV.int .u64 r1, AV.int .u64 r2]))  := by kernel_rfl
def aiC : List AV -> Option (Prop × RT)
  | [AV.agg [AV.bool cm, AV.int .u64 im, AV.int .u64 ip]] => some (afl cm im ip, RT.leaf (AV.agg [AV.bool (F6 cm im ip), AV.int .u64 (IL cm im ip), AV.int .u64 (IQ cm im ip)]))
  | _ => none
theorem arE : aU Tryz.prog 256 (.pure aiC) := by
 intro xs p r h hp E w vs hr hv; unfold aiC at h; split at h
 . rename_i cm im ip
   obtain ⟨rfl, rfl⟩ := aG h
   exact dF (ys := aj8 cm im ip) (rs := [.cell 2 270]) aX (show aO Tryz.prog arD from trivial) Tryz.func256 rfl (by kernel_rfl) rfl (by decide) Tryz.ntmps256 (axp cm im ip) (auD cm im ip hp rfl) E w vs hr hv
 . cases h
def aqo : List (Nat × Ag.Spec) := [(196, .pure TY), (254, .pure adU), (256, .pure aiC), (257, .pure WZ), (258, .pure adS)]
def ajw (cm:Int) (ge:Bool) (ic:Int) (ie:Bool) : List AV := [AV.agg [AV.int .i64 cm, AV.bool ge], AV.agg [AV.int .i64 ic, AV.bool ie]]
theorem awr (cm:Int) (ge:Bool) (ic:Int) (ie:Bool) (K : AV -> Prop) : vwp tab (bC aqo) (fun _ _ _ => False) 0 (aF Tryz.f173) (entry (ajw cm ge ic ie) 20) (aV tab [.cell 4 64] fun v s => K (v.frz s.mem)) = alp cm ge ic ie (fun r0 r1 => K (AV.agg [AV.int .i64 r0, AV.bool r1]))  := by kernel_rfl
def anJ : List AV -> Option (Prop × RT)
  | [AV.agg [AV.int .i64 cm, AV.bool ge], AV.agg [AV.int .i64 ic, AV.bool ie]] => some (ae0 cm ge ic ie, RT.leaf (AV.agg [AV.int .i64 (Am cm ge ic ie), AV.bool (sV cm ge ic ie)]))
  | _ => none
theorem awt : aU Tryz.prog 173 (.pure anJ) := by
 intro xs p r h hp E w vs hr hv; unfold anJ at h; split at h
 . rename_i cm ge ic ie
   obtain ⟨rfl, rfl⟩ := aG h
   exact dF (ys := ajw cm ge ic ie) (rs := [.cell 4 64]) aX (show aO Tryz.prog aqo from ⟨Yh, aiB, arE, ZX, aiw, trivial⟩) Tryz.func173 rfl (by kernel_rfl) rfl (by decide) Tryz.ntmps173 (awr cm ge ic ie) (atL cm ge ic ie hp rfl) E w vs hr hv
 . cases h
def as5 : List (Nat × Ag.Spec) := [(80, .pure anR), (305, .pure anT)]
def ahc (cm ge ic ie:Int) : List AV := [AV.agg [AV.int .u64 cm, AV.int .u64 ge], AV.agg [AV.int .u64 ic, AV.int .u64 ie]]
theorem ayX (cm ge ic ie:Int) (K : AV -> Prop) : vwp tab (bC as5) (fun _ _ _ => False) 0 (aF Tryz.f289) (entry (ahc cm ge ic ie) 17) (aV tab [.tmp 4] fun v s => K (v.frz s.mem)) = amX cm ge ic ie (fun r0 => K (AV.int .i64 r0))  := by kernel_rfl
def apm : List AV -> Option (Prop × RT)
  | [AV.agg [AV.int .u64 cm, AV.int .u64 ge], AV.agg [AV.int .u64 ic, AV.int .u64 ie]] => some (ahP cm ge ic ie, RT.leaf (AV.int .i64 (Gq cm ge ic ie)))
  | _ => none
theorem ayY : aU Tryz.prog 289 (.pure apm) := by
 intro xs p r h hp E w vs hr hv; unfold apm at h; split at h
 . rename_i cm ge ic ie
   obtain ⟨rfl, rfl⟩ := aG h
   exact dF (ys := ahc cm ge ic ie) (rs := [.tmp 4]) aX (show aO Tryz.prog as5 from ⟨awx, awD, trivial⟩) Tryz.func289 rfl (by kernel_rfl) rfl (by decide) Tryz.ntmps289 (ayX cm ge ic ie) (avA cm ge ic ie hp rfl) E w vs hr hv
 . cases h
def arI : List (Nat × Ag.Spec) := [(275, .pure yw), (276, .pure Cm), (289, .pure apm)]
def akc (cm:Bool) (im ip:Int) (ic:Bool) (i9 ja:Int) : List AV := [AV.agg [AV.bool cm, AV.int .u64 im, AV.int .u64 ip], AV.agg [AV.bool ic, AV.int .u64 i9, AV.int .u64 ja]]
theorem axu (cm:Bool) (im ip:Int) (ic:Bool) (i9 ja:Int) (K : AV -> Prop) : vwp tab (bC arI) (fun _ _ _ => False) 0 (aF Tryz.f255) (entry (akc cm im ip ic i9 ja) 80) (aV tab [.cell 4 270] fun v s => K (v.frz s.mem)) = al5 cm im ip ic i9 ja (fun r0 r1 r2 => K (AV.agg [AV.bool r0, AV.int .u64 r1, AV.int .u64 r2]))  := by kernel_rfl
def adV : List AV -> Option (Prop × RT)
  | [AV.agg [AV.bool cm, AV.int .u64 im, AV.int .u64 ip], AV.agg [AV.bool ic, AV.int .u64 i9, AV.int .u64 ja]] => some (O6 cm im ip ic i9 ja, RT.leaf (AV.agg [AV.bool (wu cm im ip ic i9 ja), AV.int .u64 (uG cm im ip ic i9 ja), AV.int .u64 (uH cm im ip ic i9 ja)]))
  | _ => none
theorem aiE : aU Tryz.prog 255 (.pure adV) := by
 intro xs p r h hp E w vs hr hv; unfold adV at h; split at h
 . rename_i cm im ip ic i9 ja
   obtain ⟨rfl, rfl⟩ := aG h
   exact dF (ys := akc cm im ip ic i9 ja) (rs := [.cell 4 270]) aX (show aO Tryz.prog arI from ⟨Ih, Qx, ayY, trivial⟩) Tryz.func255 rfl (by kernel_rfl) rfl (by decide) Tryz.ntmps255 (axu cm im ip ic i9 ja) (auG cm im ip ic i9 ja hp rfl) E w vs hr hv
 . cases h
def asw : List (Nat × Ag.Spec) := [(255, .pure adV), (257, .pure WZ), (259, .pure ZY), (290, .pure aiy)]
def Et (ig:Nat) (cm:Nat -> Int) (ge : Nat -> Bool) (kd:Int) (k8:Bool) (k9 lc:Int) : VS := ⟨dD 27 0 [(2, AV.ptr false 0 0 0), (4, AV.bool (AP ig cm ge)), (5, AV.ptr false 1 0 0), (13, AV.rs none (nK ig cm ge) [CF.I .i64 (jD ig cm ge)]), (14, AV.int .i64 (((nK ig cm ge):Nat):Int)), (15, AV.int .i64 kd)], [.one true 64 [AV.int .i64 0, AV.bool false], .one true 270 [AV.bool k8, AV.int .u64 k9, AV.int .u64 lc]], false, 0⟩
def xw (ig:Nat) (cm:Nat -> Int) (ge : Nat -> Bool) (o0:Int) (o1:Bool) (o2 o3:Int) : VS := ⟨dD 27 0 [(2, AV.ptr false 0 0 0), (4, AV.bool (AP ig cm ge)), (5, AV.ptr false 1 0 0), (13, AV.rs none (nK ig cm ge) [CF.I .i64 (jD ig cm ge)]), (14, AV.int .i64 (((nK ig cm ge):Nat):Int)), (15, AV.int .i64 o0)], [.one true 64 [AV.int .i64 0, AV.bool false], .one true 270 [AV.bool o1, AV.int .u64 o2, AV.int .u64 o3]], false, 0⟩
theorem aoX (ig:Nat) (cm:Nat -> Int) (ge : Nat -> Bool) (kd:Int) (k8:Bool) (k9 lc:Int) (Q : Exit -> VS -> Prop) : vwp tab (bC asw) (fun _ _ _ => False) 0 (gY (dA (aF Tryz.f261) 0)) (Et ig cm ge kd k8 k9 lc) (QM [2, 4, 5, 13, 14, 15] [0, 1] 2 Q) = IC ig cm ge kd k8 k9 lc (fun w0 w1 w2 w3 => Q .normal (Et ig cm ge w0 w1 w2 w3)) (fun o0 o1 o2 o3 => Q (.exit 0) (xw ig cm ge o0 o1 o2 o3))  := by kernel_rfl
theorem aoY {X : Cx} (hX : Std Tryz.prog tab (bC asw) X) (b : Code) (hb : b = aF Tryz.f261) (ig:Nat) (cm:Nat -> Int) (ge : Nat -> Bool) (fu:Nat) (kd:Int) (k8:Bool) (k9 lc:Int) (Q : Exit -> VS -> Prop) (h : yI ig cm ge fu kd k8 k9 lc (fun o0 o1 o2 o3 => Q (.exit 0) (xw ig cm ge o0 o1 o2 o3))) : TrK X b 0 (Et ig cm ge kd k8 k9 lc) Q := by
  subst hb
  refine iF (V := Int × Bool × Int × Int) (fun v => Et ig cm ge v.1 v.2.1 v.2.2.1 v.2.2.2) (fun f v => yI ig cm ge f v.1 v.2.1 v.2.2.1 v.2.2.2 (fun o0 o1 o2 o3 => Q (.exit 0) (xw ig cm ge o0 o1 o2 o3))) (fun _ h => h) (by kernel_rfl) (fun f v hv => ?_) (fuel := fu) (v0 := (kd, k8, k9, lc)) h
  refine mO (bs := [2, 4, 5, 13, 14, 15]) (ms := [0, 1]) (nm := 2) ?_
  refine dG hX rfl (tr := (fun _ _ _ => False)) (fun _ _ _ h => h.elim) ?_
  refine Eq.mpr (aoX ig cm ge v.1 v.2.1 v.2.2.1 v.2.2.2 _) ?_
  exact abT ig cm ge v.1 v.2.1 v.2.2.1 v.2.2.2 (fun w0 w1 w2 w3 h => ⟨(w0, w1, w2, w3), rfl, h⟩) (fun _ _ _ _ h => h) hv
def ajY (ig:Nat) (cm:Nat -> Int) (ge : Nat -> Bool) (k:Nat) (st : VS) (Q : Exit -> VS -> Prop) : Prop := match k with
  | 0 => TL [2, 4, 5, 13, 14, 15] [0, 1] 2 (convs st []) (fun st => Et ig cm ge (intOf (tAt st 15)) (gV (mAt st 1 0)) (intOf (mAt st 1 1)) (intOf (mAt st 1 2))) (fun st => yI ig cm ge fuel (intOf (tAt st 15)) (gV (mAt st 1 0)) (intOf (mAt st 1 1)) (intOf (mAt st 1 2)) (fun o0 o1 o2 o3 => Q (.exit 0) (xw ig cm ge o0 o1 o2 o3)))
  | _ => False
theorem asb {X : Cx} (hX : Std Tryz.prog tab (bC asw) X) (b : Code) (hb : b = aF Tryz.f261) (ig:Nat) (cm:Nat -> Int) (ge : Nat -> Bool) (j:Nat) (st : VS) (Q : Exit -> VS -> Prop) (h : ajY ig cm ge j st Q) : TrK X b j st Q := by
  unfold ajY at h
  split at h
  . exact lF h (fun h' => aoY hX b hb ig cm ge _ _ _ _ _ Q h')
  . exact h.elim
def akw (ig:Nat) (cm:Nat -> Int) (ge : Nat -> Bool) : List AV := [AV.rs none ig [CF.I .i64 cm, CF.B ge]]
theorem aye (ig:Nat) (cm:Nat -> Int) (ge : Nat -> Bool) (K : AV -> Prop) : vwp tab (bC asw) (ajY ig cm ge) 0 (aF Tryz.f261) (entry (akw ig cm ge) 27) (aV tab [.cell 2 64] fun v s => K (v.frz s.mem)) = amx ig cm ge (fun r0 r1 => K (AV.agg [AV.int .i64 r0, AV.bool r1])) (fun p0 p1 p2 p3 y0 => Et ig cm ge p0 p1 p2 p3 = Et ig cm ge p0 p1 p2 p3 /\ yI ig cm ge fuel p0 p1 p2 p3 y0) := by kernel_rfl
theorem asz (ig:Nat) (cm:Nat -> Int) (ge : Nat -> Bool) {K0 : Int -> Bool -> Prop} : amx ig cm ge K0 (yI ig cm ge fuel) -> amx ig cm ge K0 (fun p0 p1 p2 p3 y0 => Et ig cm ge p0 p1 p2 p3 = Et ig cm ge p0 p1 p2 p3 /\ yI ig cm ge fuel p0 p1 p2 p3 y0) := by
  unfold amx
  repeat' first
    | exact id
    | refine dU ?_
    | refine cO ?_ ?_
    | refine cZ ?_
    | refine fun h => ⟨rfl, ab1 _ _ _  (fun _ _ _ _ => ?_) _ _ _ _ _  h⟩
def aoT : List AV -> Option (Prop × RT)
  | [AV.rs sq0 sn0 sc0] => cond (fG [KC.I .i64, KC.B] sc0) (some (afK (nOf sn0 sc0) (aA sc0 0) (bP sc0 1), RT.leaf (AV.agg [AV.int .i64 (sH (nOf sn0 sc0) (aA sc0 0) (bP sc0 1)), AV.bool (uO (nOf sn0 sc0) (aA sc0 0) (bP sc0 1))]))) none
  | _ => none
theorem ayf : aU Tryz.prog 261 (.pure aoT) := by
 intro xs p r h hp E w vs hr hv; unfold aoT at h; split at h
 . rename_i sq0 sn0 sc0
   obtain ⟨hk0, h⟩ := dW h
   obtain ⟨rfl, rfl⟩ := aG h
   have hG := (show aO Tryz.prog asw from ⟨aiE, ZX, agG, aru, trivial⟩)
   have hv' := ((AV.les.cons (AV.le.rs hk0) AV.les.nil) _ _ hv : VRs E.bare (akw (nOf sn0 sc0) (aA sc0 0) (bP sc0 1)) vs)
   refine eF (c := aF Tryz.f261) (rs := [.cell 2 64]) (ys := akw (nOf sn0 sc0) (aA sc0 0) (bP sc0 1)) aX (gB hG) Tryz.func261 rfl (by kernel_rfl) rfl (by decide) (fun X hX hrho => ?_) E w vs hr hv'
   rw [Tryz.ntmps261]
   refine dG hX rfl (tr := ajY (nOf sn0 sc0) (aA sc0 0) (bP sc0 1)) (fun j st Q h => asb hX _ rfl (nOf sn0 sc0) (aA sc0 0) (bP sc0 1) j st Q h) (Eq.mpr (aye (nOf sn0 sc0) (aA sc0 0) (bP sc0 1) (fun x => x = _)) ?_)
   exact asz (nOf sn0 sc0) (aA sc0 0) (bP sc0 1) (ava (nOf sn0 sc0) (aA sc0 0) (bP sc0 1) hp rfl)
 . cases h
def aqH : List (Nat × Ag.Spec) := [(196, .pure TY)]
def ajH (cm:Int) (ge:Bool) : List AV := [AV.agg [AV.int .i64 cm, AV.bool ge]]
theorem awL (cm:Int) (ge:Bool) (K : AV -> Prop) : vwp tab (bC aqH) (fun _ _ _ => False) 0 (aF Tryz.f217) (entry (ajH cm ge) 10) (aV tab [.cell 2 64] fun v s => K (v.frz s.mem)) = alB cm ge (fun r0 r1 => K (AV.agg [AV.int .i64 r0, AV.bool r1]))  := by kernel_rfl
def ZW : List AV -> Option (Prop × RT)
  | [AV.agg [AV.int .i64 cm, AV.bool ge]] => some (O1 cm ge, RT.leaf (AV.agg [AV.int .i64 (oD cm ge), AV.bool (oG cm ge)]))
  | _ => none
theorem agn : aU Tryz.prog 217 (.pure ZW) := by
 intro xs p r h hp E w vs hr hv; unfold ZW at h; split at h
 . rename_i cm ge
   obtain ⟨rfl, rfl⟩ := aG h
   exact dF (ys := ajH cm ge) (rs := [.cell 2 64]) aX (show aO Tryz.prog aqH from ⟨Yh, trivial⟩) Tryz.func217 rfl (by kernel_rfl) rfl (by decide) Tryz.ntmps217 (awL cm ge) (atY cm ge hp rfl) E w vs hr hv
 . cases h
def aqC : List (Nat × Ag.Spec) := [(217, .pure ZW), (261, .pure aoT)]
def ajE (cm:Int) (ge:Bool) (ic:Int) (ie:Bool) : List AV := [AV.agg [AV.int .i64 cm, AV.bool ge], AV.agg [AV.int .i64 ic, AV.bool ie]]
theorem awH (cm:Int) (ge:Bool) (ic:Int) (ie:Bool) (K : AV -> Prop) : vwp tab (bC aqC) (fun _ _ _ => False) 0 (aF Tryz.f198) (entry (ajE cm ge ic ie) 10) (aV tab [.cell 4 64] fun v s => K (v.frz s.mem)) = aly cm ge ic ie (fun r0 r1 => K (AV.agg [AV.int .i64 r0, AV.bool r1]))  := by kernel_rfl
def anV : List AV -> Option (Prop × RT)
  | [AV.agg [AV.int .i64 cm, AV.bool ge], AV.agg [AV.int .i64 ic, AV.bool ie]] => some (ahv cm ge ic ie, RT.leaf (AV.agg [AV.int .i64 (rG cm ge ic ie), AV.bool (FY cm ge ic ie)]))
  | _ => none
theorem awI : aU Tryz.prog 198 (.pure anV) := by
 intro xs p r h hp E w vs hr hv; unfold anV at h; split at h
 . rename_i cm ge ic ie
   obtain ⟨rfl, rfl⟩ := aG h
   exact dF (ys := ajE cm ge ic ie) (rs := [.cell 4 64]) aX (show aO Tryz.prog aqC from ⟨agn, ayf, trivial⟩) Tryz.func198 rfl (by kernel_rfl) rfl (by decide) Tryz.ntmps198 (awH cm ge ic ie) (atV cm ge ic ie hp rfl) E w vs hr hv
 . cases h
def agK : List (Nat × Ag.Spec) := [(238, .pure ao6), (262, .pure ah6), (275, .pure yw)]
def ED (cm ge ir:Int) : VS := ⟨dD 64 0 [(1, AV.ptr false 0 0 0), (2, AV.int .u64 0), (4, AV.int .u64 ir)], [.one true 268 [AV.int .u64 cm, AV.int .u64 ge]], false, 0⟩
def EF (cm ge o0 o1:Int) : VS := ⟨dD 64 0 [(1, AV.ptr false 0 0 0), (2, AV.int .u64 o0), (4, AV.int .u64 o1)], [.one true 268 [AV.int .u64 cm, AV.int .u64 ge]], false, 0⟩
theorem aos (cm ge ir:Int) (Q : Exit -> VS -> Prop) : vwp tab (bC agK) (fun _ _ _ => False) 0 (gY (dA (aF Tryz.f293) 0)) (ED cm ge ir) (QM [1, 2, 4] [0] 1 Q) = IV cm ge ir (fun w0 => Q .normal (ED cm ge w0)) (fun o0 o1 => Q .ret (EF cm ge o0 o1))  := by kernel_rfl
theorem aot {X : Cx} (hX : Std Tryz.prog tab (bC agK) X) (b : Code) (hb : b = aF Tryz.f293) (cm ge:Int) (fu:Nat) (ir:Int) (Q : Exit -> VS -> Prop) (h : sG cm ge fu ir (fun o0 o1 => Q .ret (EF cm ge o0 o1))) : TrK X b 0 (ED cm ge ir) Q := by
  subst hb
  refine iF (V := Int) (fun v => ED cm ge v) (fun f v => sG cm ge f v (fun o0 o1 => Q .ret (EF cm ge o0 o1))) (fun _ h => h) (by kernel_rfl) (fun f v hv => ?_) (fuel := fu) (v0 := (ir)) h
  refine mO (bs := [1, 2, 4]) (ms := [0]) (nm := 1) ?_
  refine dG hX rfl (tr := (fun _ _ _ => False)) (fun _ _ _ h => h.elim) ?_
  refine Eq.mpr (aos cm ge v _) ?_
  exact abK cm ge v (fun w0 h => ⟨w0, rfl, h⟩) (fun _ _ h => h) hv
def aiI (cm ge:Int) (k:Nat) (st : VS) (Q : Exit -> VS -> Prop) : Prop := match k with
  | 0 => TL [1, 2, 4] [0] 1 (convs st []) (fun st => ED cm ge (intOf (tAt st 4))) (fun st => sG cm ge fuel (intOf (tAt st 4)) (fun o0 o1 => Q .ret (EF cm ge o0 o1)))
  | _ => False
theorem arO {X : Cx} (hX : Std Tryz.prog tab (bC agK) X) (b : Code) (hb : b = aF Tryz.f293) (cm ge:Int) (j:Nat) (st : VS) (Q : Exit -> VS -> Prop) (h : aiI cm ge j st Q) : TrK X b j st Q := by
  unfold aiI at h
  split at h
  . exact lF h (fun h' => aot hX b hb cm ge _ _ Q h')
  . exact h.elim
def akf (cm ge:Int) : List AV := [AV.agg [AV.int .u64 cm, AV.int .u64 ge]]
theorem axz (cm ge:Int) (K : AV -> Prop) : vwp tab (bC agK) (aiI cm ge) 0 (aF Tryz.f293) (entry (akf cm ge) 64) (aV tab [.tmp 2] fun v s => K (v.frz s.mem)) = ado cm ge (fun r0 => K (AV.int .u64 r0)) (fun p0 y0 => ED cm ge p0 = ED cm ge p0 /\ sG cm ge fuel p0 y0) := by kernel_rfl
theorem arP (cm ge:Int) {K0 : Int -> Prop} : ado cm ge K0 (sG cm ge fuel) -> ado cm ge K0 (fun p0 y0 => ED cm ge p0 = ED cm ge p0 /\ sG cm ge fuel p0 y0) := by
  unfold ado
  repeat' first
    | exact id
    | refine dU ?_
    | refine cO ?_ ?_
    | refine cZ ?_
    | refine fun h => ⟨rfl, abL _ _  (fun _ _ => ?_) _ _  h⟩
def aiJ : List AV -> Option (Prop × RT)
  | [AV.agg [AV.int .u64 cm, AV.int .u64 ge]] => some (adp cm ge, RT.leaf (AV.int .u64 (IW cm ge)))
  | _ => none
theorem arQ : aU Tryz.prog 293 (.pure aiJ) := by
 intro xs p r h hp E w vs hr hv; unfold aiJ at h; split at h
 . rename_i cm ge
   obtain ⟨rfl, rfl⟩ := aG h
   have hG := (show aO Tryz.prog agK from ⟨ayz, aqt, Ih, trivial⟩)
   refine eF (c := aF Tryz.f293) (rs := [.tmp 2]) (ys := akf cm ge) aX (gB hG) Tryz.func293 rfl (by kernel_rfl) rfl (by decide) (fun X hX hrho => ?_) E w vs hr hv
   rw [Tryz.ntmps293]
   refine dG hX rfl (tr := aiI cm ge) (fun j st Q h => arO hX _ rfl cm ge j st Q h) (Eq.mpr (axz cm ge (fun x => x = _)) ?_)
   exact arP cm ge (auL cm ge hp rfl)
 . cases h
def arR : List (Nat × Ag.Spec) := [(196, .pure TY), (254, .pure adU), (255, .pure adV), (257, .pure WZ), (258, .pure adS), (293, .pure aiJ)]
def akg (cm:Int) (ge:Bool) (ic:Int) (ie:Bool) : List AV := [AV.agg [AV.int .i64 cm, AV.bool ge], AV.agg [AV.int .i64 ic, AV.bool ie]]
theorem axA (cm:Int) (ge:Bool) (ic:Int) (ie:Bool) (K : AV -> Prop) : vwp tab (bC arR) (fun _ _ _ => False) 0 (aF Tryz.f271) (entry (akg cm ge ic ie) 29) (aV tab [.cell 4 64] fun v s => K (v.frz s.mem)) = al9 cm ge ic ie (fun r0 r1 => K (AV.agg [AV.int .i64 r0, AV.bool r1]))  := by kernel_rfl
def aou : List AV -> Option (Prop × RT)
  | [AV.agg [AV.int .i64 cm, AV.bool ge], AV.agg [AV.int .i64 ic, AV.bool ie]] => some (Y8 cm ge ic ie, RT.leaf (AV.agg [AV.int .i64 (IX cm ge ic ie), AV.bool (IY cm ge ic ie)]))
  | _ => none
theorem axB : aU Tryz.prog 271 (.pure aou) := by
 intro xs p r h hp E w vs hr hv; unfold aou at h; split at h
 . rename_i cm ge ic ie
   obtain ⟨rfl, rfl⟩ := aG h
   exact dF (ys := akg cm ge ic ie) (rs := [.cell 4 64]) aX (show aO Tryz.prog arR from ⟨Yh, aiB, aiE, ZX, aiw, arQ, trivial⟩) Tryz.func271 rfl (by kernel_rfl) rfl (by decide) Tryz.ntmps271 (axA cm ge ic ie) (auM cm ge ic ie hp rfl) E w vs hr hv
 . cases h
def aqm : List (Nat × Ag.Spec) := [(176, .pure afD), (196, .pure TY), (258, .pure adS)]
def ajv (cm:Int) (ge:Bool) (ic:Int) (ie:Bool) : List AV := [AV.agg [AV.int .i64 cm, AV.bool ge], AV.agg [AV.int .i64 ic, AV.bool ie]]
theorem awq (cm:Int) (ge:Bool) (ic:Int) (ie:Bool) (K : AV -> Prop) : vwp tab (bC aqm) (fun _ _ _ => False) 0 (aF Tryz.f206) (entry (ajv cm ge ic ie) 25) (aV tab [.cell 4 64] fun v s => K (v.frz s.mem)) = alo cm ge ic ie (fun r0 r1 => K (AV.agg [AV.int .i64 r0, AV.bool r1]))  := by kernel_rfl
def ah4 : List AV -> Option (Prop × RT)
  | [AV.agg [AV.int .i64 cm, AV.bool ge], AV.agg [AV.int .i64 ic, AV.bool ie]] => some (aeZ cm ge ic ie, RT.leaf (AV.agg [AV.int .i64 (Aj cm ge ic ie), AV.bool (Ak cm ge ic ie)]))
  | _ => none
theorem aqn : aU Tryz.prog 206 (.pure ah4) := by
 intro xs p r h hp E w vs hr hv; unfold ah4 at h; split at h
 . rename_i cm ge ic ie
   obtain ⟨rfl, rfl⟩ := aG h
   exact dF (ys := ajv cm ge ic ie) (rs := [.cell 4 64]) aX (show aO Tryz.prog aqm from ⟨ajU, Yh, aiw, trivial⟩) Tryz.func206 rfl (by kernel_rfl) rfl (by decide) Tryz.ntmps206 (awq cm ge ic ie) (atK cm ge ic ie hp rfl) E w vs hr hv
 . cases h
def agL : List (Nat × Ag.Spec) := [(81, .pure agj)]
def EG (a0 a1:Int) (jp:Nat) (a2:Nat -> Int) (nr mq:Int) : VS := ⟨dD 24 0 [(0, AV.int .i64 a0), (1, AV.int .i64 nr), (6, AV.int .i64 0), (9, AV.rs none jp [CF.I .i64 a2]), (10, AV.int .i64 (jp:Int)), (11, AV.int .i64 mq)], [], false, 0⟩
def xH (a0 a1:Int) (jp:Nat) (a2:Nat -> Int) (o0 o1:Int) : VS := ⟨dD 24 0 [(0, AV.int .i64 a0), (1, AV.int .i64 o0), (6, AV.int .i64 0), (9, AV.rs none jp [CF.I .i64 a2]), (10, AV.int .i64 (jp:Int)), (11, AV.int .i64 o1)], [], false, 0⟩
theorem aov (a0 a1:Int) (jp:Nat) (a2:Nat -> Int) (nr mq:Int) (Q : Exit -> VS -> Prop) : vwp tab (bC agL) (fun _ _ _ => False) 0 (gY (dA (aF Tryz.f306) 0)) (EG a0 a1 jp a2 nr mq) (QM [0, 1, 6, 9, 10, 11] [] 0 Q) = IZ a0 a1 jp a2 nr mq (fun w0 w1 => Q .normal (EG a0 a1 jp a2 w0 w1)) (fun o0 o1 => Q (.exit 0) (xH a0 a1 jp a2 o0 o1))  := by kernel_rfl
theorem aow {X : Cx} (hX : Std Tryz.prog tab (bC agL) X) (b : Code) (hb : b = aF Tryz.f306) (a0 a1:Int) (jp:Nat) (a2:Nat -> Int) (fu:Nat) (nr mq:Int) (Q : Exit -> VS -> Prop) (h : yP a0 a1 jp a2 fu nr mq (fun o0 o1 => Q (.exit 0) (xH a0 a1 jp a2 o0 o1))) : TrK X b 0 (EG a0 a1 jp a2 nr mq) Q := by
  subst hb
  refine iF (V := Int × Int) (fun v => EG a0 a1 jp a2 v.1 v.2) (fun f v => yP a0 a1 jp a2 f v.1 v.2 (fun o0 o1 => Q (.exit 0) (xH a0 a1 jp a2 o0 o1))) (fun _ h => h) (by kernel_rfl) (fun f v hv => ?_) (fuel := fu) (v0 := (nr, mq)) h
  refine mO (bs := [0, 1, 6, 9, 10, 11]) (ms := []) (nm := 0) ?_
  refine dG hX rfl (tr := (fun _ _ _ => False)) (fun _ _ _ h => h.elim) ?_
  refine Eq.mpr (aov a0 a1 jp a2 v.1 v.2 _) ?_
  exact abO a0 a1 jp a2 v.1 v.2 (fun w0 w1 h => ⟨(w0, w1), rfl, h⟩) (fun _ _ h => h) hv
def aiL (a0 a1:Int) (jp:Nat) (a2:Nat -> Int) (k:Nat) (st : VS) (Q : Exit -> VS -> Prop) : Prop := match k with
  | 0 => TL [0, 1, 6, 9, 10, 11] [] 0 (convs st []) (fun st => EG a0 a1 jp a2 (intOf (tAt st 1)) (intOf (tAt st 11))) (fun st => yP a0 a1 jp a2 fuel (intOf (tAt st 1)) (intOf (tAt st 11)) (fun o0 o1 => Q (.exit 0) (xH a0 a1 jp a2 o0 o1)))
  | _ => False
theorem arU {X : Cx} (hX : Std Tryz.prog tab (bC agL) X) (b : Code) (hb : b = aF Tryz.f306) (a0 a1:Int) (jp:Nat) (a2:Nat -> Int) (j:Nat) (st : VS) (Q : Exit -> VS -> Prop) (h : aiL a0 a1 jp a2 j st Q) : TrK X b j st Q := by
  unfold aiL at h
  split at h
  . exact lF h (fun h' => aow hX b hb a0 a1 jp a2 _ _ _ Q h')
  . exact h.elim
def agM (a0 a1:Int) (jp:Nat) (a2:Nat -> Int) : List AV := [AV.int .i64 a0, AV.int .i64 a1, AV.rs none jp [CF.I .i64 a2]]
theorem axD (a0 a1:Int) (jp:Nat) (a2:Nat -> Int) (K : AV -> Prop) : vwp tab (bC agL) (aiL a0 a1 jp a2) 0 (aF Tryz.f306) (entry (agM a0 a1 jp a2) 24) (aV tab [.tmp 6] fun v s => K (v.frz s.mem)) = adq a0 a1 jp a2 (fun r0 => K (AV.int .i64 r0)) (fun p0 p1 y0 => EG a0 a1 jp a2 p0 p1 = EG a0 a1 jp a2 p0 p1 /\ yP a0 a1 jp a2 fuel p0 p1 y0) := by kernel_rfl
theorem arV (a0 a1:Int) (jp:Nat) (a2:Nat -> Int) {K0 : Int -> Prop} : adq a0 a1 jp a2 K0 (yP a0 a1 jp a2 fuel) -> adq a0 a1 jp a2 K0 (fun p0 p1 y0 => EG a0 a1 jp a2 p0 p1 = EG a0 a1 jp a2 p0 p1 /\ yP a0 a1 jp a2 fuel p0 p1 y0) := by
  unfold adq
  repeat' first
    | exact id
    | refine dU ?_
    | refine cO ?_ ?_
    | refine cZ ?_
    | refine fun h => ⟨rfl, abP _ _ _ _  (fun _ _ => ?_) _ _ _  h⟩
def aox : List AV -> Option (Prop × RT)
  | [AV.int .i64 a0, AV.int .i64 a1, AV.rs sq0 sn0 sc0] => cond (fG [KC.I .i64] sc0) (some (ahC a0 a1 (nOf sn0 sc0) (aA sc0 0), RT.leaf (AV.int .i64 (RF a0 a1 (nOf sn0 sc0) (aA sc0 0))))) none
  | _ => none
theorem axE : aU Tryz.prog 306 (.pure aox) := by
 intro xs p r h hp E w vs hr hv; unfold aox at h; split at h
 . rename_i a0 a1 sq0 sn0 sc0
   obtain ⟨hk0, h⟩ := dW h
   obtain ⟨rfl, rfl⟩ := aG h
   have hG := (show aO Tryz.prog agL from ⟨anK, trivial⟩)
   have hv' := ((AV.les.cons (AV.le.refl _) (AV.les.cons (AV.le.refl _) (AV.les.cons (AV.le.rs hk0) AV.les.nil))) _ _ hv : VRs E.bare (agM a0 a1 (nOf sn0 sc0) (aA sc0 0)) vs)
   refine eF (c := aF Tryz.f306) (rs := [.tmp 6]) (ys := agM a0 a1 (nOf sn0 sc0) (aA sc0 0)) aX (gB hG) Tryz.func306 rfl (by kernel_rfl) rfl (by decide) (fun X hX hrho => ?_) E w vs hr hv'
   rw [Tryz.ntmps306]
   refine dG hX rfl (tr := aiL a0 a1 (nOf sn0 sc0) (aA sc0 0)) (fun j st Q h => arU hX _ rfl a0 a1 (nOf sn0 sc0) (aA sc0 0) j st Q h) (Eq.mpr (axD a0 a1 (nOf sn0 sc0) (aA sc0 0) (fun x => x = _)) ?_)
   exact arV a0 a1 (nOf sn0 sc0) (aA sc0 0) (auO a0 a1 (nOf sn0 sc0) (aA sc0 0) hp rfl)
 . cases h
def ar1 : List (Nat × Ag.Spec) := [(290, .pure aiy), (306, .pure aox)]
def aki (a0:Int) (lf:Nat) (ic:Nat -> Int) (ie : Nat -> Bool) : List AV := [AV.int .i64 a0, AV.rs none lf [CF.I .i64 ic, CF.B ie]]
theorem axJ (a0:Int) (lf:Nat) (ic:Nat -> Int) (ie : Nat -> Bool) (K : AV -> Prop) : vwp tab (bC ar1) (fun _ _ _ => False) 0 (aF Tryz.f292) (entry (aki a0 lf ic ie) 25) (aV tab [.cell 4 64] fun v s => K (v.frz s.mem)) = amf a0 lf ic ie (fun r0 r1 => K (AV.agg [AV.int .i64 r0, AV.bool r1]))  := by kernel_rfl
def aoz : List AV -> Option (Prop × RT)
  | [AV.int .i64 a0, AV.rs sq0 sn0 sc0] => cond (fG [KC.I .i64, KC.B] sc0) (some (VP a0 (nOf sn0 sc0) (aA sc0 0) (bP sc0 1), RT.leaf (AV.agg [AV.int .i64 (MS a0 (nOf sn0 sc0) (aA sc0 0) (bP sc0 1)), AV.bool (MV a0 (nOf sn0 sc0) (aA sc0 0) (bP sc0 1))]))) none
  | _ => none
theorem axK : aU Tryz.prog 292 (.pure aoz) := by
 intro xs p r h hp E w vs hr hv; unfold aoz at h; split at h
 . rename_i a0 sq0 sn0 sc0
   obtain ⟨hk0, h⟩ := dW h
   obtain ⟨rfl, rfl⟩ := aG h
   exact dF (ys := aki a0 (nOf sn0 sc0) (aA sc0 0) (bP sc0 1)) (rs := [.cell 4 64]) aX (show aO Tryz.prog ar1 from ⟨aru, axE, trivial⟩) Tryz.func292 rfl (by kernel_rfl) rfl (by decide) Tryz.ntmps292 (axJ a0 (nOf sn0 sc0) (aA sc0 0) (bP sc0 1)) (auS a0 (nOf sn0 sc0) (aA sc0 0) (bP sc0 1) hp rfl) E w vs hr ((AV.les.cons (AV.le.refl _) (AV.les.cons (AV.le.rs hk0) AV.les.nil)) _ _ hv : VRs E.bare (aki a0 (nOf sn0 sc0) (aA sc0 0) (bP sc0 1)) vs)
 . cases h
def asW : List (Nat × Ag.Spec) := [(292, .pure aoz)]
def akK (ig:Nat) (cm:Nat -> Int) (ge : Nat -> Bool) : List AV := [AV.rs none ig [CF.I .i64 cm, CF.B ge]]
theorem ayL (ig:Nat) (cm:Nat -> Int) (ge : Nat -> Bool) (K : AV -> Prop) : vwp tab (bC asW) (fun _ _ _ => False) 0 (aF Tryz.f272) (entry (akK ig cm ge) 5) (aV tab [.cell 2 64] fun v s => K (v.frz s.mem)) = amO ig cm ge (fun r0 r1 => K (AV.agg [AV.int .i64 r0, AV.bool r1]))  := by kernel_rfl
def apd : List AV -> Option (Prop × RT)
  | [AV.rs sq0 sn0 sc0] => cond (fG [KC.I .i64, KC.B] sc0) (some (ahL (nOf sn0 sc0) (aA sc0 0) (bP sc0 1), RT.leaf (AV.agg [AV.int .i64 (Jm (nOf sn0 sc0) (aA sc0 0) (bP sc0 1)), AV.bool (Gg (nOf sn0 sc0) (aA sc0 0) (bP sc0 1))]))) none
  | _ => none
theorem ayM : aU Tryz.prog 272 (.pure apd) := by
 intro xs p r h hp E w vs hr hv; unfold apd at h; split at h
 . rename_i sq0 sn0 sc0
   obtain ⟨hk0, h⟩ := dW h
   obtain ⟨rfl, rfl⟩ := aG h
   exact dF (ys := akK (nOf sn0 sc0) (aA sc0 0) (bP sc0 1)) (rs := [.cell 2 64]) aX (show aO Tryz.prog asW from ⟨axK, trivial⟩) Tryz.func272 rfl (by kernel_rfl) rfl (by decide) Tryz.ntmps272 (ayL (nOf sn0 sc0) (aA sc0 0) (bP sc0 1)) (avt (nOf sn0 sc0) (aA sc0 0) (bP sc0 1) hp rfl) E w vs hr ((AV.les.cons (AV.le.rs hk0) AV.les.nil) _ _ hv : VRs E.bare (akK (nOf sn0 sc0) (aA sc0 0) (bP sc0 1)) vs)
 . cases h
def asf : List (Nat × Ag.Spec) := [(292, .pure aoz)]
def akq (ig:Nat) (cm:Nat -> Int) (ge : Nat -> Bool) : List AV := [AV.rs none ig [CF.I .i64 cm, CF.B ge]]
theorem axZ (ig:Nat) (cm:Nat -> Int) (ge : Nat -> Bool) (K : AV -> Prop) : vwp tab (bC asf) (fun _ _ _ => False) 0 (aF Tryz.f270) (entry (akq ig cm ge) 5) (aV tab [.cell 2 64] fun v s => K (v.frz s.mem)) = amo ig cm ge (fun r0 r1 => K (AV.agg [AV.int .i64 r0, AV.bool r1]))  := by kernel_rfl
def aoI : List AV -> Option (Prop × RT)
  | [AV.rs sq0 sn0 sc0] => cond (fG [KC.I .i64, KC.B] sc0) (some (afG (nOf sn0 sc0) (aA sc0 0) (bP sc0 1), RT.leaf (AV.agg [AV.int .i64 (yS (nOf sn0 sc0) (aA sc0 0) (bP sc0 1)), AV.bool (Az (nOf sn0 sc0) (aA sc0 0) (bP sc0 1))]))) none
  | _ => none
theorem ax0 : aU Tryz.prog 270 (.pure aoI) := by
 intro xs p r h hp E w vs hr hv; unfold aoI at h; split at h
 . rename_i sq0 sn0 sc0
   obtain ⟨hk0, h⟩ := dW h
   obtain ⟨rfl, rfl⟩ := aG h
   exact dF (ys := akq (nOf sn0 sc0) (aA sc0 0) (bP sc0 1)) (rs := [.cell 2 64]) aX (show aO Tryz.prog asf from ⟨axK, trivial⟩) Tryz.func270 rfl (by kernel_rfl) rfl (by decide) Tryz.ntmps270 (axZ (nOf sn0 sc0) (aA sc0 0) (bP sc0 1)) (au2 (nOf sn0 sc0) (aA sc0 0) (bP sc0 1) hp rfl) E w vs hr ((AV.les.cons (AV.le.rs hk0) AV.les.nil) _ _ hv : VRs E.bare (akq (nOf sn0 sc0) (aA sc0 0) (bP sc0 1)) vs)
 . cases h
def asA : List (Nat × Ag.Spec) := [(270, .pure aoI), (272, .pure apd)]
def akN (cm:Int) (ge:Bool) (ic:Int) (ie:Bool) (il:Int) (io:Bool) : List AV := [AV.agg [AV.int .i64 cm, AV.bool ge], AV.agg [AV.int .i64 ic, AV.bool ie], AV.agg [AV.int .i64 il, AV.bool io]]
theorem axP (cm:Int) (ge:Bool) (ic:Int) (ie:Bool) (il:Int) (io:Bool) (K : AV -> Prop) : vwp tab (bC asA) (fun _ _ _ => False) 0 (aF Tryz.f209) (entry (akN cm ge ic ie il io) 14) (aV tab [.cell 6 64] fun v s => K (v.frz s.mem)) = amQ cm ge ic ie il io (fun r0 r1 => K (AV.agg [AV.int .i64 r0, AV.bool r1]))  := by kernel_rfl
def ao7 : List AV -> Option (Prop × RT)
  | [AV.agg [AV.int .i64 cm, AV.bool ge], AV.agg [AV.int .i64 ic, AV.bool ie], AV.agg [AV.int .i64 il, AV.bool io]] => some (ahy cm ge ic ie il io, RT.leaf (AV.agg [AV.int .i64 (Vy cm ge ic ie il io), AV.bool (Y2 cm ge ic ie il io)]))
  | _ => none
theorem axQ : aU Tryz.prog 209 (.pure ao7) := by
 intro xs p r h hp E w vs hr hv; unfold ao7 at h; split at h
 . rename_i cm ge ic ie il io
   obtain ⟨rfl, rfl⟩ := aG h
   exact dF (ys := akN cm ge ic ie il io) (rs := [.cell 6 64]) aX (show aO Tryz.prog asA from ⟨ax0, ayM, trivial⟩) Tryz.func209 rfl (by kernel_rfl) rfl (by decide) Tryz.ntmps209 (axP cm ge ic ie il io) (avf cm ge ic ie il io hp rfl) E w vs hr hv
 . cases h
def ar2 : List (Nat × Ag.Spec) := [(196, .pure TY), (254, .pure adU), (255, .pure adV), (256, .pure aiC), (257, .pure WZ), (258, .pure adS)]
def akj (cm:Int) (ge:Bool) (ic:Int) (ie:Bool) (il:Int) (io:Bool) (je:Int) (jf:Bool) : List AV := [AV.agg [AV.int .i64 cm, AV.bool ge], AV.agg [AV.int .i64 ic, AV.bool ie], AV.agg [AV.int .i64 il, AV.bool io], AV.agg [AV.int .i64 je, AV.bool jf]]
theorem axL (cm:Int) (ge:Bool) (ic:Int) (ie:Bool) (il:Int) (io:Bool) (je:Int) (jf:Bool) (K : AV -> Prop) : vwp tab (bC ar2) (fun _ _ _ => False) 0 (aF Tryz.f169) (entry (akj cm ge ic ie il io je jf) 36) (aV tab [.cell 8 64] fun v s => K (v.frz s.mem)) = amg cm ge ic ie il io je jf (fun r0 r1 => K (AV.agg [AV.int .i64 r0, AV.bool r1]))  := by kernel_rfl
def aiO : List AV -> Option (Prop × RT)
  | [AV.agg [AV.int .i64 cm, AV.bool ge], AV.agg [AV.int .i64 ic, AV.bool ie], AV.agg [AV.int .i64 il, AV.bool io], AV.agg [AV.int .i64 je, AV.bool jf]] => some (VX cm ge ic ie il io je jf, RT.leaf (AV.agg [AV.int .i64 (Di cm ge ic ie il io je jf), AV.bool (Dj cm ge ic ie il io je jf)]))
  | _ => none
theorem ar4 : aU Tryz.prog 169 (.pure aiO) := by
 intro xs p r h hp E w vs hr hv; unfold aiO at h; split at h
 . rename_i cm ge ic ie il io je jf
   obtain ⟨rfl, rfl⟩ := aG h
   exact dF (ys := akj cm ge ic ie il io je jf) (rs := [.cell 8 64]) aX (show aO Tryz.prog ar2 from ⟨Yh, aiB, aiE, arE, ZX, aiw, trivial⟩) Tryz.func169 rfl (by kernel_rfl) rfl (by decide) Tryz.ntmps169 (axL cm ge ic ie il io je jf) (auT cm ge ic ie il io je jf hp rfl) E w vs hr hv
 . cases h
def aqW : List (Nat × Ag.Spec) := [(254, .pure adU), (255, .pure adV)]
def ajQ (a0 a1 a2 a3:Int) : List AV := [AV.int .i64 a0, AV.int .i64 a1, AV.int .i64 a2, AV.int .i64 a3]
theorem awW (a0 a1 a2 a3:Int) (K : AV -> Prop) : vwp tab (bC aqW) (fun _ _ _ => False) 0 (aF Tryz.f247) (entry (ajQ a0 a1 a2 a3) 33) (aV tab [.tmp 8] fun v s => K (v.frz s.mem)) = alL a0 a1 a2 a3 (fun r0 => K (AV.int .i64 r0))  := by kernel_rfl
def aik : List AV -> Option (Prop × RT)
  | [AV.int .i64 a0, AV.int .i64 a1, AV.int .i64 a2, AV.int .i64 a3] => some (afb a0 a1 a2 a3, RT.leaf (AV.int .i64 (FX a0 a1 a2 a3)))
  | _ => none
theorem aqX : aU Tryz.prog 247 (.pure aik) := by
 intro xs p r h hp E w vs hr hv; unfold aik at h; split at h
 . rename_i a0 a1 a2 a3
   obtain ⟨rfl, rfl⟩ := aG h
   exact dF (ys := ajQ a0 a1 a2 a3) (rs := [.tmp 8]) aX (show aO Tryz.prog aqW from ⟨aiB, aiE, trivial⟩) Tryz.func247 rfl (by kernel_rfl) rfl (by decide) Tryz.ntmps247 (awW a0 a1 a2 a3) (aud a0 a1 a2 a3 hp rfl) E w vs hr hv
 . cases h
def aqD : List (Nat × Ag.Spec) := [(196, .pure TY), (257, .pure WZ), (259, .pure ZY), (260, .pure agH), (293, .pure aiJ)]
def ajF (cm:Int) (ge:Bool) : List AV := [AV.agg [AV.int .i64 cm, AV.bool ge]]
theorem awJ (cm:Int) (ge:Bool) (K : AV -> Prop) : vwp tab (bC aqD) (fun _ _ _ => False) 0 (aF Tryz.f332) (entry (ajF cm ge) 20) (aV tab [.cell 2 64] fun v s => K (v.frz s.mem)) = alz cm ge (fun r0 r1 => K (AV.agg [AV.int .i64 r0, AV.bool r1]))  := by kernel_rfl
def ah9 : List AV -> Option (Prop × RT)
  | [AV.agg [AV.int .i64 cm, AV.bool ge]] => some (Vl cm ge, RT.leaf (AV.agg [AV.int .i64 (yC cm ge), AV.bool (Au cm ge)]))
  | _ => none
theorem aqE : aU Tryz.prog 332 (.pure ah9) := by
 intro xs p r h hp E w vs hr hv; unfold ah9 at h; split at h
 . rename_i cm ge
   obtain ⟨rfl, rfl⟩ := aG h
   exact dF (ys := ajF cm ge) (rs := [.cell 2 64]) aX (show aO Tryz.prog aqD from ⟨Yh, ZX, agG, aon, arQ, trivial⟩) Tryz.func332 rfl (by kernel_rfl) rfl (by decide) Tryz.ntmps332 (awJ cm ge) (atW cm ge hp rfl) E w vs hr hv
 . cases h
def asB : List (Nat × Ag.Spec) := [(81, .pure agj), (196, .pure TY)]
def akO (cm:Int) (ge:Bool) (ic:Int) (ie:Bool) : List AV := [AV.agg [AV.int .i64 cm, AV.bool ge], AV.agg [AV.int .i64 ic, AV.bool ie]]
theorem ayk (cm:Int) (ge:Bool) (ic:Int) (ie:Bool) (K : AV -> Prop) : vwp tab (bC asB) (fun _ _ _ => False) 0 (aF Tryz.f120) (entry (akO cm ge ic ie) 12) (aV tab [.tmp 4] fun v s => K (v.frz s.mem)) = amR cm ge ic ie (fun r0 => K (AV.int .i64 r0))  := by kernel_rfl
def ape : List AV -> Option (Prop × RT)
  | [AV.agg [AV.int .i64 cm, AV.bool ge], AV.agg [AV.int .i64 ic, AV.bool ie]] => some (aiQ cm ge ic ie, RT.leaf (AV.int .i64 (Js cm ge ic ie)))
  | _ => none
theorem ayl : aU Tryz.prog 120 (.pure ape) := by
 intro xs p r h hp E w vs hr hv; unfold ape at h; split at h
 . rename_i cm ge ic ie
   obtain ⟨rfl, rfl⟩ := aG h
   exact dF (ys := akO cm ge ic ie) (rs := [.tmp 4]) aX (show aO Tryz.prog asB from ⟨anK, Yh, trivial⟩) Tryz.func120 rfl (by kernel_rfl) rfl (by decide) Tryz.ntmps120 (ayk cm ge ic ie) (avm cm ge ic ie hp rfl) E w vs hr hv
 . cases h

def ar9 : List (Nat × Ag.Spec) := [(68, .pure ail)]
def akn (cm ge:Int) : List AV := [AV.agg [AV.int .i64 cm, AV.int .i64 ge]]
theorem axR (cm ge:Int) (K : AV -> Prop) : vwp tab (bC ar9) (fun _ _ _ => False) 0 (aF Tryz.f104) (entry (akn cm ge) 10) (aV tab [.cell 2 66] fun v s => K (v.frz s.mem)) = amk cm ge (fun r0 r1 r2 r3 => K (AV.agg [AV.int .i64 r0, AV.bool r1, AV.int .i64 r2, AV.bool r3]))  := by kernel_rfl
def aoC : List AV -> Option (Prop × RT)
  | [AV.agg [AV.int .i64 cm, AV.int .i64 ge]] => some (TT cm ge, RT.leaf (AV.agg [AV.int .i64 (iT cm ge), AV.bool (iZ cm ge), AV.int .i64 (iU cm ge), AV.bool (jA cm ge)]))
  | _ => none
theorem axS : aU Tryz.prog 104 (.pure aoC) := by
 intro xs p r h hp E w vs hr hv; unfold aoC at h; split at h
 . rename_i cm ge
   obtain ⟨rfl, rfl⟩ := aG h
   exact dF (ys := akn cm ge) (rs := [.cell 2 66]) aX (show aO Tryz.prog ar9 from ⟨aqZ, trivial⟩) Tryz.func104 rfl (by kernel_rfl) rfl (by decide) Tryz.ntmps104 (axR cm ge) (auX cm ge hp rfl) E w vs hr hv
 . cases h
def aqw : List (Nat × Ag.Spec) := [(140, .pure agw)]
def EC (ig:Nat) (ii:Nat -> Int) (ik : Nat -> Bool) (im:Nat -> Int) (ip : Nat -> Bool) (oa ob:Bool) (j5:Int) (m9:Nat) (ll : (Nat -> Int)) (lm : (Nat -> Bool)) (k6:Nat) (ky : (Nat -> Int)) (kz : (Nat -> Bool)) : VS := ⟨dD 33 0 [(0, AV.rs none ig [CF.I .i64 ii, CF.B ik, CF.I .i64 im, CF.B ip]), (2, AV.ptr false 0 0 0), (3, AV.sl (some oa) 1 m9 2), (4, AV.sl (some ob) 2 k6 2), (5, AV.int .i64 j5)], [.one true 66 [AV.int .i64 0, AV.bool false, AV.int .i64 0, AV.bool false], .many true 64 m9 [CF.I .i64 ll, CF.B lm], .many true 64 k6 [CF.I .i64 ky, CF.B kz]], false, 0⟩
def xA (ig:Nat) (ii:Nat -> Int) (ik : Nat -> Bool) (im:Nat -> Int) (ip : Nat -> Bool) (o0 o1:Bool) (o2:Int) (o3:Nat) (o4 : (Nat -> Int)) (o5 : (Nat -> Bool)) (o6:Nat) (o7 : (Nat -> Int)) (o8 : (Nat -> Bool)) : VS := ⟨dD 33 0 [(0, AV.rs none ig [CF.I .i64 ii, CF.B ik, CF.I .i64 im, CF.B ip]), (2, AV.ptr false 0 0 0), (3, AV.sl (some o0) 1 o3 2), (4, AV.sl (some o1) 2 o6 2), (5, AV.int .i64 o2)], [.one true 66 [AV.int .i64 0, AV.bool false, AV.int .i64 0, AV.bool false], .many true 64 o3 [CF.I .i64 o4, CF.B o5], .many true 64 o6 [CF.I .i64 o7, CF.B o8]], false, 0⟩
theorem apf (ig:Nat) (ii:Nat -> Int) (ik : Nat -> Bool) (im:Nat -> Int) (ip : Nat -> Bool) (oa ob:Bool) (j5:Int) (m9:Nat) (ll : (Nat -> Int)) (lm : (Nat -> Bool)) (k6:Nat) (ky : (Nat -> Int)) (kz : (Nat -> Bool)) (Q : Exit -> VS -> Prop) : vwp tab (bC aqw) (fun _ _ _ => False) 0 (gY (dA (aF Tryz.f182) 0)) (EC ig ii ik im ip oa ob j5 m9 ll lm k6 ky kz) (QM [0, 2, 3, 4, 5] [0, 1, 2] 3 Q) = IE ig ii ik im ip oa ob j5 m9 ll lm k6 ky kz (fun w0 w1 w2 w3 w4 w5 w6 w7 w8 => Q .normal (EC ig ii ik im ip w0 w1 w2 w3 w4 w5 w6 w7 w8)) (fun o0 o1 o2 o3 o4 o5 o6 o7 o8 => Q (.exit 0) (xA ig ii ik im ip o0 o1 o2 o3 o4 o5 o6 o7 o8))  := by kernel_rfl
theorem apl {X : Cx} (hX : Std Tryz.prog tab (bC aqw) X) (b : Code) (hb : b = aF Tryz.f182) (ig:Nat) (ii:Nat -> Int) (ik : Nat -> Bool) (im:Nat -> Int) (ip : Nat -> Bool) (fu:Nat) (oa ob:Bool) (j5:Int) (m9:Nat) (ll : (Nat -> Int)) (lm : (Nat -> Bool)) (k6:Nat) (ky : (Nat -> Int)) (kz : (Nat -> Bool)) (Q : Exit -> VS -> Prop) (h : yK ig ii ik im ip fu oa ob j5 m9 ll lm k6 ky kz (fun o0 o1 o2 o3 o4 o5 o6 o7 o8 => Q (.exit 0) (xA ig ii ik im ip o0 o1 o2 o3 o4 o5 o6 o7 o8))) : TrK X b 0 (EC ig ii ik im ip oa ob j5 m9 ll lm k6 ky kz) Q := by
  subst hb
  refine iF (V := Bool × Bool × Int × Nat × (Nat -> Int) × (Nat -> Bool) × Nat × (Nat -> Int) × (Nat -> Bool)) (fun v => EC ig ii ik im ip v.1 v.2.1 v.2.2.1 v.2.2.2.1 v.2.2.2.2.1 v.2.2.2.2.2.1 v.2.2.2.2.2.2.1 v.2.2.2.2.2.2.2.1 v.2.2.2.2.2.2.2.2) (fun f v => yK ig ii ik im ip f v.1 v.2.1 v.2.2.1 v.2.2.2.1 v.2.2.2.2.1 v.2.2.2.2.2.1 v.2.2.2.2.2.2.1 v.2.2.2.2.2.2.2.1 v.2.2.2.2.2.2.2.2 (fun o0 o1 o2 o3 o4 o5 o6 o7 o8 => Q (.exit 0) (xA ig ii ik im ip o0 o1 o2 o3 o4 o5 o6 o7 o8))) (fun _ h => h) (by kernel_rfl) (fun f v hv => ?_) (fuel := fu) (v0 := (oa, ob, j5, m9, ll, lm, k6, ky, kz)) h
  refine mO (bs := [0, 2, 3, 4, 5]) (ms := [0, 1, 2]) (nm := 3) ?_
  refine dG hX rfl (tr := (fun _ _ _ => False)) (fun _ _ _ h => h.elim) ?_
  refine Eq.mpr (apf ig ii ik im ip v.1 v.2.1 v.2.2.1 v.2.2.2.1 v.2.2.2.2.1 v.2.2.2.2.2.1 v.2.2.2.2.2.2.1 v.2.2.2.2.2.2.2.1 v.2.2.2.2.2.2.2.2 _) ?_
  exact ab3 ig ii ik im ip v.1 v.2.1 v.2.2.1 v.2.2.2.1 v.2.2.2.2.1 v.2.2.2.2.2.1 v.2.2.2.2.2.2.1 v.2.2.2.2.2.2.2.1 v.2.2.2.2.2.2.2.2 (fun w0 w1 w2 w3 w4 w5 w6 w7 w8 h => ⟨(w0, w1, w2, w3, w4, w5, w6, w7, w8), rfl, h⟩) (fun _ _ _ _ _ _ _ _ _ h => h) hv
def akb (ig:Nat) (ii:Nat -> Int) (ik : Nat -> Bool) (im:Nat -> Int) (ip : Nat -> Bool) (k:Nat) (st : VS) (Q : Exit -> VS -> Prop) : Prop := match k with
  | 0 => TL [0, 2, 3, 4, 5] [0, 1, 2] 3 (convs st [⟨.t 3, 64, [CF.I .i64 (fun _ => 0), CF.B (fun _ => false)]⟩, ⟨.t 4, 64, [CF.I .i64 (fun _ => 0), CF.B (fun _ => false)]⟩]) (fun st => EC ig ii ik im ip (qAV (tAt st 3)) (qAV (tAt st 4)) (intOf (tAt st 5)) (nAB (fK st 1)) (aA (cAB (fK st 1)) 0) (bP (cAB (fK st 1)) 1) (nAB (fK st 2)) (aA (cAB (fK st 2)) 0) (bP (cAB (fK st 2)) 1)) (fun st => yK ig ii ik im ip fuel (qAV (tAt st 3)) (qAV (tAt st 4)) (intOf (tAt st 5)) (nAB (fK st 1)) (aA (cAB (fK st 1)) 0) (bP (cAB (fK st 1)) 1) (nAB (fK st 2)) (aA (cAB (fK st 2)) 0) (bP (cAB (fK st 2)) 1) (fun o0 o1 o2 o3 o4 o5 o6 o7 o8 => Q (.exit 0) (xA ig ii ik im ip o0 o1 o2 o3 o4 o5 o6 o7 o8)))
  | _ => False
theorem asC {X : Cx} (hX : Std Tryz.prog tab (bC aqw) X) (b : Code) (hb : b = aF Tryz.f182) (ig:Nat) (ii:Nat -> Int) (ik : Nat -> Bool) (im:Nat -> Int) (ip : Nat -> Bool) (j:Nat) (st : VS) (Q : Exit -> VS -> Prop) (h : akb ig ii ik im ip j st Q) : TrK X b j st Q := by
  unfold akb at h
  split at h
  . exact lF h (fun h' => apl hX b hb ig ii ik im ip _ _ _ _ _ _ _ _ _ _ Q h')
  . exact h.elim
def ajz (ig:Nat) (ii:Nat -> Int) (ik : Nat -> Bool) (im:Nat -> Int) (ip : Nat -> Bool) : List AV := [AV.rs none ig [CF.I .i64 ii, CF.B ik, CF.I .i64 im, CF.B ip]]
theorem awy (ig:Nat) (ii:Nat -> Int) (ik : Nat -> Bool) (im:Nat -> Int) (ip : Nat -> Bool) (K : AV -> Prop) : vwp tab (bC aqw) (akb ig ii ik im ip) 0 (aF Tryz.f182) (entry (ajz ig ii ik im ip) 33) (aV tab [.cell 2 66] fun v s => K (v.frz s.mem)) = alr ig ii ik im ip (fun r0 r1 r2 r3 => K (AV.agg [AV.int .i64 r0, AV.bool r1, AV.int .i64 r2, AV.bool r3])) (fun p0 p1 p2 p3 p4 p5 p6 p7 p8 y0 => EC ig ii ik im ip p0 p1 p2 p3 p4 p5 p6 p7 p8 = EC ig ii ik im ip p0 p1 p2 p3 p4 p5 p6 p7 p8 /\ yK ig ii ik im ip fuel p0 p1 p2 p3 p4 p5 p6 p7 p8 y0) := by kernel_rfl
theorem asD (ig:Nat) (ii:Nat -> Int) (ik : Nat -> Bool) (im:Nat -> Int) (ip : Nat -> Bool) {K0 : Int -> Bool -> Int -> Bool -> Prop} : alr ig ii ik im ip K0 (yK ig ii ik im ip fuel) -> alr ig ii ik im ip K0 (fun p0 p1 p2 p3 p4 p5 p6 p7 p8 y0 => EC ig ii ik im ip p0 p1 p2 p3 p4 p5 p6 p7 p8 = EC ig ii ik im ip p0 p1 p2 p3 p4 p5 p6 p7 p8 /\ yK ig ii ik im ip fuel p0 p1 p2 p3 p4 p5 p6 p7 p8 y0) := by
  unfold alr
  repeat' first
    | exact id
    | refine dU ?_
    | refine cO ?_ ?_
    | refine cZ ?_
    | refine fun h => ⟨rfl, ae9 _ _ _ _ _  (fun _ _ _ _ _ _ _ _ _ => ?_) _ _ _ _ _ _ _ _ _ _  h⟩
def anS : List AV -> Option (Prop × RT)
  | [AV.rs sq0 sn0 sc0] => cond (fG [KC.I .i64, KC.B, KC.I .i64, KC.B] sc0) (some (ae2 (nOf sn0 sc0) (aA sc0 0) (bP sc0 1) (aA sc0 2) (bP sc0 3), RT.leaf (AV.agg [AV.int .i64 (Aq (nOf sn0 sc0) (aA sc0 0) (bP sc0 1) (aA sc0 2) (bP sc0 3)), AV.bool (Jl (nOf sn0 sc0) (aA sc0 0) (bP sc0 1) (aA sc0 2) (bP sc0 3)), AV.int .i64 (IG (nOf sn0 sc0) (aA sc0 0) (bP sc0 1) (aA sc0 2) (bP sc0 3)), AV.bool (Nl (nOf sn0 sc0) (aA sc0 0) (bP sc0 1) (aA sc0 2) (bP sc0 3))]))) none
  | _ => none
theorem awz : aU Tryz.prog 182 (.pure anS) := by
 intro xs p r h hp E w vs hr hv; unfold anS at h; split at h
 . rename_i sq0 sn0 sc0
   obtain ⟨hk0, h⟩ := dW h
   obtain ⟨rfl, rfl⟩ := aG h
   have hG := (show aO Tryz.prog aqw from ⟨an7, trivial⟩)
   have hv' := ((AV.les.cons (AV.le.rs hk0) AV.les.nil) _ _ hv : VRs E.bare (ajz (nOf sn0 sc0) (aA sc0 0) (bP sc0 1) (aA sc0 2) (bP sc0 3)) vs)
   refine eF (c := aF Tryz.f182) (rs := [.cell 2 66]) (ys := ajz (nOf sn0 sc0) (aA sc0 0) (bP sc0 1) (aA sc0 2) (bP sc0 3)) aX (gB hG) Tryz.func182 rfl (by kernel_rfl) rfl (by decide) (fun X hX hrho => ?_) E w vs hr hv'
   rw [Tryz.ntmps182]
   refine dG hX rfl (tr := akb (nOf sn0 sc0) (aA sc0 0) (bP sc0 1) (aA sc0 2) (bP sc0 3)) (fun j st Q h => asC hX _ rfl (nOf sn0 sc0) (aA sc0 0) (bP sc0 1) (aA sc0 2) (bP sc0 3) j st Q h) (Eq.mpr (awy (nOf sn0 sc0) (aA sc0 0) (bP sc0 1) (aA sc0 2) (bP sc0 3) (fun x => x = _)) ?_)
   exact asD (nOf sn0 sc0) (aA sc0 0) (bP sc0 1) (aA sc0 2) (bP sc0 3) (atP (nOf sn0 sc0) (aA sc0 0) (bP sc0 1) (aA sc0 2) (bP sc0 3) hp rfl)
 . cases h
def ar7 : List (Nat × Ag.Spec) := [(140, .pure agw)]
def akl (cm:Int) (ge:Bool) : List AV := [AV.agg [AV.int .i64 cm, AV.bool ge]]
theorem axN (cm:Int) (ge:Bool) (K : AV -> Prop) : vwp tab (bC ar7) (fun _ _ _ => False) 0 (aF Tryz.f181) (entry (akl cm ge) 7) (aV tab [.tmp 2] fun v s => K (v.frz s.mem)) = ami cm ge (fun r0 => K (AV.bool r0))  := by kernel_rfl
def aoA : List AV -> Option (Prop × RT)
  | [AV.agg [AV.int .i64 cm, AV.bool ge]] => some (V6 cm ge, RT.leaf (AV.bool (Nk cm ge)))
  | _ => none
theorem axO : aU Tryz.prog 181 (.pure aoA) := by
 intro xs p r h hp E w vs hr hv; unfold aoA at h; split at h
 . rename_i cm ge
   obtain ⟨rfl, rfl⟩ := aG h
   exact dF (ys := akl cm ge) (rs := [.tmp 2]) aX (show aO Tryz.prog ar7 from ⟨an7, trivial⟩) Tryz.func181 rfl (by kernel_rfl) rfl (by decide) Tryz.ntmps181 (axN cm ge) (auV cm ge hp rfl) E w vs hr hv
 . cases h





def asM : List (Nat × Ag.Spec) := []
def akU (a0:Int) : List AV := [AV.int .i64 a0]
theorem ayo (a0:Int) (K : AV -> Prop) : vwp tab (bC asM) (fun _ _ _ => False) 0 (aF Tryz.f177) (entry (akU a0) 9) (aV tab [.tmp 2] fun v s => K (v.frz s.mem)) = am4 a0 (fun r0 => K (AV.bool r0))  := by kernel_rfl
def apv : List AV -> Option (Prop × RT)
  | [AV.int .i64 a0] => some (afC a0, RT.leaf (AV.bool (CJ a0)))
  | _ => none
theorem ayA : aU Tryz.prog 177 (.pure apv) := by
 intro xs p r h hp E w vs hr hv; unfold apv at h; split at h
 . rename_i a0
   obtain ⟨rfl, rfl⟩ := aG h
   exact dF (ys := akU a0) (rs := [.tmp 2]) aX (show aO Tryz.prog asM from trivial) Tryz.func177 rfl (by kernel_rfl) rfl (by decide) Tryz.ntmps177 (ayo a0) (avv a0 hp rfl) E w vs hr hv
 . cases h
def asY : List (Nat × Ag.Spec) := []
def alb (a0:Int) : List AV := [AV.int .i64 a0]
theorem ayB (a0:Int) (K : AV -> Prop) : vwp tab (bC asY) (fun _ _ _ => False) 0 (aF Tryz.f178) (entry (alb a0) 9) (aV tab [.tmp 2] fun v s => K (v.frz s.mem)) = anx a0 (fun r0 => K (AV.bool r0))  := by kernel_rfl
def apO : List AV -> Option (Prop × RT)
  | [AV.int .i64 a0] => some (Ze a0, RT.leaf (AV.bool (Ns a0)))
  | _ => none
theorem ayO : aU Tryz.prog 178 (.pure apO) := by
 intro xs p r h hp E w vs hr hv; unfold apO at h; split at h
 . rename_i a0
   obtain ⟨rfl, rfl⟩ := aG h
   exact dF (ys := alb a0) (rs := [.tmp 2]) aX (show aO Tryz.prog asY from trivial) Tryz.func178 rfl (by kernel_rfl) rfl (by decide) Tryz.ntmps178 (ayB a0) (avw a0 hp rfl) E w vs hr hv
 . cases h
def aqb : List (Nat × Ag.Spec) := []
def ajp (cm ge ic ie:Int) : List AV := [AV.agg [AV.int .i64 cm, AV.int .i64 ge], AV.agg [AV.int .i64 ic, AV.int .i64 ie]]
theorem av9 (cm ge ic ie:Int) (K : AV -> Prop) : vwp tab (bC aqb) (fun _ _ _ => False) 0 (aF Tryz.f263) (entry (ajp cm ge ic ie) 16) (aV tab [.tmp 4] fun v s => K (v.frz s.mem)) = ak9 cm ge ic ie (fun r0 => K (AV.int .i64 r0))  := by kernel_rfl
def anv : List AV -> Option (Prop × RT)
  | [AV.agg [AV.int .i64 cm, AV.int .i64 ge], AV.agg [AV.int .i64 ic, AV.int .i64 ie]] => some (Qy cm ge ic ie, RT.leaf (AV.int .i64 (mF cm ge ic ie)))
  | _ => none
theorem awc : aU Tryz.prog 263 (.pure anv) := by
 intro xs p r h hp E w vs hr hv; unfold anv at h; split at h
 . rename_i cm ge ic ie
   obtain ⟨rfl, rfl⟩ := aG h
   exact dF (ys := ajp cm ge ic ie) (rs := [.tmp 4]) aX (show aO Tryz.prog aqb from trivial) Tryz.func263 rfl (by kernel_rfl) rfl (by decide) Tryz.ntmps263 (av9 cm ge ic ie) (atA cm ge ic ie hp rfl) E w vs hr hv
 . cases h
def asi : List (Nat × Ag.Spec) := []
def aks (cm ge ic ie:Int) : List AV := [AV.agg [AV.int .i64 cm, AV.int .i64 ge], AV.agg [AV.int .i64 ic, AV.int .i64 ie]]
theorem ax3 (cm ge ic ie:Int) (K : AV -> Prop) : vwp tab (bC asi) (fun _ _ _ => False) 0 (aF Tryz.f264) (entry (aks cm ge ic ie) 16) (aV tab [.cell 4 32] fun v s => K (v.frz s.mem)) = amr cm ge ic ie (fun r0 r1 => K (AV.agg [AV.int .i64 r0, AV.int .i64 r1]))  := by kernel_rfl
def aoK : List AV -> Option (Prop × RT)
  | [AV.agg [AV.int .i64 cm, AV.int .i64 ge], AV.agg [AV.int .i64 ic, AV.int .i64 ie]] => some (V8 cm ge ic ie, RT.leaf (AV.agg [AV.int .i64 (dH cm ge ic ie), AV.int .i64 (dI cm ge ic ie)]))
  | _ => none
theorem ax4 : aU Tryz.prog 264 (.pure aoK) := by
 intro xs p r h hp E w vs hr hv; unfold aoK at h; split at h
 . rename_i cm ge ic ie
   obtain ⟨rfl, rfl⟩ := aG h
   exact dF (ys := aks cm ge ic ie) (rs := [.cell 4 32]) aX (show aO Tryz.prog asi from trivial) Tryz.func264 rfl (by kernel_rfl) rfl (by decide) Tryz.ntmps264 (ax3 cm ge ic ie) (au4 cm ge ic ie hp rfl) E w vs hr hv
 . cases h
def agY : List (Nat × Ag.Spec) := []
def agZ (cm ge:Int) : List AV := [AV.agg [AV.int .i64 cm, AV.int .i64 ge]]
theorem aym (cm ge:Int) (K : AV -> Prop) : vwp tab (bC agY) (fun _ _ _ => False) 0 (aF Tryz.f265) (entry (agZ cm ge) 16) (aV tab [.tmp 2] fun v s => K (v.frz s.mem)) = adx cm ge (fun r0 => K (AV.int .i64 r0))  := by kernel_rfl
def aoZ : List AV -> Option (Prop × RT)
  | [AV.agg [AV.int .i64 cm, AV.int .i64 ge]] => some (Zk cm ge, RT.leaf (AV.int .i64 (Wi cm ge)))
  | _ => none
theorem ayn : aU Tryz.prog 265 (.pure aoZ) := by
 intro xs p r h hp E w vs hr hv; unfold aoZ at h; split at h
 . rename_i cm ge
   obtain ⟨rfl, rfl⟩ := aG h
   exact dF (ys := agZ cm ge) (rs := [.tmp 2]) aX (show aO Tryz.prog agY from trivial) Tryz.func265 rfl (by kernel_rfl) rfl (by decide) Tryz.ntmps265 (aym cm ge) (ave cm ge hp rfl) E w vs hr hv
 . cases h
def Yi : List (Nat × Ag.Spec) := [(263, .pure anv), (264, .pure aoK), (265, .pure aoZ)]
def tH (ig:Nat) (cm ge:Nat -> Int) (ir lq:Int) : VS := ⟨dD 78 0 [(0, AV.rs none ig [CF.I .i64 cm, CF.I .i64 ge]), (2, AV.bool false), (3, AV.int .i64 (ig:Int)), (4, AV.int .i64 ir), (5, AV.ptr false 0 0 0), (6, AV.ptr false 1 0 0), (7, AV.ptr false 2 0 0), (8, AV.int .i64 lq), (11, AV.int .i64 ir), (12, AV.int .i64 (ig:Int)), (13, AV.bool true), (16, AV.rs none ig [CF.I .i64 cm, CF.I .i64 ge]), (17, AV.int .i64 ir), (18, AV.rp [AV.int .i64 (cm (Int.toNat ir)), AV.int .i64 (ge (Int.toNat ir))] 0), (19, AV.agg [AV.int .i64 (cm (Int.toNat ir)), AV.int .i64 (ge (Int.toNat ir))]), (20, AV.rs none ig [CF.I .i64 cm, CF.I .i64 ge]), (21, AV.int .i64 ir), (22, AV.int .i64 (au .i64 ir 1)), (23, AV.int .i64 (ig:Int)), (24, AV.int .i64 (aB .i64 (au .i64 ir 1) (ig:Int))), (25, AV.rp [AV.int .i64 (cm (Int.toNat (aB .i64 (au .i64 ir 1) (ig:Int)))), AV.int .i64 (ge (Int.toNat (aB .i64 (au .i64 ir 1) (ig:Int))))] 0), (26, AV.agg [AV.int .i64 (cm (Int.toNat (aB .i64 (au .i64 ir 1) (ig:Int)))), AV.int .i64 (ge (Int.toNat (aB .i64 (au .i64 ir 1) (ig:Int))))]), (27, AV.rs none ig [CF.I .i64 cm, CF.I .i64 ge]), (28, AV.int .i64 ir), (29, AV.int .i64 (au .i64 ir 2)), (30, AV.int .i64 (ig:Int)), (31, AV.int .i64 (aB .i64 (au .i64 ir 2) (ig:Int))), (32, AV.rp [AV.int .i64 (cm (Int.toNat (aB .i64 (au .i64 ir 2) (ig:Int)))), AV.int .i64 (ge (Int.toNat (aB .i64 (au .i64 ir 2) (ig:Int))))] 0), (33, AV.agg [AV.int .i64 (cm (Int.toNat (aB .i64 (au .i64 ir 2) (ig:Int)))), AV.int .i64 (ge (Int.toNat (aB .i64 (au .i64 ir 2) (ig:Int))))]), (34, AV.agg [AV.int .i64 (cm (Int.toNat ir)), AV.int .i64 (ge (Int.toNat ir))]), (35, AV.agg [AV.int .i64 (cm (Int.toNat (aB .i64 (au .i64 ir 1) (ig:Int)))), AV.int .i64 (ge (Int.toNat (aB .i64 (au .i64 ir 1) (ig:Int))))]), (36, AV.int .i64 (mF (cm (Int.toNat ir)) (ge (Int.toNat ir)) (cm (Int.toNat (aB .i64 (au .i64 ir 1) (ig:Int)))) (ge (Int.toNat (aB .i64 (au .i64 ir 1) (ig:Int)))))), (37, AV.bool (ile (mF (cm (Int.toNat ir)) (ge (Int.toNat ir)) (cm (Int.toNat (aB .i64 (au .i64 ir 1) (ig:Int)))) (ge (Int.toNat (aB .i64 (au .i64 ir 1) (ig:Int))))) 0)), (38, AV.bool false), (39, AV.agg [AV.int .i64 (cm (Int.toNat (aB .i64 (au .i64 ir 1) (ig:Int)))), AV.int .i64 (ge (Int.toNat (aB .i64 (au .i64 ir 1) (ig:Int))))]), (40, AV.agg [AV.int .i64 (cm (Int.toNat ir)), AV.int .i64 (ge (Int.toNat ir))]), (41, AV.agg [AV.int .i64 (dH (cm (Int.toNat (aB .i64 (au .i64 ir 1) (ig:Int)))) (ge (Int.toNat (aB .i64 (au .i64 ir 1) (ig:Int)))) (cm (Int.toNat ir)) (ge (Int.toNat ir))), AV.int .i64 (dI (cm (Int.toNat (aB .i64 (au .i64 ir 1) (ig:Int)))) (ge (Int.toNat (aB .i64 (au .i64 ir 1) (ig:Int)))) (cm (Int.toNat ir)) (ge (Int.toNat ir)))]), (42, AV.agg [AV.int .i64 (cm (Int.toNat (aB .i64 (au .i64 ir 2) (ig:Int)))), AV.int .i64 (ge (Int.toNat (aB .i64 (au .i64 ir 2) (ig:Int))))]), (43, AV.agg [AV.int .i64 (cm (Int.toNat (aB .i64 (au .i64 ir 1) (ig:Int)))), AV.int .i64 (ge (Int.toNat (aB .i64 (au .i64 ir 1) (ig:Int))))]), (44, AV.agg [AV.int .i64 (dH (cm (Int.toNat (aB .i64 (au .i64 ir 2) (ig:Int)))) (ge (Int.toNat (aB .i64 (au .i64 ir 2) (ig:Int)))) (cm (Int.toNat (aB .i64 (au .i64 ir 1) (ig:Int)))) (ge (Int.toNat (aB .i64 (au .i64 ir 1) (ig:Int))))), AV.int .i64 (dI (cm (Int.toNat (aB .i64 (au .i64 ir 2) (ig:Int)))) (ge (Int.toNat (aB .i64 (au .i64 ir 2) (ig:Int)))) (cm (Int.toNat (aB .i64 (au .i64 ir 1) (ig:Int)))) (ge (Int.toNat (aB .i64 (au .i64 ir 1) (ig:Int)))))]), (45, AV.int .i64 (mF (dH (cm (Int.toNat (aB .i64 (au .i64 ir 1) (ig:Int)))) (ge (Int.toNat (aB .i64 (au .i64 ir 1) (ig:Int)))) (cm (Int.toNat ir)) (ge (Int.toNat ir))) (dI (cm (Int.toNat (aB .i64 (au .i64 ir 1) (ig:Int)))) (ge (Int.toNat (aB .i64 (au .i64 ir 1) (ig:Int)))) (cm (Int.toNat ir)) (ge (Int.toNat ir))) (dH (cm (Int.toNat (aB .i64 (au .i64 ir 2) (ig:Int)))) (ge (Int.toNat (aB .i64 (au .i64 ir 2) (ig:Int)))) (cm (Int.toNat (aB .i64 (au .i64 ir 1) (ig:Int)))) (ge (Int.toNat (aB .i64 (au .i64 ir 1) (ig:Int))))) (dI (cm (Int.toNat (aB .i64 (au .i64 ir 2) (ig:Int)))) (ge (Int.toNat (aB .i64 (au .i64 ir 2) (ig:Int)))) (cm (Int.toNat (aB .i64 (au .i64 ir 1) (ig:Int)))) (ge (Int.toNat (aB .i64 (au .i64 ir 1) (ig:Int))))))), (46, AV.agg [AV.int .i64 (cm (Int.toNat (aB .i64 (au .i64 ir 1) (ig:Int)))), AV.int .i64 (ge (Int.toNat (aB .i64 (au .i64 ir 1) (ig:Int))))]), (47, AV.agg [AV.int .i64 (cm (Int.toNat ir)), AV.int .i64 (ge (Int.toNat ir))]), (48, AV.agg [AV.int .i64 (dH (cm (Int.toNat (aB .i64 (au .i64 ir 1) (ig:Int)))) (ge (Int.toNat (aB .i64 (au .i64 ir 1) (ig:Int)))) (cm (Int.toNat ir)) (ge (Int.toNat ir))), AV.int .i64 (dI (cm (Int.toNat (aB .i64 (au .i64 ir 1) (ig:Int)))) (ge (Int.toNat (aB .i64 (au .i64 ir 1) (ig:Int)))) (cm (Int.toNat ir)) (ge (Int.toNat ir)))]), (49, AV.int .i64 (Wi (dH (cm (Int.toNat (aB .i64 (au .i64 ir 1) (ig:Int)))) (ge (Int.toNat (aB .i64 (au .i64 ir 1) (ig:Int)))) (cm (Int.toNat ir)) (ge (Int.toNat ir))) (dI (cm (Int.toNat (aB .i64 (au .i64 ir 1) (ig:Int)))) (ge (Int.toNat (aB .i64 (au .i64 ir 1) (ig:Int)))) (cm (Int.toNat ir)) (ge (Int.toNat ir))))), (50, AV.agg [AV.int .i64 (cm (Int.toNat (aB .i64 (au .i64 ir 2) (ig:Int)))), AV.int .i64 (ge (Int.toNat (aB .i64 (au .i64 ir 2) (ig:Int))))]), (51, AV.agg [AV.int .i64 (cm (Int.toNat (aB .i64 (au .i64 ir 1) (ig:Int)))), AV.int .i64 (ge (Int.toNat (aB .i64 (au .i64 ir 1) (ig:Int))))]), (52, AV.agg [AV.int .i64 (dH (cm (Int.toNat (aB .i64 (au .i64 ir 2) (ig:Int)))) (ge (Int.toNat (aB .i64 (au .i64 ir 2) (ig:Int)))) (cm (Int.toNat (aB .i64 (au .i64 ir 1) (ig:Int)))) (ge (Int.toNat (aB .i64 (au .i64 ir 1) (ig:Int))))), AV.int .i64 (dI (cm (Int.toNat (aB .i64 (au .i64 ir 2) (ig:Int)))) (ge (Int.toNat (aB .i64 (au .i64 ir 2) (ig:Int)))) (cm (Int.toNat (aB .i64 (au .i64 ir 1) (ig:Int)))) (ge (Int.toNat (aB .i64 (au .i64 ir 1) (ig:Int)))))]), (53, AV.int .i64 (Wi (dH (cm (Int.toNat (aB .i64 (au .i64 ir 2) (ig:Int)))) (ge (Int.toNat (aB .i64 (au .i64 ir 2) (ig:Int)))) (cm (Int.toNat (aB .i64 (au .i64 ir 1) (ig:Int)))) (ge (Int.toNat (aB .i64 (au .i64 ir 1) (ig:Int))))) (dI (cm (Int.toNat (aB .i64 (au .i64 ir 2) (ig:Int)))) (ge (Int.toNat (aB .i64 (au .i64 ir 2) (ig:Int)))) (cm (Int.toNat (aB .i64 (au .i64 ir 1) (ig:Int)))) (ge (Int.toNat (aB .i64 (au .i64 ir 1) (ig:Int))))))), (54, AV.int .i64 (au .i64 (Wi (dH (cm (Int.toNat (aB .i64 (au .i64 ir 1) (ig:Int)))) (ge (Int.toNat (aB .i64 (au .i64 ir 1) (ig:Int)))) (cm (Int.toNat ir)) (ge (Int.toNat ir))) (dI (cm (Int.toNat (aB .i64 (au .i64 ir 1) (ig:Int)))) (ge (Int.toNat (aB .i64 (au .i64 ir 1) (ig:Int)))) (cm (Int.toNat ir)) (ge (Int.toNat ir)))) (Wi (dH (cm (Int.toNat (aB .i64 (au .i64 ir 2) (ig:Int)))) (ge (Int.toNat (aB .i64 (au .i64 ir 2) (ig:Int)))) (cm (Int.toNat (aB .i64 (au .i64 ir 1) (ig:Int)))) (ge (Int.toNat (aB .i64 (au .i64 ir 1) (ig:Int))))) (dI (cm (Int.toNat (aB .i64 (au .i64 ir 2) (ig:Int)))) (ge (Int.toNat (aB .i64 (au .i64 ir 2) (ig:Int)))) (cm (Int.toNat (aB .i64 (au .i64 ir 1) (ig:Int)))) (ge (Int.toNat (aB .i64 (au .i64 ir 1) (ig:Int)))))))), (55, AV.int .i64 (aI .i64 4 (au .i64 (Wi (dH (cm (Int.toNat (aB .i64 (au .i64 ir 1) (ig:Int)))) (ge (Int.toNat (aB .i64 (au .i64 ir 1) (ig:Int)))) (cm (Int.toNat ir)) (ge (Int.toNat ir))) (dI (cm (Int.toNat (aB .i64 (au .i64 ir 1) (ig:Int)))) (ge (Int.toNat (aB .i64 (au .i64 ir 1) (ig:Int)))) (cm (Int.toNat ir)) (ge (Int.toNat ir)))) (Wi (dH (cm (Int.toNat (aB .i64 (au .i64 ir 2) (ig:Int)))) (ge (Int.toNat (aB .i64 (au .i64 ir 2) (ig:Int)))) (cm (Int.toNat (aB .i64 (au .i64 ir 1) (ig:Int)))) (ge (Int.toNat (aB .i64 (au .i64 ir 1) (ig:Int))))) (dI (cm (Int.toNat (aB .i64 (au .i64 ir 2) (ig:Int)))) (ge (Int.toNat (aB .i64 (au .i64 ir 2) (ig:Int)))) (cm (Int.toNat (aB .i64 (au .i64 ir 1) (ig:Int)))) (ge (Int.toNat (aB .i64 (au .i64 ir 1) (ig:Int))))))))), (56, AV.bool (ilt (mF (dH (cm (Int.toNat (aB .i64 (au .i64 ir 1) (ig:Int)))) (ge (Int.toNat (aB .i64 (au .i64 ir 1) (ig:Int)))) (cm (Int.toNat ir)) (ge (Int.toNat ir))) (dI (cm (Int.toNat (aB .i64 (au .i64 ir 1) (ig:Int)))) (ge (Int.toNat (aB .i64 (au .i64 ir 1) (ig:Int)))) (cm (Int.toNat ir)) (ge (Int.toNat ir))) (dH (cm (Int.toNat (aB .i64 (au .i64 ir 2) (ig:Int)))) (ge (Int.toNat (aB .i64 (au .i64 ir 2) (ig:Int)))) (cm (Int.toNat (aB .i64 (au .i64 ir 1) (ig:Int)))) (ge (Int.toNat (aB .i64 (au .i64 ir 1) (ig:Int))))) (dI (cm (Int.toNat (aB .i64 (au .i64 ir 2) (ig:Int)))) (ge (Int.toNat (aB .i64 (au .i64 ir 2) (ig:Int)))) (cm (Int.toNat (aB .i64 (au .i64 ir 1) (ig:Int)))) (ge (Int.toNat (aB .i64 (au .i64 ir 1) (ig:Int)))))) (aI .i64 4 (au .i64 (Wi (dH (cm (Int.toNat (aB .i64 (au .i64 ir 1) (ig:Int)))) (ge (Int.toNat (aB .i64 (au .i64 ir 1) (ig:Int)))) (cm (Int.toNat ir)) (ge (Int.toNat ir))) (dI (cm (Int.toNat (aB .i64 (au .i64 ir 1) (ig:Int)))) (ge (Int.toNat (aB .i64 (au .i64 ir 1) (ig:Int)))) (cm (Int.toNat ir)) (ge (Int.toNat ir)))) (Wi (dH (cm (Int.toNat (aB .i64 (au .i64 ir 2) (ig:Int)))) (ge (Int.toNat (aB .i64 (au .i64 ir 2) (ig:Int)))) (cm (Int.toNat (aB .i64 (au .i64 ir 1) (ig:Int)))) (ge (Int.toNat (aB .i64 (au .i64 ir 1) (ig:Int))))) (dI (cm (Int.toNat (aB .i64 (au .i64 ir 2) (ig:Int)))) (ge (Int.toNat (aB .i64 (au .i64 ir 2) (ig:Int)))) (cm (Int.toNat (aB .i64 (au .i64 ir 1) (ig:Int)))) (ge (Int.toNat (aB .i64 (au .i64 ir 1) (ig:Int)))))))))), (57, AV.bool false)], [.one true 32 [AV.int .i64 (cm (Int.toNat ir)), AV.int .i64 (ge (Int.toNat ir))], .one true 32 [AV.int .i64 (cm (Int.toNat (aB .i64 (au .i64 ir 1) (ig:Int)))), AV.int .i64 (ge (Int.toNat (aB .i64 (au .i64 ir 1) (ig:Int))))], .one true 32 [AV.int .i64 (cm (Int.toNat (aB .i64 (au .i64 ir 2) (ig:Int)))), AV.int .i64 (ge (Int.toNat (aB .i64 (au .i64 ir 2) (ig:Int))))]], false, 0⟩
def tJ (ig:Nat) (cm ge:Nat -> Int) (ir o0:Int) : VS := ⟨dD 78 0 [(0, AV.rs none ig [CF.I .i64 cm, CF.I .i64 ge]), (2, AV.bool false), (3, AV.int .i64 (ig:Int)), (4, AV.int .i64 ir), (5, AV.ptr false 0 0 0), (6, AV.ptr false 1 0 0), (7, AV.ptr false 2 0 0), (8, AV.int .i64 o0), (11, AV.int .i64 ir), (12, AV.int .i64 (ig:Int)), (13, AV.bool true), (16, AV.rs none ig [CF.I .i64 cm, CF.I .i64 ge]), (17, AV.int .i64 ir), (18, AV.rp [AV.int .i64 (cm (Int.toNat ir)), AV.int .i64 (ge (Int.toNat ir))] 0), (19, AV.agg [AV.int .i64 (cm (Int.toNat ir)), AV.int .i64 (ge (Int.toNat ir))]), (20, AV.rs none ig [CF.I .i64 cm, CF.I .i64 ge]), (21, AV.int .i64 ir), (22, AV.int .i64 (au .i64 ir 1)), (23, AV.int .i64 (ig:Int)), (24, AV.int .i64 (aB .i64 (au .i64 ir 1) (ig:Int))), (25, AV.rp [AV.int .i64 (cm (Int.toNat (aB .i64 (au .i64 ir 1) (ig:Int)))), AV.int .i64 (ge (Int.toNat (aB .i64 (au .i64 ir 1) (ig:Int))))] 0), (26, AV.agg [AV.int .i64 (cm (Int.toNat (aB .i64 (au .i64 ir 1) (ig:Int)))), AV.int .i64 (ge (Int.toNat (aB .i64 (au .i64 ir 1) (ig:Int))))]), (27, AV.rs none ig [CF.I .i64 cm, CF.I .i64 ge]), (28, AV.int .i64 ir), (29, AV.int .i64 (au .i64 ir 2)), (30, AV.int .i64 (ig:Int)), (31, AV.int .i64 (aB .i64 (au .i64 ir 2) (ig:Int))), (32, AV.rp [AV.int .i64 (cm (Int.toNat (aB .i64 (au .i64 ir 2) (ig:Int)))), AV.int .i64 (ge (Int.toNat (aB .i64 (au .i64 ir 2) (ig:Int))))] 0), (33, AV.agg [AV.int .i64 (cm (Int.toNat (aB .i64 (au .i64 ir 2) (ig:Int)))), AV.int .i64 (ge (Int.toNat (aB .i64 (au .i64 ir 2) (ig:Int))))]), (34, AV.agg [AV.int .i64 (cm (Int.toNat ir)), AV.int .i64 (ge (Int.toNat ir))]), (35, AV.agg [AV.int .i64 (cm (Int.toNat (aB .i64 (au .i64 ir 1) (ig:Int)))), AV.int .i64 (ge (Int.toNat (aB .i64 (au .i64 ir 1) (ig:Int))))]), (36, AV.int .i64 (mF (cm (Int.toNat ir)) (ge (Int.toNat ir)) (cm (Int.toNat (aB .i64 (au .i64 ir 1) (ig:Int)))) (ge (Int.toNat (aB .i64 (au .i64 ir 1) (ig:Int)))))), (37, AV.bool (ile (mF (cm (Int.toNat ir)) (ge (Int.toNat ir)) (cm (Int.toNat (aB .i64 (au .i64 ir 1) (ig:Int)))) (ge (Int.toNat (aB .i64 (au .i64 ir 1) (ig:Int))))) 0)), (38, AV.bool false), (39, AV.agg [AV.int .i64 (cm (Int.toNat (aB .i64 (au .i64 ir 1) (ig:Int)))), AV.int .i64 (ge (Int.toNat (aB .i64 (au .i64 ir 1) (ig:Int))))]), (40, AV.agg [AV.int .i64 (cm (Int.toNat ir)), AV.int .i64 (ge (Int.toNat ir))]), (41, AV.agg [AV.int .i64 (dH (cm (Int.toNat (aB .i64 (au .i64 ir 1) (ig:Int)))) (ge (Int.toNat (aB .i64 (au .i64 ir 1) (ig:Int)))) (cm (Int.toNat ir)) (ge (Int.toNat ir))), AV.int .i64 (dI (cm (Int.toNat (aB .i64 (au .i64 ir 1) (ig:Int)))) (ge (Int.toNat (aB .i64 (au .i64 ir 1) (ig:Int)))) (cm (Int.toNat ir)) (ge (Int.toNat ir)))]), (42, AV.agg [AV.int .i64 (cm (Int.toNat (aB .i64 (au .i64 ir 2) (ig:Int)))), AV.int .i64 (ge (Int.toNat (aB .i64 (au .i64 ir 2) (ig:Int))))]), (43, AV.agg [AV.int .i64 (cm (Int.toNat (aB .i64 (au .i64 ir 1) (ig:Int)))), AV.int .i64 (ge (Int.toNat (aB .i64 (au .i64 ir 1) (ig:Int))))]), (44, AV.agg [AV.int .i64 (dH (cm (Int.toNat (aB .i64 (au .i64 ir 2) (ig:Int)))) (ge (Int.toNat (aB .i64 (au .i64 ir 2) (ig:Int)))) (cm (Int.toNat (aB .i64 (au .i64 ir 1) (ig:Int)))) (ge (Int.toNat (aB .i64 (au .i64 ir 1) (ig:Int))))), AV.int .i64 (dI (cm (Int.toNat (aB .i64 (au .i64 ir 2) (ig:Int)))) (ge (Int.toNat (aB .i64 (au .i64 ir 2) (ig:Int)))) (cm (Int.toNat (aB .i64 (au .i64 ir 1) (ig:Int)))) (ge (Int.toNat (aB .i64 (au .i64 ir 1) (ig:Int)))))]), (45, AV.int .i64 (mF (dH (cm (Int.toNat (aB .i64 (au .i64 ir 1) (ig:Int)))) (ge (Int.toNat (aB .i64 (au .i64 ir 1) (ig:Int)))) (cm (Int.toNat ir)) (ge (Int.toNat ir))) (dI (cm (Int.toNat (aB .i64 (au .i64 ir 1) (ig:Int)))) (ge (Int.toNat (aB .i64 (au .i64 ir 1) (ig:Int)))) (cm (Int.toNat ir)) (ge (Int.toNat ir))) (dH (cm (Int.toNat (aB .i64 (au .i64 ir 2) (ig:Int)))) (ge (Int.toNat (aB .i64 (au .i64 ir 2) (ig:Int)))) (cm (Int.toNat (aB .i64 (au .i64 ir 1) (ig:Int)))) (ge (Int.toNat (aB .i64 (au .i64 ir 1) (ig:Int))))) (dI (cm (Int.toNat (aB .i64 (au .i64 ir 2) (ig:Int)))) (ge (Int.toNat (aB .i64 (au .i64 ir 2) (ig:Int)))) (cm (Int.toNat (aB .i64 (au .i64 ir 1) (ig:Int)))) (ge (Int.toNat (aB .i64 (au .i64 ir 1) (ig:Int))))))), (46, AV.agg [AV.int .i64 (cm (Int.toNat (aB .i64 (au .i64 ir 1) (ig:Int)))), AV.int .i64 (ge (Int.toNat (aB .i64 (au .i64 ir 1) (ig:Int))))]), (47, AV.agg [AV.int .i64 (cm (Int.toNat ir)), AV.int .i64 (ge (Int.toNat ir))]), (48, AV.agg [AV.int .i64 (dH (cm (Int.toNat (aB .i64 (au .i64 ir 1) (ig:Int)))) (ge (Int.toNat (aB .i64 (au .i64 ir 1) (ig:Int)))) (cm (Int.toNat ir)) (ge (Int.toNat ir))), AV.int .i64 (dI (cm (Int.toNat (aB .i64 (au .i64 ir 1) (ig:Int)))) (ge (Int.toNat (aB .i64 (au .i64 ir 1) (ig:Int)))) (cm (Int.toNat ir)) (ge (Int.toNat ir)))]), (49, AV.int .i64 (Wi (dH (cm (Int.toNat (aB .i64 (au .i64 ir 1) (ig:Int)))) (ge (Int.toNat (aB .i64 (au .i64 ir 1) (ig:Int)))) (cm (Int.toNat ir)) (ge (Int.toNat ir))) (dI (cm (Int.toNat (aB .i64 (au .i64 ir 1) (ig:Int)))) (ge (Int.toNat (aB .i64 (au .i64 ir 1) (ig:Int)))) (cm (Int.toNat ir)) (ge (Int.toNat ir))))), (50, AV.agg [AV.int .i64 (cm (Int.toNat (aB .i64 (au .i64 ir 2) (ig:Int)))), AV.int .i64 (ge (Int.toNat (aB .i64 (au .i64 ir 2) (ig:Int))))]), (51, AV.agg [AV.int .i64 (cm (Int.toNat (aB .i64 (au .i64 ir 1) (ig:Int)))), AV.int .i64 (ge (Int.toNat (aB .i64 (au .i64 ir 1) (ig:Int))))]), (52, AV.agg [AV.int .i64 (dH (cm (Int.toNat (aB .i64 (au .i64 ir 2) (ig:Int)))) (ge (Int.toNat (aB .i64 (au .i64 ir 2) (ig:Int)))) (cm (Int.toNat (aB .i64 (au .i64 ir 1) (ig:Int)))) (ge (Int.toNat (aB .i64 (au .i64 ir 1) (ig:Int))))), AV.int .i64 (dI (cm (Int.toNat (aB .i64 (au .i64 ir 2) (ig:Int)))) (ge (Int.toNat (aB .i64 (au .i64 ir 2) (ig:Int)))) (cm (Int.toNat (aB .i64 (au .i64 ir 1) (ig:Int)))) (ge (Int.toNat (aB .i64 (au .i64 ir 1) (ig:Int)))))]), (53, AV.int .i64 (Wi (dH (cm (Int.toNat (aB .i64 (au .i64 ir 2) (ig:Int)))) (ge (Int.toNat (aB .i64 (au .i64 ir 2) (ig:Int)))) (cm (Int.toNat (aB .i64 (au .i64 ir 1) (ig:Int)))) (ge (Int.toNat (aB .i64 (au .i64 ir 1) (ig:Int))))) (dI (cm (Int.toNat (aB .i64 (au .i64 ir 2) (ig:Int)))) (ge (Int.toNat (aB .i64 (au .i64 ir 2) (ig:Int)))) (cm (Int.toNat (aB .i64 (au .i64 ir 1) (ig:Int)))) (ge (Int.toNat (aB .i64 (au .i64 ir 1) (ig:Int))))))), (54, AV.int .i64 (au .i64 (Wi (dH (cm (Int.toNat (aB .i64 (au .i64 ir 1) (ig:Int)))) (ge (Int.toNat (aB .i64 (au .i64 ir 1) (ig:Int)))) (cm (Int.toNat ir)) (ge (Int.toNat ir))) (dI (cm (Int.toNat (aB .i64 (au .i64 ir 1) (ig:Int)))) (ge (Int.toNat (aB .i64 (au .i64 ir 1) (ig:Int)))) (cm (Int.toNat ir)) (ge (Int.toNat ir)))) (Wi (dH (cm (Int.toNat (aB .i64 (au .i64 ir 2) (ig:Int)))) (ge (Int.toNat (aB .i64 (au .i64 ir 2) (ig:Int)))) (cm (Int.toNat (aB .i64 (au .i64 ir 1) (ig:Int)))) (ge (Int.toNat (aB .i64 (au .i64 ir 1) (ig:Int))))) (dI (cm (Int.toNat (aB .i64 (au .i64 ir 2) (ig:Int)))) (ge (Int.toNat (aB .i64 (au .i64 ir 2) (ig:Int)))) (cm (Int.toNat (aB .i64 (au .i64 ir 1) (ig:Int)))) (ge (Int.toNat (aB .i64 (au .i64 ir 1) (ig:Int)))))))), (55, AV.int .i64 (aI .i64 4 (au .i64 (Wi (dH (cm (Int.toNat (aB .i64 (au .i64 ir 1) (ig:Int)))) (ge (Int.toNat (aB .i64 (au .i64 ir 1) (ig:Int)))) (cm (Int.toNat ir)) (ge (Int.toNat ir))) (dI (cm (Int.toNat (aB .i64 (au .i64 ir 1) (ig:Int)))) (ge (Int.toNat (aB .i64 (au .i64 ir 1) (ig:Int)))) (cm (Int.toNat ir)) (ge (Int.toNat ir)))) (Wi (dH (cm (Int.toNat (aB .i64 (au .i64 ir 2) (ig:Int)))) (ge (Int.toNat (aB .i64 (au .i64 ir 2) (ig:Int)))) (cm (Int.toNat (aB .i64 (au .i64 ir 1) (ig:Int)))) (ge (Int.toNat (aB .i64 (au .i64 ir 1) (ig:Int))))) (dI (cm (Int.toNat (aB .i64 (au .i64 ir 2) (ig:Int)))) (ge (Int.toNat (aB .i64 (au .i64 ir 2) (ig:Int)))) (cm (Int.toNat (aB .i64 (au .i64 ir 1) (ig:Int)))) (ge (Int.toNat (aB .i64 (au .i64 ir 1) (ig:Int))))))))), (56, AV.bool (ilt (mF (dH (cm (Int.toNat (aB .i64 (au .i64 ir 1) (ig:Int)))) (ge (Int.toNat (aB .i64 (au .i64 ir 1) (ig:Int)))) (cm (Int.toNat ir)) (ge (Int.toNat ir))) (dI (cm (Int.toNat (aB .i64 (au .i64 ir 1) (ig:Int)))) (ge (Int.toNat (aB .i64 (au .i64 ir 1) (ig:Int)))) (cm (Int.toNat ir)) (ge (Int.toNat ir))) (dH (cm (Int.toNat (aB .i64 (au .i64 ir 2) (ig:Int)))) (ge (Int.toNat (aB .i64 (au .i64 ir 2) (ig:Int)))) (cm (Int.toNat (aB .i64 (au .i64 ir 1) (ig:Int)))) (ge (Int.toNat (aB .i64 (au .i64 ir 1) (ig:Int))))) (dI (cm (Int.toNat (aB .i64 (au .i64 ir 2) (ig:Int)))) (ge (Int.toNat (aB .i64 (au .i64 ir 2) (ig:Int)))) (cm (Int.toNat (aB .i64 (au .i64 ir 1) (ig:Int)))) (ge (Int.toNat (aB .i64 (au .i64 ir 1) (ig:Int)))))) (aI .i64 4 (au .i64 (Wi (dH (cm (Int.toNat (aB .i64 (au .i64 ir 1) (ig:Int)))) (ge (Int.toNat (aB .i64 (au .i64 ir 1) (ig:Int)))) (cm (Int.toNat ir)) (ge (Int.toNat ir))) (dI (cm (Int.toNat (aB .i64 (au .i64 ir 1) (ig:Int)))) (ge (Int.toNat (aB .i64 (au .i64 ir 1) (ig:Int)))) (cm (Int.toNat ir)) (ge (Int.toNat ir)))) (Wi (dH (cm (Int.toNat (aB .i64 (au .i64 ir 2) (ig:Int)))) (ge (Int.toNat (aB .i64 (au .i64 ir 2) (ig:Int)))) (cm (Int.toNat (aB .i64 (au .i64 ir 1) (ig:Int)))) (ge (Int.toNat (aB .i64 (au .i64 ir 1) (ig:Int))))) (dI (cm (Int.toNat (aB .i64 (au .i64 ir 2) (ig:Int)))) (ge (Int.toNat (aB .i64 (au .i64 ir 2) (ig:Int)))) (cm (Int.toNat (aB .i64 (au .i64 ir 1) (ig:Int)))) (ge (Int.toNat (aB .i64 (au .i64 ir 1) (ig:Int)))))))))), (57, AV.bool false)], [.one true 32 [AV.int .i64 (cm (Int.toNat ir)), AV.int .i64 (ge (Int.toNat ir))], .one true 32 [AV.int .i64 (cm (Int.toNat (aB .i64 (au .i64 ir 1) (ig:Int)))), AV.int .i64 (ge (Int.toNat (aB .i64 (au .i64 ir 1) (ig:Int))))], .one true 32 [AV.int .i64 (cm (Int.toNat (aB .i64 (au .i64 ir 2) (ig:Int)))), AV.int .i64 (ge (Int.toNat (aB .i64 (au .i64 ir 2) (ig:Int))))]], false, 0⟩
def xJ (ig:Nat) (cm ge:Nat -> Int) (ir o0:Int) : VS := ⟨dD 78 0 [(0, AV.rs none ig [CF.I .i64 cm, CF.I .i64 ge]), (2, AV.bool false), (3, AV.int .i64 (ig:Int)), (4, AV.int .i64 ir), (5, AV.ptr false 0 0 0), (6, AV.ptr false 1 0 0), (7, AV.ptr false 2 0 0), (8, AV.int .i64 o0), (11, AV.int .i64 ir), (12, AV.int .i64 (ig:Int)), (13, AV.bool true), (16, AV.rs none ig [CF.I .i64 cm, CF.I .i64 ge]), (17, AV.int .i64 ir), (18, AV.rp [AV.int .i64 (cm (Int.toNat ir)), AV.int .i64 (ge (Int.toNat ir))] 0), (19, AV.agg [AV.int .i64 (cm (Int.toNat ir)), AV.int .i64 (ge (Int.toNat ir))]), (20, AV.rs none ig [CF.I .i64 cm, CF.I .i64 ge]), (21, AV.int .i64 ir), (22, AV.int .i64 (au .i64 ir 1)), (23, AV.int .i64 (ig:Int)), (24, AV.int .i64 (aB .i64 (au .i64 ir 1) (ig:Int))), (25, AV.rp [AV.int .i64 (cm (Int.toNat (aB .i64 (au .i64 ir 1) (ig:Int)))), AV.int .i64 (ge (Int.toNat (aB .i64 (au .i64 ir 1) (ig:Int))))] 0), (26, AV.agg [AV.int .i64 (cm (Int.toNat (aB .i64 (au .i64 ir 1) (ig:Int)))), AV.int .i64 (ge (Int.toNat (aB .i64 (au .i64 ir 1) (ig:Int))))]), (27, AV.rs none ig [CF.I .i64 cm, CF.I .i64 ge]), (28, AV.int .i64 ir), (29, AV.int .i64 (au .i64 ir 2)), (30, AV.int .i64 (ig:Int)), (31, AV.int .i64 (aB .i64 (au .i64 ir 2) (ig:Int))), (32, AV.rp [AV.int .i64 (cm (Int.toNat (aB .i64 (au .i64 ir 2) (ig:Int)))), AV.int .i64 (ge (Int.toNat (aB .i64 (au .i64 ir 2) (ig:Int))))] 0), (33, AV.agg [AV.int .i64 (cm (Int.toNat (aB .i64 (au .i64 ir 2) (ig:Int)))), AV.int .i64 (ge (Int.toNat (aB .i64 (au .i64 ir 2) (ig:Int))))]), (34, AV.agg [AV.int .i64 (cm (Int.toNat ir)), AV.int .i64 (ge (Int.toNat ir))]), (35, AV.agg [AV.int .i64 (cm (Int.toNat (aB .i64 (au .i64 ir 1) (ig:Int)))), AV.int .i64 (ge (Int.toNat (aB .i64 (au .i64 ir 1) (ig:Int))))]), (36, AV.int .i64 (mF (cm (Int.toNat ir)) (ge (Int.toNat ir)) (cm (Int.toNat (aB .i64 (au .i64 ir 1) (ig:Int)))) (ge (Int.toNat (aB .i64 (au .i64 ir 1) (ig:Int)))))), (37, AV.bool (ile (mF (cm (Int.toNat ir)) (ge (Int.toNat ir)) (cm (Int.toNat (aB .i64 (au .i64 ir 1) (ig:Int)))) (ge (Int.toNat (aB .i64 (au .i64 ir 1) (ig:Int))))) 0)), (38, AV.bool false), (39, AV.agg [AV.int .i64 (cm (Int.toNat (aB .i64 (au .i64 ir 1) (ig:Int)))), AV.int .i64 (ge (Int.toNat (aB .i64 (au .i64 ir 1) (ig:Int))))]), (40, AV.agg [AV.int .i64 (cm (Int.toNat ir)), AV.int .i64 (ge (Int.toNat ir))]), (41, AV.agg [AV.int .i64 (dH (cm (Int.toNat (aB .i64 (au .i64 ir 1) (ig:Int)))) (ge (Int.toNat (aB .i64 (au .i64 ir 1) (ig:Int)))) (cm (Int.toNat ir)) (ge (Int.toNat ir))), AV.int .i64 (dI (cm (Int.toNat (aB .i64 (au .i64 ir 1) (ig:Int)))) (ge (Int.toNat (aB .i64 (au .i64 ir 1) (ig:Int)))) (cm (Int.toNat ir)) (ge (Int.toNat ir)))]), (42, AV.agg [AV.int .i64 (cm (Int.toNat (aB .i64 (au .i64 ir 2) (ig:Int)))), AV.int .i64 (ge (Int.toNat (aB .i64 (au .i64 ir 2) (ig:Int))))]), (43, AV.agg [AV.int .i64 (cm (Int.toNat (aB .i64 (au .i64 ir 1) (ig:Int)))), AV.int .i64 (ge (Int.toNat (aB .i64 (au .i64 ir 1) (ig:Int))))]), (44, AV.agg [AV.int .i64 (dH (cm (Int.toNat (aB .i64 (au .i64 ir 2) (ig:Int)))) (ge (Int.toNat (aB .i64 (au .i64 ir 2) (ig:Int)))) (cm (Int.toNat (aB .i64 (au .i64 ir 1) (ig:Int)))) (ge (Int.toNat (aB .i64 (au .i64 ir 1) (ig:Int))))), AV.int .i64 (dI (cm (Int.toNat (aB .i64 (au .i64 ir 2) (ig:Int)))) (ge (Int.toNat (aB .i64 (au .i64 ir 2) (ig:Int)))) (cm (Int.toNat (aB .i64 (au .i64 ir 1) (ig:Int)))) (ge (Int.toNat (aB .i64 (au .i64 ir 1) (ig:Int)))))]), (45, AV.int .i64 (mF (dH (cm (Int.toNat (aB .i64 (au .i64 ir 1) (ig:Int)))) (ge (Int.toNat (aB .i64 (au .i64 ir 1) (ig:Int)))) (cm (Int.toNat ir)) (ge (Int.toNat ir))) (dI (cm (Int.toNat (aB .i64 (au .i64 ir 1) (ig:Int)))) (ge (Int.toNat (aB .i64 (au .i64 ir 1) (ig:Int)))) (cm (Int.toNat ir)) (ge (Int.toNat ir))) (dH (cm (Int.toNat (aB .i64 (au .i64 ir 2) (ig:Int)))) (ge (Int.toNat (aB .i64 (au .i64 ir 2) (ig:Int)))) (cm (Int.toNat (aB .i64 (au .i64 ir 1) (ig:Int)))) (ge (Int.toNat (aB .i64 (au .i64 ir 1) (ig:Int))))) (dI (cm (Int.toNat (aB .i64 (au .i64 ir 2) (ig:Int)))) (ge (Int.toNat (aB .i64 (au .i64 ir 2) (ig:Int)))) (cm (Int.toNat (aB .i64 (au .i64 ir 1) (ig:Int)))) (ge (Int.toNat (aB .i64 (au .i64 ir 1) (ig:Int))))))), (46, AV.agg [AV.int .i64 (cm (Int.toNat (aB .i64 (au .i64 ir 1) (ig:Int)))), AV.int .i64 (ge (Int.toNat (aB .i64 (au .i64 ir 1) (ig:Int))))]), (47, AV.agg [AV.int .i64 (cm (Int.toNat ir)), AV.int .i64 (ge (Int.toNat ir))]), (48, AV.agg [AV.int .i64 (dH (cm (Int.toNat (aB .i64 (au .i64 ir 1) (ig:Int)))) (ge (Int.toNat (aB .i64 (au .i64 ir 1) (ig:Int)))) (cm (Int.toNat ir)) (ge (Int.toNat ir))), AV.int .i64 (dI (cm (Int.toNat (aB .i64 (au .i64 ir 1) (ig:Int)))) (ge (Int.toNat (aB .i64 (au .i64 ir 1) (ig:Int)))) (cm (Int.toNat ir)) (ge (Int.toNat ir)))]), (49, AV.int .i64 (Wi (dH (cm (Int.toNat (aB .i64 (au .i64 ir 1) (ig:Int)))) (ge (Int.toNat (aB .i64 (au .i64 ir 1) (ig:Int)))) (cm (Int.toNat ir)) (ge (Int.toNat ir))) (dI (cm (Int.toNat (aB .i64 (au .i64 ir 1) (ig:Int)))) (ge (Int.toNat (aB .i64 (au .i64 ir 1) (ig:Int)))) (cm (Int.toNat ir)) (ge (Int.toNat ir))))), (50, AV.agg [AV.int .i64 (cm (Int.toNat (aB .i64 (au .i64 ir 2) (ig:Int)))), AV.int .i64 (ge (Int.toNat (aB .i64 (au .i64 ir 2) (ig:Int))))]), (51, AV.agg [AV.int .i64 (cm (Int.toNat (aB .i64 (au .i64 ir 1) (ig:Int)))), AV.int .i64 (ge (Int.toNat (aB .i64 (au .i64 ir 1) (ig:Int))))]), (52, AV.agg [AV.int .i64 (dH (cm (Int.toNat (aB .i64 (au .i64 ir 2) (ig:Int)))) (ge (Int.toNat (aB .i64 (au .i64 ir 2) (ig:Int)))) (cm (Int.toNat (aB .i64 (au .i64 ir 1) (ig:Int)))) (ge (Int.toNat (aB .i64 (au .i64 ir 1) (ig:Int))))), AV.int .i64 (dI (cm (Int.toNat (aB .i64 (au .i64 ir 2) (ig:Int)))) (ge (Int.toNat (aB .i64 (au .i64 ir 2) (ig:Int)))) (cm (Int.toNat (aB .i64 (au .i64 ir 1) (ig:Int)))) (ge (Int.toNat (aB .i64 (au .i64 ir 1) (ig:Int)))))]), (53, AV.int .i64 (Wi (dH (cm (Int.toNat (aB .i64 (au .i64 ir 2) (ig:Int)))) (ge (Int.toNat (aB .i64 (au .i64 ir 2) (ig:Int)))) (cm (Int.toNat (aB .i64 (au .i64 ir 1) (ig:Int)))) (ge (Int.toNat (aB .i64 (au .i64 ir 1) (ig:Int))))) (dI (cm (Int.toNat (aB .i64 (au .i64 ir 2) (ig:Int)))) (ge (Int.toNat (aB .i64 (au .i64 ir 2) (ig:Int)))) (cm (Int.toNat (aB .i64 (au .i64 ir 1) (ig:Int)))) (ge (Int.toNat (aB .i64 (au .i64 ir 1) (ig:Int))))))), (54, AV.int .i64 (au .i64 (Wi (dH (cm (Int.toNat (aB .i64 (au .i64 ir 1) (ig:Int)))) (ge (Int.toNat (aB .i64 (au .i64 ir 1) (ig:Int)))) (cm (Int.toNat ir)) (ge (Int.toNat ir))) (dI (cm (Int.toNat (aB .i64 (au .i64 ir 1) (ig:Int)))) (ge (Int.toNat (aB .i64 (au .i64 ir 1) (ig:Int)))) (cm (Int.toNat ir)) (ge (Int.toNat ir)))) (Wi (dH (cm (Int.toNat (aB .i64 (au .i64 ir 2) (ig:Int)))) (ge (Int.toNat (aB .i64 (au .i64 ir 2) (ig:Int)))) (cm (Int.toNat (aB .i64 (au .i64 ir 1) (ig:Int)))) (ge (Int.toNat (aB .i64 (au .i64 ir 1) (ig:Int))))) (dI (cm (Int.toNat (aB .i64 (au .i64 ir 2) (ig:Int)))) (ge (Int.toNat (aB .i64 (au .i64 ir 2) (ig:Int)))) (cm (Int.toNat (aB .i64 (au .i64 ir 1) (ig:Int)))) (ge (Int.toNat (aB .i64 (au .i64 ir 1) (ig:Int)))))))), (55, AV.int .i64 (aI .i64 4 (au .i64 (Wi (dH (cm (Int.toNat (aB .i64 (au .i64 ir 1) (ig:Int)))) (ge (Int.toNat (aB .i64 (au .i64 ir 1) (ig:Int)))) (cm (Int.toNat ir)) (ge (Int.toNat ir))) (dI (cm (Int.toNat (aB .i64 (au .i64 ir 1) (ig:Int)))) (ge (Int.toNat (aB .i64 (au .i64 ir 1) (ig:Int)))) (cm (Int.toNat ir)) (ge (Int.toNat ir)))) (Wi (dH (cm (Int.toNat (aB .i64 (au .i64 ir 2) (ig:Int)))) (ge (Int.toNat (aB .i64 (au .i64 ir 2) (ig:Int)))) (cm (Int.toNat (aB .i64 (au .i64 ir 1) (ig:Int)))) (ge (Int.toNat (aB .i64 (au .i64 ir 1) (ig:Int))))) (dI (cm (Int.toNat (aB .i64 (au .i64 ir 2) (ig:Int)))) (ge (Int.toNat (aB .i64 (au .i64 ir 2) (ig:Int)))) (cm (Int.toNat (aB .i64 (au .i64 ir 1) (ig:Int)))) (ge (Int.toNat (aB .i64 (au .i64 ir 1) (ig:Int))))))))), (56, AV.bool (ilt (mF (dH (cm (Int.toNat (aB .i64 (au .i64 ir 1) (ig:Int)))) (ge (Int.toNat (aB .i64 (au .i64 ir 1) (ig:Int)))) (cm (Int.toNat ir)) (ge (Int.toNat ir))) (dI (cm (Int.toNat (aB .i64 (au .i64 ir 1) (ig:Int)))) (ge (Int.toNat (aB .i64 (au .i64 ir 1) (ig:Int)))) (cm (Int.toNat ir)) (ge (Int.toNat ir))) (dH (cm (Int.toNat (aB .i64 (au .i64 ir 2) (ig:Int)))) (ge (Int.toNat (aB .i64 (au .i64 ir 2) (ig:Int)))) (cm (Int.toNat (aB .i64 (au .i64 ir 1) (ig:Int)))) (ge (Int.toNat (aB .i64 (au .i64 ir 1) (ig:Int))))) (dI (cm (Int.toNat (aB .i64 (au .i64 ir 2) (ig:Int)))) (ge (Int.toNat (aB .i64 (au .i64 ir 2) (ig:Int)))) (cm (Int.toNat (aB .i64 (au .i64 ir 1) (ig:Int)))) (ge (Int.toNat (aB .i64 (au .i64 ir 1) (ig:Int)))))) (aI .i64 4 (au .i64 (Wi (dH (cm (Int.toNat (aB .i64 (au .i64 ir 1) (ig:Int)))) (ge (Int.toNat (aB .i64 (au .i64 ir 1) (ig:Int)))) (cm (Int.toNat ir)) (ge (Int.toNat ir))) (dI (cm (Int.toNat (aB .i64 (au .i64 ir 1) (ig:Int)))) (ge (Int.toNat (aB .i64 (au .i64 ir 1) (ig:Int)))) (cm (Int.toNat ir)) (ge (Int.toNat ir)))) (Wi (dH (cm (Int.toNat (aB .i64 (au .i64 ir 2) (ig:Int)))) (ge (Int.toNat (aB .i64 (au .i64 ir 2) (ig:Int)))) (cm (Int.toNat (aB .i64 (au .i64 ir 1) (ig:Int)))) (ge (Int.toNat (aB .i64 (au .i64 ir 1) (ig:Int))))) (dI (cm (Int.toNat (aB .i64 (au .i64 ir 2) (ig:Int)))) (ge (Int.toNat (aB .i64 (au .i64 ir 2) (ig:Int)))) (cm (Int.toNat (aB .i64 (au .i64 ir 1) (ig:Int)))) (ge (Int.toNat (aB .i64 (au .i64 ir 1) (ig:Int)))))))))), (57, AV.bool false)], [.one true 32 [AV.int .i64 (cm (Int.toNat ir)), AV.int .i64 (ge (Int.toNat ir))], .one true 32 [AV.int .i64 (cm (Int.toNat (aB .i64 (au .i64 ir 1) (ig:Int)))), AV.int .i64 (ge (Int.toNat (aB .i64 (au .i64 ir 1) (ig:Int))))], .one true 32 [AV.int .i64 (cm (Int.toNat (aB .i64 (au .i64 ir 2) (ig:Int)))), AV.int .i64 (ge (Int.toNat (aB .i64 (au .i64 ir 2) (ig:Int))))]], false, 0⟩
theorem agS (ig:Nat) (cm ge:Nat -> Int) (ir lq:Int) (Q : Exit -> VS -> Prop) : vwp tab (bC Yi) (fun _ _ _ => False) 0 (gY (dA ((gY (dA (aF Tryz.f179) 0))) 0)) (tH ig cm ge ir lq) (QM [0, 2, 3, 4, 5, 6, 7, 8, 11, 12, 13, 16, 17, 18, 19, 20, 21, 22, 23, 24, 25, 26, 27, 28, 29, 30, 31, 32, 33, 34, 35, 36, 37, 38, 39, 40, 41, 42, 43, 44, 45, 46, 47, 48, 49, 50, 51, 52, 53, 54, 55, 56, 57] [0, 1, 2] 3 Q) = yT ig cm ge ir lq (fun w0 => Q .normal (tH ig cm ge ir w0)) (fun o0 => Q (.exit 2) (tJ ig cm ge ir o0)) (fun o0 => Q .ret (xJ ig cm ge ir o0))  := by kernel_rfl
theorem agT {X : Cx} (hX : Std Tryz.prog tab (bC Yi) X) (b : Code) (hb : b = (gY (dA (aF Tryz.f179) 0))) (ig:Nat) (cm ge:Nat -> Int) (ir:Int) (fu:Nat) (lq:Int) (Q : Exit -> VS -> Prop) (h : mM ig cm ge ir fu lq (fun o0 => Q (.exit 2) (tJ ig cm ge ir o0)) (fun o0 => Q .ret (xJ ig cm ge ir o0))) : TrK X b 0 (tH ig cm ge ir lq) Q := by
  subst hb
  refine iF (V := Int) (fun v => tH ig cm ge ir v) (fun f v => mM ig cm ge ir f v (fun o0 => Q (.exit 2) (tJ ig cm ge ir o0)) (fun o0 => Q .ret (xJ ig cm ge ir o0))) (fun _ h => h) (by kernel_rfl) (fun f v hv => ?_) (fuel := fu) (v0 := (lq)) h
  refine mO (bs := [0, 2, 3, 4, 5, 6, 7, 8, 11, 12, 13, 16, 17, 18, 19, 20, 21, 22, 23, 24, 25, 26, 27, 28, 29, 30, 31, 32, 33, 34, 35, 36, 37, 38, 39, 40, 41, 42, 43, 44, 45, 46, 47, 48, 49, 50, 51, 52, 53, 54, 55, 56, 57]) (ms := [0, 1, 2]) (nm := 3) ?_
  refine dG hX rfl (tr := (fun _ _ _ => False)) (fun _ _ _ h => h.elim) ?_
  refine Eq.mpr (agS ig cm ge ir v _) ?_
  exact UJ ig cm ge ir v (fun w0 h => ⟨w0, rfl, h⟩) (fun _ h => h) (fun _ h => h) hv
def EI (ig:Nat) (cm ge:Nat -> Int) (ir:Int) : VS := ⟨dD 78 0 [(0, AV.rs none ig [CF.I .i64 cm, CF.I .i64 ge]), (2, AV.bool false), (3, AV.int .i64 (ig:Int)), (4, AV.int .i64 ir)], [], false, 0⟩
def xK (ig:Nat) (cm ge:Nat -> Int) (o0:Int) : VS := ⟨dD 78 0 [(0, AV.rs none ig [CF.I .i64 cm, CF.I .i64 ge]), (2, AV.bool false), (3, AV.int .i64 (ig:Int)), (4, AV.int .i64 o0)], [], false, 0⟩
def EJ (ig:Nat) (cm ge:Nat -> Int) (o0:Int) : VS := ⟨dD 78 0 [(0, AV.rs none ig [CF.I .i64 cm, CF.I .i64 ge]), (2, AV.bool false), (3, AV.int .i64 (ig:Int)), (4, AV.int .i64 o0)], [], false, 0⟩
def W9 (ig:Nat) (cm ge:Nat -> Int) (ir:Int) (k:Nat) (st : VS) (Q : Exit -> VS -> Prop) : Prop := match k with
  | 0 => TL [0, 2, 3, 4, 5, 6, 7, 8, 11, 12, 13, 16, 17, 18, 19, 20, 21, 22, 23, 24, 25, 26, 27, 28, 29, 30, 31, 32, 33, 34, 35, 36, 37, 38, 39, 40, 41, 42, 43, 44, 45, 46, 47, 48, 49, 50, 51, 52, 53, 54, 55, 56, 57] [0, 1, 2] 3 (convs st []) (fun st => tH ig cm ge ir (intOf (tAt st 8))) (fun st => mM ig cm ge ir fuel (intOf (tAt st 8)) (fun o0 => Q (.exit 2) (tJ ig cm ge ir o0)) (fun o0 => Q .ret (xJ ig cm ge ir o0)))
  | _ => False
theorem aoM (ig:Nat) (cm ge:Nat -> Int) (ir:Int) (Q : Exit -> VS -> Prop) : vwp tab (bC Yi) (W9 ig cm ge ir) 0 (gY (dA (aF Tryz.f179) 0)) (EI ig cm ge ir) (QM [0, 2, 3, 4] [] 0 Q) = AY ig cm ge ir (fun w0 => Q .normal (EI ig cm ge w0)) (fun o0 => Q (.exit 0) (xK ig cm ge o0)) (fun o0 => Q .ret (EJ ig cm ge o0)) (fun p0 y0 y1 => tH ig cm ge ir p0 = tH ig cm ge ir p0 /\ mM ig cm ge ir fuel p0 y0 y1) := by kernel_rfl
theorem aiR (ig:Nat) (cm ge:Nat -> Int) (ir:Int) {c c' : Int -> Prop} {x0 y0 : Int -> Prop} {x1 y1 : Int -> Prop} (hc : ∀ w0, c w0 -> c' w0) (h0 : ∀ o0, x0 o0 -> y0 o0) (h1 : ∀ o0, x1 o0 -> y1 o0) : AY ig cm ge ir c x0 x1 (mM ig cm ge ir fuel) -> AY ig cm ge ir c' y0 y1 (fun p0 y0 y1 => tH ig cm ge ir p0 = tH ig cm ge ir p0 /\ mM ig cm ge ir fuel p0 y0 y1) := by
  unfold AY
  repeat' first
    | exact hc _
    | exact h0 _
    | exact h1 _
    | refine dU ?_
    | refine cO ?_ ?_
    | refine cZ ?_
    | refine fun h => ⟨rfl, Nv _ _ _ _  (fun _ => ?_) (fun _ => ?_) _ _  h⟩
theorem aiS {X : Cx} (hX : Std Tryz.prog tab (bC Yi) X) (b : Code) (hb : b = (gY (dA (aF Tryz.f179) 0))) (ig:Nat) (cm ge:Nat -> Int) (ir:Int) (j:Nat) (st : VS) (Q : Exit -> VS -> Prop) (h : W9 ig cm ge ir j st Q) : TrK X b j st Q := by
  unfold W9 at h
  split at h
  . exact lF h (fun h' => agT hX b hb ig cm ge ir _ _ Q h')
  . exact h.elim
theorem aoN {X : Cx} (hX : Std Tryz.prog tab (bC Yi) X) (b : Code) (hb : b = aF Tryz.f179) (ig:Nat) (cm ge:Nat -> Int) (fu:Nat) (ir:Int) (Q : Exit -> VS -> Prop) (h : yU ig cm ge fu ir (fun o0 => Q (.exit 0) (xK ig cm ge o0)) (fun o0 => Q .ret (EJ ig cm ge o0))) : TrK X b 0 (EI ig cm ge ir) Q := by
  subst hb
  refine iF (V := Int) (fun v => EI ig cm ge v) (fun f v => yU ig cm ge f v (fun o0 => Q (.exit 0) (xK ig cm ge o0)) (fun o0 => Q .ret (EJ ig cm ge o0))) (fun _ h => h) (by kernel_rfl) (fun f v hv => ?_) (fuel := fu) (v0 := (ir)) h
  refine mO (bs := [0, 2, 3, 4]) (ms := []) (nm := 0) ?_
  refine dG hX rfl (tr := W9 ig cm ge v) (fun j st Q h => aiS hX _ rfl ig cm ge v j st Q h) ?_
  refine Eq.mpr (aoM ig cm ge v _) ?_
  exact aiR ig cm ge v (fun w0 h => ⟨w0, rfl, h⟩) (fun _ h => h) (fun _ h => h) hv
def aiT (ig:Nat) (cm ge:Nat -> Int) (k:Nat) (st : VS) (Q : Exit -> VS -> Prop) : Prop := match k with
  | 0 => TL [0, 2, 3, 4] [] 0 (convs st []) (fun st => EI ig cm ge (intOf (tAt st 4))) (fun st => yU ig cm ge fuel (intOf (tAt st 4)) (fun o0 => Q (.exit 0) (xK ig cm ge o0)) (fun o0 => Q .ret (EJ ig cm ge o0)))
  | _ => False
theorem asl {X : Cx} (hX : Std Tryz.prog tab (bC Yi) X) (b : Code) (hb : b = aF Tryz.f179) (ig:Nat) (cm ge:Nat -> Int) (j:Nat) (st : VS) (Q : Exit -> VS -> Prop) (h : aiT ig cm ge j st Q) : TrK X b j st Q := by
  unfold aiT at h
  split at h
  . exact lF h (fun h' => aoN hX b hb ig cm ge _ _ Q h')
  . exact h.elim
def agU (ig:Nat) (cm ge:Nat -> Int) : List AV := [AV.rs none ig [CF.I .i64 cm, CF.I .i64 ge]]
theorem ax7 (ig:Nat) (cm ge:Nat -> Int) (K : AV -> Prop) : vwp tab (bC Yi) (aiT ig cm ge) 0 (aF Tryz.f179) (entry (agU ig cm ge) 78) (aV tab [.tmp 2] fun v s => K (v.frz s.mem)) = adv ig cm ge (fun r0 => K (AV.bool r0)) (fun p0 y0 y1 => EI ig cm ge p0 = EI ig cm ge p0 /\ yU ig cm ge fuel p0 y0 y1) := by kernel_rfl
theorem asn (ig:Nat) (cm ge:Nat -> Int) {K0 : Bool -> Prop} : adv ig cm ge K0 (yU ig cm ge fuel) -> adv ig cm ge K0 (fun p0 y0 y1 => EI ig cm ge p0 = EI ig cm ge p0 /\ yU ig cm ge fuel p0 y0 y1) := by
  unfold adv
  repeat' first
    | exact id
    | refine dU ?_
    | refine cO ?_ ?_
    | refine cZ ?_
    | refine fun h => ⟨rfl, abU _ _ _  (fun _ => ?_) (fun _ => ?_) _ _  h⟩
def aoO : List AV -> Option (Prop × RT)
  | [AV.rs sq0 sn0 sc0] => cond (fG [KC.I .i64, KC.I .i64] sc0) (some (amu (nOf sn0 sc0) (aA sc0 0) (aA sc0 1), RT.leaf (AV.bool (Nw (nOf sn0 sc0) (aA sc0 0) (aA sc0 1))))) none
  | _ => none
theorem ax8 : aU Tryz.prog 179 (.pure aoO) := by
 intro xs p r h hp E w vs hr hv; unfold aoO at h; split at h
 . rename_i sq0 sn0 sc0
   obtain ⟨hk0, h⟩ := dW h
   obtain ⟨rfl, rfl⟩ := aG h
   have hG := (show aO Tryz.prog Yi from ⟨awc, ax4, ayn, trivial⟩)
   have hv' := ((AV.les.cons (AV.le.rs hk0) AV.les.nil) _ _ hv : VRs E.bare (agU (nOf sn0 sc0) (aA sc0 0) (aA sc0 1)) vs)
   refine eF (c := aF Tryz.f179) (rs := [.tmp 2]) (ys := agU (nOf sn0 sc0) (aA sc0 0) (aA sc0 1)) aX (gB hG) Tryz.func179 rfl (by kernel_rfl) rfl (by decide) (fun X hX hrho => ?_) E w vs hr hv'
   rw [Tryz.ntmps179]
   refine dG hX rfl (tr := aiT (nOf sn0 sc0) (aA sc0 0) (aA sc0 1)) (fun j st Q h => asl hX _ rfl (nOf sn0 sc0) (aA sc0 0) (aA sc0 1) j st Q h) (Eq.mpr (ax7 (nOf sn0 sc0) (aA sc0 0) (aA sc0 1) (fun x => x = _)) ?_)
   exact asn (nOf sn0 sc0) (aA sc0 0) (aA sc0 1) (au6 (nOf sn0 sc0) (aA sc0 0) (aA sc0 1) hp rfl)
 . cases h
def agV : List (Nat × Ag.Spec) := [(177, .pure apv), (178, .pure apO), (179, .pure aoO)]
def EK (cm ge ij iq:Int) (iy:Nat) (iz i5:Nat -> Int) (kc:Int) : VS := ⟨dD 103 0 [(1, AV.ptr false 0 0 0), (2, AV.int .i64 0), (3, AV.int .i64 kc)], [.one true 62 [AV.int .i64 cm, AV.int .i64 ge, AV.int .i64 ij, AV.int .i64 iq, AV.rs none iy [CF.I .i64 iz, CF.I .i64 i5]]], false, 0⟩
def xM (cm ge ij iq:Int) (iy:Nat) (iz i5:Nat -> Int) (o0:Int) : VS := ⟨dD 103 0 [(1, AV.ptr false 0 0 0), (2, AV.int .i64 0), (3, AV.int .i64 o0)], [.one true 62 [AV.int .i64 cm, AV.int .i64 ge, AV.int .i64 ij, AV.int .i64 iq, AV.rs none iy [CF.I .i64 iz, CF.I .i64 i5]]], false, 0⟩
def EL (cm ge ij iq:Int) (iy:Nat) (iz i5:Nat -> Int) (o0 o1:Int) : VS := ⟨dD 103 0 [(1, AV.ptr false 0 0 0), (2, AV.int .i64 o0), (3, AV.int .i64 o1)], [.one true 62 [AV.int .i64 cm, AV.int .i64 ge, AV.int .i64 ij, AV.int .i64 iq, AV.rs none iy [CF.I .i64 iz, CF.I .i64 i5]]], false, 0⟩
theorem aoP (cm ge ij iq:Int) (iy:Nat) (iz i5:Nat -> Int) (kc:Int) (Q : Exit -> VS -> Prop) : vwp tab (bC agV) (fun _ _ _ => False) 0 (gY (dA (aF Tryz.f99) 0)) (EK cm ge ij iq iy iz i5 kc) (QM [1, 2, 3] [0] 1 Q) = I9 cm ge ij iq iy iz i5 kc (fun w0 => Q .normal (EK cm ge ij iq iy iz i5 w0)) (fun o0 => Q (.exit 1) (xM cm ge ij iq iy iz i5 o0)) (fun o0 o1 => Q .ret (EL cm ge ij iq iy iz i5 o0 o1))  := by kernel_rfl
theorem aoQ {X : Cx} (hX : Std Tryz.prog tab (bC agV) X) (b : Code) (hb : b = aF Tryz.f99) (cm ge ij iq:Int) (iy:Nat) (iz i5:Nat -> Int) (fu:Nat) (kc:Int) (Q : Exit -> VS -> Prop) (h : yV cm ge ij iq iy iz i5 fu kc (fun o0 => Q (.exit 1) (xM cm ge ij iq iy iz i5 o0)) (fun o0 o1 => Q .ret (EL cm ge ij iq iy iz i5 o0 o1))) : TrK X b 0 (EK cm ge ij iq iy iz i5 kc) Q := by
  subst hb
  refine iF (V := Int) (fun v => EK cm ge ij iq iy iz i5 v) (fun f v => yV cm ge ij iq iy iz i5 f v (fun o0 => Q (.exit 1) (xM cm ge ij iq iy iz i5 o0)) (fun o0 o1 => Q .ret (EL cm ge ij iq iy iz i5 o0 o1))) (fun _ h => h) (by kernel_rfl) (fun f v hv => ?_) (fuel := fu) (v0 := (kc)) h
  refine mO (bs := [1, 2, 3]) (ms := [0]) (nm := 1) ?_
  refine dG hX rfl (tr := (fun _ _ _ => False)) (fun _ _ _ h => h.elim) ?_
  refine Eq.mpr (aoP cm ge ij iq iy iz i5 v _) ?_
  exact abX cm ge ij iq iy iz i5 v (fun w0 h => ⟨w0, rfl, h⟩) (fun _ h => h) (fun _ _ h => h) hv
def aiU (cm ge ij iq:Int) (iy:Nat) (iz i5:Nat -> Int) (k:Nat) (st : VS) (Q : Exit -> VS -> Prop) : Prop := match k with
  | 0 => TL [1, 2, 3] [0] 1 (convs st []) (fun st => EK cm ge ij iq iy iz i5 (intOf (tAt st 3))) (fun st => yV cm ge ij iq iy iz i5 fuel (intOf (tAt st 3)) (fun o0 => Q (.exit 1) (xM cm ge ij iq iy iz i5 o0)) (fun o0 o1 => Q .ret (EL cm ge ij iq iy iz i5 o0 o1)))
  | _ => False
theorem aso {X : Cx} (hX : Std Tryz.prog tab (bC agV) X) (b : Code) (hb : b = aF Tryz.f99) (cm ge ij iq:Int) (iy:Nat) (iz i5:Nat -> Int) (j:Nat) (st : VS) (Q : Exit -> VS -> Prop) (h : aiU cm ge ij iq iy iz i5 j st Q) : TrK X b j st Q := by
  unfold aiU at h
  split at h
  . exact lF h (fun h' => aoQ hX b hb cm ge ij iq iy iz i5 _ _ Q h')
  . exact h.elim
def agW (cm ge ij iq:Int) (iy:Nat) (iz i5:Nat -> Int) : List AV := [AV.agg [AV.int .i64 cm, AV.int .i64 ge, AV.int .i64 ij, AV.int .i64 iq, AV.rs none iy [CF.I .i64 iz, CF.I .i64 i5]]]
theorem ax9 (cm ge ij iq:Int) (iy:Nat) (iz i5:Nat -> Int) (K : AV -> Prop) : vwp tab (bC agV) (aiU cm ge ij iq iy iz i5) 0 (aF Tryz.f99) (entry (agW cm ge ij iq iy iz i5) 103) (aV tab [.tmp 2] fun v s => K (v.frz s.mem)) = adw cm ge ij iq iy iz i5 (fun r0 => K (AV.int .i64 r0)) (fun p0 y0 y1 => EK cm ge ij iq iy iz i5 p0 = EK cm ge ij iq iy iz i5 p0 /\ yV cm ge ij iq iy iz i5 fuel p0 y0 y1) := by kernel_rfl
theorem asq (cm ge ij iq:Int) (iy:Nat) (iz i5:Nat -> Int) {K0 : Int -> Prop} : adw cm ge ij iq iy iz i5 K0 (yV cm ge ij iq iy iz i5 fuel) -> adw cm ge ij iq iy iz i5 K0 (fun p0 y0 y1 => EK cm ge ij iq iy iz i5 p0 = EK cm ge ij iq iy iz i5 p0 /\ yV cm ge ij iq iy iz i5 fuel p0 y0 y1) := by
  unfold adw
  repeat' first
    | exact id
    | refine dU ?_
    | refine cO ?_ ?_
    | refine cZ ?_
    | refine fun h => ⟨rfl, abY _ _ _ _ _ _ _  (fun _ => ?_) (fun _ _ => ?_) _ _  h⟩
def aiV : List AV -> Option (Prop × RT)
  | [AV.agg [AV.int .i64 cm, AV.int .i64 ge, AV.int .i64 ij, AV.int .i64 iq, AV.rs sq0 sn0 sc0]] => cond (fG [KC.I .i64, KC.I .i64] sc0) (some (afI cm ge ij iq (nOf sn0 sc0) (aA sc0 0) (aA sc0 1), RT.leaf (AV.int .i64 (uN cm ge ij iq (nOf sn0 sc0) (aA sc0 0) (aA sc0 1))))) none
  | _ => none
theorem asr : aU Tryz.prog 99 (.pure aiV) := by
 intro xs p r h hp E w vs hr hv; unfold aiV at h; split at h
 . rename_i cm ge ij iq sq0 sn0 sc0
   obtain ⟨hk0, h⟩ := dW h
   obtain ⟨rfl, rfl⟩ := aG h
   have hG := (show aO Tryz.prog agV from ⟨ayA, ayO, ax8, trivial⟩)
   have hv' := ((AV.les.cons (AV.le.agg (AV.les.cons (AV.le.refl _) (AV.les.cons (AV.le.refl _) (AV.les.cons (AV.le.refl _) (AV.les.cons (AV.le.refl _) (AV.les.cons (AV.le.rs hk0) AV.les.nil)))))) AV.les.nil) _ _ hv : VRs E.bare (agW cm ge ij iq (nOf sn0 sc0) (aA sc0 0) (aA sc0 1)) vs)
   refine eF (c := aF Tryz.f99) (rs := [.tmp 2]) (ys := agW cm ge ij iq (nOf sn0 sc0) (aA sc0 0) (aA sc0 1)) aX (gB hG) Tryz.func99 rfl (by kernel_rfl) rfl (by decide) (fun X hX hrho => ?_) E w vs hr hv'
   rw [Tryz.ntmps99]
   refine dG hX rfl (tr := aiU cm ge ij iq (nOf sn0 sc0) (aA sc0 0) (aA sc0 1)) (fun j st Q h => aso hX _ rfl cm ge ij iq (nOf sn0 sc0) (aA sc0 0) (aA sc0 1) j st Q h) (Eq.mpr (ax9 cm ge ij iq (nOf sn0 sc0) (aA sc0 0) (aA sc0 1) (fun x => x = _)) ?_)
   exact asq cm ge ij iq (nOf sn0 sc0) (aA sc0 0) (aA sc0 1) (au7 cm ge ij iq (nOf sn0 sc0) (aA sc0 0) (aA sc0 1) hp rfl)
 . cases h
def asu : List (Nat × Ag.Spec) := [(99, .pure aiV)]
def agX (cm ge ij iq:Int) (iy:Nat) (iz i5:Nat -> Int) : List AV := [AV.agg [AV.int .i64 cm, AV.int .i64 ge, AV.int .i64 ij, AV.int .i64 iq, AV.rs none iy [CF.I .i64 iz, CF.I .i64 i5]]]
def aku : AV := AV.rs none 0 [CF.I .i64 (fun _ => 0), CF.I .i64 (fun _ => 0)]
theorem aya (cm ge ij iq:Int) (iy:Nat) (iz i5:Nat -> Int) (K : AV -> Prop) : vwp tab (bC asu) (fun _ _ _ => False) 0 (aF Tryz.f44) (entry (agX cm ge ij iq iy iz i5) 38) (aV tab [.tmp 2] fun v s => K (AV.pad aku (v.frz s.mem))) = amv cm ge ij iq iy iz i5 (fun r0 r1 r2 => K (AV.rs none r0 [CF.I .i64 r1, CF.I .i64 r2]))  := by kernel_rfl
def aoR : List AV -> Option (Prop × RT)
  | [AV.agg [AV.int .i64 cm, AV.int .i64 ge, AV.int .i64 ij, AV.int .i64 iq, AV.rs sq0 sn0 sc0]] => cond (fG [KC.I .i64, KC.I .i64] sc0) (some (Zj cm ge ij iq (nOf sn0 sc0) (aA sc0 0) (aA sc0 1), RT.leaf (AV.rs none (lX cm ge ij iq (nOf sn0 sc0) (aA sc0 0) (aA sc0 1)) [CF.I .i64 (bH cm ge ij iq (nOf sn0 sc0) (aA sc0 0) (aA sc0 1)), CF.I .i64 (bI cm ge ij iq (nOf sn0 sc0) (aA sc0 0) (aA sc0 1))]))) none
  | _ => none
theorem ayb : aU Tryz.prog 44 (.pure aoR) := by
 intro xs p r h hp E w vs hr hv; unfold aoR at h; split at h
 . rename_i cm ge ij iq sq0 sn0 sc0
   obtain ⟨hk0, h⟩ := dW h
   obtain ⟨rfl, rfl⟩ := aG h
   have hG := (show aO Tryz.prog asu from ⟨asr, trivial⟩)
   have hv' := ((AV.les.cons (AV.le.agg (AV.les.cons (AV.le.refl _) (AV.les.cons (AV.le.refl _) (AV.les.cons (AV.le.refl _) (AV.les.cons (AV.le.refl _) (AV.les.cons (AV.le.rs hk0) AV.les.nil)))))) AV.les.nil) _ _ hv : VRs E.bare (agX cm ge ij iq (nOf sn0 sc0) (aA sc0 0) (aA sc0 1)) vs)
   refine Ai (sh := aku) (c := aF Tryz.f44) (rs := [.tmp 2]) (ys := agX cm ge ij iq (nOf sn0 sc0) (aA sc0 0) (aA sc0 1)) aX (gB hG) Tryz.func44 rfl (by kernel_rfl) rfl (by decide) (fun X hX hrho => ?_) E w vs hr hv'
   rw [Tryz.ntmps44]
   refine dG hX rfl (tr := fun _ _ _ => False) (fun _ _ _ h => h.elim) (Eq.mpr (aya cm ge ij iq (nOf sn0 sc0) (aA sc0 0) (aA sc0 1) (fun x => x = _)) ?_)
   exact au8 cm ge ij iq (nOf sn0 sc0) (aA sc0 0) (aA sc0 1) hp rfl
 . cases h
def asE : List (Nat × Ag.Spec) := [(180, .pure aii), (181, .pure aoA)]
def akB (ii:Int) (ik:Bool) (im:Int) (ip:Bool) : List AV := [AV.agg [AV.int .i64 ii, AV.bool ik, AV.int .i64 im, AV.bool ip]]
theorem ayp (ii:Int) (ik:Bool) (im:Int) (ip:Bool) (K : AV -> Prop) : vwp tab (bC asE) (fun _ _ _ => False) 0 (aF Tryz.f100) (entry (akB ii ik im ip) 33) (aV tab [.tmp 2] fun v s => K (v.frz s.mem)) = amD ii ik im ip (fun r0 => K (AV.int .i64 r0))  := by kernel_rfl
def ao0 : List AV -> Option (Prop × RT)
  | [AV.agg [AV.int .i64 ii, AV.bool ik, AV.int .i64 im, AV.bool ip]] => some (ahH ii ik im ip, RT.leaf (AV.int .i64 (wz ii ik im ip)))
  | _ => none
theorem ayq : aU Tryz.prog 100 (.pure ao0) := by
 intro xs p r h hp E w vs hr hv; unfold ao0 at h; split at h
 . rename_i ii ik im ip
   obtain ⟨rfl, rfl⟩ := aG h
   exact dF (ys := akB ii ik im ip) (rs := [.tmp 2]) aX (show aO Tryz.prog asE from ⟨aqS, axO, trivial⟩) Tryz.func100 rfl (by kernel_rfl) rfl (by decide) Tryz.ntmps100 (ayp ii ik im ip) (avg ii ik im ip hp rfl) E w vs hr hv
 . cases h
def agQ : List (Nat × Ag.Spec) := [(141, .pure ah3), (180, .pure aii)]
def agR (ii:Int) (ik:Bool) (im:Int) (ip:Bool) (jn:Int) (jo:Bool) (i9:Int) (ja:Bool) : List AV := [AV.agg [AV.int .i64 ii, AV.bool ik, AV.int .i64 im, AV.bool ip], AV.agg [AV.int .i64 jn, AV.bool jo, AV.int .i64 i9, AV.bool ja]]
theorem axT (ii:Int) (ik:Bool) (im:Int) (ip:Bool) (jn:Int) (jo:Bool) (i9:Int) (ja:Bool) (K : AV -> Prop) : vwp tab (bC agQ) (fun _ _ _ => False) 0 (aF Tryz.f183) (entry (agR ii ik im ip jn jo i9 ja) 25) (aV tab [.cell 4 66] fun v s => K (v.frz s.mem)) = ads ii ik im ip jn jo i9 ja (fun r0 r1 r2 r3 => K (AV.agg [AV.int .i64 r0, AV.bool r1, AV.int .i64 r2, AV.bool r3]))  := by kernel_rfl
def aoF : List AV -> Option (Prop × RT)
  | [AV.agg [AV.int .i64 ii, AV.bool ik, AV.int .i64 im, AV.bool ip], AV.agg [AV.int .i64 jn, AV.bool jo, AV.int .i64 i9, AV.bool ja]] => some (Zd ii ik im ip jn jo i9 ja, RT.leaf (AV.agg [AV.int .i64 (I5 ii ik im ip jn jo i9 ja), AV.bool (Nq ii ik im ip jn jo i9 ja), AV.int .i64 (I7 ii ik im ip jn jo i9 ja), AV.bool (Nr ii ik im ip jn jo i9 ja)]))
  | _ => none
theorem axU : aU Tryz.prog 183 (.pure aoF) := by
 intro xs p r h hp E w vs hr hv; unfold aoF at h; split at h
 . rename_i ii ik im ip jn jo i9 ja
   obtain ⟨rfl, rfl⟩ := aG h
   exact dF (ys := agR ii ik im ip jn jo i9 ja) (rs := [.cell 4 66]) aX (show aO Tryz.prog agQ from ⟨aqk, aqS, trivial⟩) Tryz.func183 rfl (by kernel_rfl) rfl (by decide) Tryz.ntmps183 (axT ii ik im ip jn jo i9 ja) (auY ii ik im ip jn jo i9 ja hp rfl) E w vs hr hv
 . cases h
def asZ : List (Nat × Ag.Spec) := [(182, .pure anS), (183, .pure aoF)]
def alG (lg:Int) (lh:Bool) (li:Int) (lj:Bool) (kp:Int) (kq:Bool) (kr:Int) (kt:Bool) (jn:Int) (jo:Bool) (i9:Int) (ja:Bool) : List AV := [AV.agg [AV.int .i64 lg, AV.bool lh, AV.int .i64 li, AV.bool lj, AV.int .i64 kp, AV.bool kq, AV.int .i64 kr, AV.bool kt], AV.agg [AV.int .i64 jn, AV.bool jo, AV.int .i64 i9, AV.bool ja]]
theorem ayP (lg:Int) (lh:Bool) (li:Int) (lj:Bool) (kp:Int) (kq:Bool) (kr:Int) (kt:Bool) (jn:Int) (jo:Bool) (i9:Int) (ja:Bool) (K : AV -> Prop) : vwp tab (bC asZ) (fun _ _ _ => False) 0 (aF Tryz.f103) (entry (alG lg lh li lj kp kq kr kt jn jo i9 ja) 13) (aV tab [.cell 4 66] fun v s => K (v.frz s.mem)) = an8 lg lh li lj kp kq kr kt jn jo i9 ja (fun r0 r1 r2 r3 => K (AV.agg [AV.int .i64 r0, AV.bool r1, AV.int .i64 r2, AV.bool r3]))  := by kernel_rfl
def apT : List AV -> Option (Prop × RT)
  | [AV.agg [AV.int .i64 lg, AV.bool lh, AV.int .i64 li, AV.bool lj, AV.int .i64 kp, AV.bool kq, AV.int .i64 kr, AV.bool kt], AV.agg [AV.int .i64 jn, AV.bool jo, AV.int .i64 i9, AV.bool ja]] => some (aie lg lh li lj kp kq kr kt jn jo i9 ja, RT.leaf (AV.agg [AV.int .i64 (NJ lg lh li lj kp kq kr kt jn jo i9 ja), AV.bool (Jf lg lh li lj kp kq kr kt jn jo i9 ja), AV.int .i64 (NK lg lh li lj kp kq kr kt jn jo i9 ja), AV.bool (Jg lg lh li lj kp kq kr kt jn jo i9 ja)]))
  | _ => none
theorem ayQ : aU Tryz.prog 103 (.pure apT) := by
 intro xs p r h hp E w vs hr hv; unfold apT at h; split at h
 . rename_i lg lh li lj kp kq kr kt jn jo i9 ja
   obtain ⟨rfl, rfl⟩ := aG h
   exact dF (ys := alG lg lh li lj kp kq kr kt jn jo i9 ja) (rs := [.cell 4 66]) aX (show aO Tryz.prog asZ from ⟨awz, axU, trivial⟩) Tryz.func103 rfl (by kernel_rfl) rfl (by decide) Tryz.ntmps103 (ayP lg lh li lj kp kq kr kt jn jo i9 ja) (avz lg lh li lj kp kq kr kt jn jo i9 ja hp rfl) E w vs hr hv
 . cases h
def ash : List (Nat × Ag.Spec) := [(194, .pure ao9), (195, .pure aiZ)]
def akr (cm:Int) (ge:Bool) : List AV := [AV.agg [AV.int .i64 cm, AV.bool ge]]
theorem ax1 (cm:Int) (ge:Bool) (K : AV -> Prop) : vwp tab (bC ash) (fun _ _ _ => False) 0 (aF Tryz.f119) (entry (akr cm ge) 8) (aV tab [.cell 2 68] fun v s => K (v.frz s.mem)) = amq cm ge (fun r0 r1 r2 r3 => K (AV.agg [AV.int .i64 r0, AV.bool r1, AV.int .i64 r2, AV.bool r3]))  := by kernel_rfl
def aoJ : List AV -> Option (Prop × RT)
  | [AV.agg [AV.int .i64 cm, AV.bool ge]] => some (adu cm ge, RT.leaf (AV.agg [AV.int .i64 (lW cm ge), AV.bool (RS cm ge), AV.int .i64 (RX cm ge), AV.bool (RY cm ge)]))
  | _ => none
theorem ax2 : aU Tryz.prog 119 (.pure aoJ) := by
 intro xs p r h hp E w vs hr hv; unfold aoJ at h; split at h
 . rename_i cm ge
   obtain ⟨rfl, rfl⟩ := aG h
   exact dF (ys := akr cm ge) (rs := [.cell 2 68]) aX (show aO Tryz.prog ash from ⟨ayF, asK, trivial⟩) Tryz.func119 rfl (by kernel_rfl) rfl (by decide) Tryz.ntmps119 (ax1 cm ge) (au3 cm ge hp rfl) E w vs hr hv
 . cases h
def as4 : List (Nat × Ag.Spec) := [(176, .pure afD)]
def alQ (cm ge:Int) : List AV := [AV.agg [AV.int .i64 cm, AV.int .i64 ge]]
theorem ayR (cm ge:Int) (K : AV -> Prop) : vwp tab (bC as4) (fun _ _ _ => False) 0 (aF Tryz.f98) (entry (alQ cm ge) 10) (aV tab [.cell 2 66] fun v s => K (v.frz s.mem)) = an9 cm ge (fun r0 r1 r2 r3 => K (AV.agg [AV.int .i64 r0, AV.bool r1, AV.int .i64 r2, AV.bool r3]))  := by kernel_rfl
def aqd : List AV -> Option (Prop × RT)
  | [AV.agg [AV.int .i64 cm, AV.int .i64 ge]] => some (NI cm ge, RT.leaf (AV.agg [AV.int .i64 (dQ cm ge), AV.bool (dR cm ge), AV.int .i64 (Ny cm ge), AV.bool (Nz cm ge)]))
  | _ => none
theorem ayV : aU Tryz.prog 98 (.pure aqd) := by
 intro xs p r h hp E w vs hr hv; unfold aqd at h; split at h
 . rename_i cm ge
   obtain ⟨rfl, rfl⟩ := aG h
   exact dF (ys := alQ cm ge) (rs := [.cell 2 66]) aX (show aO Tryz.prog as4 from ⟨ajU, trivial⟩) Tryz.func98 rfl (by kernel_rfl) rfl (by decide) Tryz.ntmps98 (ayR cm ge) (avJ cm ge hp rfl) E w vs hr hv
 . cases h
def atd : List (Nat × Ag.Spec) := [(261, .pure aoT)]
def EH (ig:Nat) (ii:Nat -> Int) (ik : Nat -> Bool) (im:Nat -> Int) (ip : Nat -> Bool) (kd:Int) (ll : (Nat -> Int)) (lm : (Nat -> Bool)) (ky : (Nat -> Int)) (kz : (Nat -> Bool)) : VS := ⟨dD 36 0 [(2, AV.ptr false 0 0 0), (3, AV.sl (some false) 1 (Int.toNat (ig:Int)) 2), (4, AV.sl (some false) 2 (Int.toNat (ig:Int)) 2), (13, AV.rs none ig [CF.I .i64 ii, CF.B ik, CF.I .i64 im, CF.B ip]), (14, AV.int .i64 (ig:Int)), (15, AV.int .i64 kd)], [.one true 66 [AV.int .i64 0, AV.bool false, AV.int .i64 0, AV.bool false], .many true 64 (Int.toNat (ig:Int)) [CF.I .i64 ll, CF.B lm], .many true 64 (Int.toNat (ig:Int)) [CF.I .i64 ky, CF.B kz]], false, 0⟩
def xB (ig:Nat) (ii:Nat -> Int) (ik : Nat -> Bool) (im:Nat -> Int) (ip : Nat -> Bool) (o0:Int) (o1 : (Nat -> Int)) (o2 : (Nat -> Bool)) (o3 : (Nat -> Int)) (o4 : (Nat -> Bool)) : VS := ⟨dD 36 0 [(2, AV.ptr false 0 0 0), (3, AV.sl (some false) 1 (Int.toNat (ig:Int)) 2), (4, AV.sl (some false) 2 (Int.toNat (ig:Int)) 2), (13, AV.rs none ig [CF.I .i64 ii, CF.B ik, CF.I .i64 im, CF.B ip]), (14, AV.int .i64 (ig:Int)), (15, AV.int .i64 o0)], [.one true 66 [AV.int .i64 0, AV.bool false, AV.int .i64 0, AV.bool false], .many true 64 (Int.toNat (ig:Int)) [CF.I .i64 o1, CF.B o2], .many true 64 (Int.toNat (ig:Int)) [CF.I .i64 o3, CF.B o4]], false, 0⟩
theorem aqN (ig:Nat) (ii:Nat -> Int) (ik : Nat -> Bool) (im:Nat -> Int) (ip : Nat -> Bool) (kd:Int) (ll : (Nat -> Int)) (lm : (Nat -> Bool)) (ky : (Nat -> Int)) (kz : (Nat -> Bool)) (Q : Exit -> VS -> Prop) : vwp tab (bC atd) (fun _ _ _ => False) 0 (gY (dA (aF Tryz.f174) 0)) (EH ig ii ik im ip kd ll lm ky kz) (QM [2, 3, 4, 13, 14, 15] [0, 1, 2] 3 Q) = IU ig ii ik im ip kd ll lm ky kz (fun w0 w1 w2 w3 w4 => Q .normal (EH ig ii ik im ip w0 w1 w2 w3 w4)) (fun o0 o1 o2 o3 o4 => Q (.exit 0) (xB ig ii ik im ip o0 o1 o2 o3 o4))  := by kernel_rfl
theorem aqO {X : Cx} (hX : Std Tryz.prog tab (bC atd) X) (b : Code) (hb : b = aF Tryz.f174) (ig:Nat) (ii:Nat -> Int) (ik : Nat -> Bool) (im:Nat -> Int) (ip : Nat -> Bool) (fu:Nat) (kd:Int) (ll : (Nat -> Int)) (lm : (Nat -> Bool)) (ky : (Nat -> Int)) (kz : (Nat -> Bool)) (Q : Exit -> VS -> Prop) (h : yN ig ii ik im ip fu kd ll lm ky kz (fun o0 o1 o2 o3 o4 => Q (.exit 0) (xB ig ii ik im ip o0 o1 o2 o3 o4))) : TrK X b 0 (EH ig ii ik im ip kd ll lm ky kz) Q := by
  subst hb
  refine iF (V := Int × (Nat -> Int) × (Nat -> Bool) × (Nat -> Int) × (Nat -> Bool)) (fun v => EH ig ii ik im ip v.1 v.2.1 v.2.2.1 v.2.2.2.1 v.2.2.2.2) (fun f v => yN ig ii ik im ip f v.1 v.2.1 v.2.2.1 v.2.2.2.1 v.2.2.2.2 (fun o0 o1 o2 o3 o4 => Q (.exit 0) (xB ig ii ik im ip o0 o1 o2 o3 o4))) (fun _ h => h) (by kernel_rfl) (fun f v hv => ?_) (fuel := fu) (v0 := (kd, ll, lm, ky, kz)) h
  refine mO (bs := [2, 3, 4, 13, 14, 15]) (ms := [0, 1, 2]) (nm := 3) ?_
  refine dG hX rfl (tr := (fun _ _ _ => False)) (fun _ _ _ h => h.elim) ?_
  refine Eq.mpr (aqN ig ii ik im ip v.1 v.2.1 v.2.2.1 v.2.2.2.1 v.2.2.2.2 _) ?_
  exact afe ig ii ik im ip v.1 v.2.1 v.2.2.1 v.2.2.2.1 v.2.2.2.2 (fun w0 w1 w2 w3 w4 h => ⟨(w0, w1, w2, w3, w4), rfl, h⟩) (fun _ _ _ _ _ h => h) hv
def akm (ig:Nat) (ii:Nat -> Int) (ik : Nat -> Bool) (im:Nat -> Int) (ip : Nat -> Bool) (k:Nat) (st : VS) (Q : Exit -> VS -> Prop) : Prop := match k with
  | 0 => TL [2, 3, 4, 13, 14, 15] [0, 1, 2] 3 (convs st []) (fun st => EH ig ii ik im ip (intOf (tAt st 15)) (aA (cAB (fK st 1)) 0) (bP (cAB (fK st 1)) 1) (aA (cAB (fK st 2)) 0) (bP (cAB (fK st 2)) 1)) (fun st => yN ig ii ik im ip fuel (intOf (tAt st 15)) (aA (cAB (fK st 1)) 0) (bP (cAB (fK st 1)) 1) (aA (cAB (fK st 2)) 0) (bP (cAB (fK st 2)) 1) (fun o0 o1 o2 o3 o4 => Q (.exit 0) (xB ig ii ik im ip o0 o1 o2 o3 o4)))
  | _ => False
theorem atg {X : Cx} (hX : Std Tryz.prog tab (bC atd) X) (b : Code) (hb : b = aF Tryz.f174) (ig:Nat) (ii:Nat -> Int) (ik : Nat -> Bool) (im:Nat -> Int) (ip : Nat -> Bool) (j:Nat) (st : VS) (Q : Exit -> VS -> Prop) (h : akm ig ii ik im ip j st Q) : TrK X b j st Q := by
  unfold akm at h
  split at h
  . exact lF h (fun h' => aqO hX b hb ig ii ik im ip _ _ _ _ _ _ Q h')
  . exact h.elim
def akR (ig:Nat) (ii:Nat -> Int) (ik : Nat -> Bool) (im:Nat -> Int) (ip : Nat -> Bool) : List AV := [AV.rs none ig [CF.I .i64 ii, CF.B ik, CF.I .i64 im, CF.B ip]]
theorem ay5 (ig:Nat) (ii:Nat -> Int) (ik : Nat -> Bool) (im:Nat -> Int) (ip : Nat -> Bool) (K : AV -> Prop) : vwp tab (bC atd) (akm ig ii ik im ip) 0 (aF Tryz.f174) (entry (akR ig ii ik im ip) 36) (aV tab [.cell 2 66] fun v s => K (v.frz s.mem)) = am1 ig ii ik im ip (fun r0 r1 r2 r3 => K (AV.agg [AV.int .i64 r0, AV.bool r1, AV.int .i64 r2, AV.bool r3])) (fun p0 p1 p2 p3 p4 y0 => EH ig ii ik im ip p0 p1 p2 p3 p4 = EH ig ii ik im ip p0 p1 p2 p3 p4 /\ yN ig ii ik im ip fuel p0 p1 p2 p3 p4 y0) := by kernel_rfl
theorem atC (ig:Nat) (ii:Nat -> Int) (ik : Nat -> Bool) (im:Nat -> Int) (ip : Nat -> Bool) {K0 : Int -> Bool -> Int -> Bool -> Prop} : am1 ig ii ik im ip K0 (yN ig ii ik im ip fuel) -> am1 ig ii ik im ip K0 (fun p0 p1 p2 p3 p4 y0 => EH ig ii ik im ip p0 p1 p2 p3 p4 = EH ig ii ik im ip p0 p1 p2 p3 p4 /\ yN ig ii ik im ip fuel p0 p1 p2 p3 p4 y0) := by
  unfold am1
  repeat' first
    | exact id
    | refine dU ?_
    | refine cO ?_ ?_
    | refine cZ ?_
    | refine fun h => ⟨rfl, aff _ _ _ _ _  (fun _ _ _ _ _ => ?_) _ _ _ _ _ _  h⟩
def aps : List AV -> Option (Prop × RT)
  | [AV.rs sq0 sn0 sc0] => cond (fG [KC.I .i64, KC.B, KC.I .i64, KC.B] sc0) (some (X8 (nOf sn0 sc0) (aA sc0 0) (bP sc0 1) (aA sc0 2) (bP sc0 3), RT.leaf (AV.agg [AV.int .i64 (qV (nOf sn0 sc0) (aA sc0 0) (bP sc0 1) (aA sc0 2) (bP sc0 3)), AV.bool (qW (nOf sn0 sc0) (aA sc0 0) (bP sc0 1) (aA sc0 2) (bP sc0 3)), AV.int .i64 (Wj (nOf sn0 sc0) (aA sc0 0) (bP sc0 1) (aA sc0 2) (bP sc0 3)), AV.bool (Wn (nOf sn0 sc0) (aA sc0 0) (bP sc0 1) (aA sc0 2) (bP sc0 3))]))) none
  | _ => none
theorem ay6 : aU Tryz.prog 174 (.pure aps) := by
 intro xs p r h hp E w vs hr hv; unfold aps at h; split at h
 . rename_i sq0 sn0 sc0
   obtain ⟨hk0, h⟩ := dW h
   obtain ⟨rfl, rfl⟩ := aG h
   have hG := (show aO Tryz.prog atd from ⟨ayf, trivial⟩)
   have hv' := ((AV.les.cons (AV.le.rs hk0) AV.les.nil) _ _ hv : VRs E.bare (akR (nOf sn0 sc0) (aA sc0 0) (bP sc0 1) (aA sc0 2) (bP sc0 3)) vs)
   refine eF (c := aF Tryz.f174) (rs := [.cell 2 66]) (ys := akR (nOf sn0 sc0) (aA sc0 0) (bP sc0 1) (aA sc0 2) (bP sc0 3)) aX (gB hG) Tryz.func174 rfl (by kernel_rfl) rfl (by decide) (fun X hX hrho => ?_) E w vs hr hv'
   rw [Tryz.ntmps174]
   refine dG hX rfl (tr := akm (nOf sn0 sc0) (aA sc0 0) (bP sc0 1) (aA sc0 2) (bP sc0 3)) (fun j st Q h => atg hX _ rfl (nOf sn0 sc0) (aA sc0 0) (bP sc0 1) (aA sc0 2) (bP sc0 3) j st Q h) (Eq.mpr (ay5 (nOf sn0 sc0) (aA sc0 0) (bP sc0 1) (aA sc0 2) (bP sc0 3) (fun x => x = _)) ?_)
   exact atC (nOf sn0 sc0) (aA sc0 0) (bP sc0 1) (aA sc0 2) (bP sc0 3) (avG (nOf sn0 sc0) (aA sc0 0) (bP sc0 1) (aA sc0 2) (bP sc0 3) hp rfl)
 . cases h
def at6 : List (Nat × Ag.Spec) := [(271, .pure aou)]
def alT (ii:Int) (ik:Bool) (im:Int) (ip:Bool) : List AV := [AV.agg [AV.int .i64 ii, AV.bool ik, AV.int .i64 im, AV.bool ip]]
theorem ayW (ii:Int) (ik:Bool) (im:Int) (ip:Bool) (K : AV -> Prop) : vwp tab (bC at6) (fun _ _ _ => False) 0 (aF Tryz.f199) (entry (alT ii ik im ip) 8) (aV tab [.cell 2 64] fun v s => K (v.frz s.mem)) = aob ii ik im ip (fun r0 r1 => K (AV.agg [AV.int .i64 r0, AV.bool r1]))  := by kernel_rfl
def akz : List AV -> Option (Prop × RT)
  | [AV.agg [AV.int .i64 ii, AV.bool ik, AV.int .i64 im, AV.bool ip]] => some (Zc ii ik im ip, RT.leaf (AV.agg [AV.int .i64 (dS ii ik im ip), AV.bool (dV ii ik im ip)]))
  | _ => none
theorem aul : aU Tryz.prog 199 (.pure akz) := by
 intro xs p r h hp E w vs hr hv; unfold akz at h; split at h
 . rename_i ii ik im ip
   obtain ⟨rfl, rfl⟩ := aG h
   exact dF (ys := alT ii ik im ip) (rs := [.cell 2 64]) aX (show aO Tryz.prog at6 from ⟨axB, trivial⟩) Tryz.func199 rfl (by kernel_rfl) rfl (by decide) Tryz.ntmps199 (ayW ii ik im ip) (awf ii ik im ip hp rfl) E w vs hr hv
 . cases h
def aqF : List (Nat × Ag.Spec) := [(217, .pure ZW)]
def ajG (ii:Int) (ik:Bool) (im:Int) (ip:Bool) : List AV := [AV.agg [AV.int .i64 ii, AV.bool ik, AV.int .i64 im, AV.bool ip]]
theorem awK (ii:Int) (ik:Bool) (im:Int) (ip:Bool) (K : AV -> Prop) : vwp tab (bC aqF) (fun _ _ _ => False) 0 (aF Tryz.f253) (entry (ajG ii ik im ip) 13) (aV tab [.tmp 2] fun v s => K (v.frz s.mem)) = alA ii ik im ip (fun r0 => K (AV.bool r0))  := by kernel_rfl
def aia : List AV -> Option (Prop × RT)
  | [AV.agg [AV.int .i64 ii, AV.bool ik, AV.int .i64 im, AV.bool ip]] => some (ae4 ii ik im ip, RT.leaf (AV.bool (CU ii ik im ip)))
  | _ => none
theorem aqG : aU Tryz.prog 253 (.pure aia) := by
 intro xs p r h hp E w vs hr hv; unfold aia at h; split at h
 . rename_i ii ik im ip
   obtain ⟨rfl, rfl⟩ := aG h
   exact dF (ys := ajG ii ik im ip) (rs := [.tmp 2]) aX (show aO Tryz.prog aqF from ⟨agn, trivial⟩) Tryz.func253 rfl (by kernel_rfl) rfl (by decide) Tryz.ntmps253 (awK ii ik im ip) (atX ii ik im ip hp rfl) E w vs hr hv
 . cases h
def ag0 : List (Nat × Ag.Spec) := [(253, .pure aia)]
def EN (ig:Nat) (ii:Nat -> Int) (ik : Nat -> Bool) (im:Nat -> Int) (ip : Nat -> Bool) (ko:Int) : VS := ⟨dD 19 0 [(0, AV.rs none ig [CF.I .i64 ii, CF.B ik, CF.I .i64 im, CF.B ip]), (1, AV.fn 253 []), (4, AV.int .i64 0), (7, AV.int .i64 (ig:Int)), (8, AV.int .i64 ko)], [], false, 0⟩
def xP (ig:Nat) (ii:Nat -> Int) (ik : Nat -> Bool) (im:Nat -> Int) (ip : Nat -> Bool) (o0:Int) : VS := ⟨dD 19 0 [(0, AV.rs none ig [CF.I .i64 ii, CF.B ik, CF.I .i64 im, CF.B ip]), (1, AV.fn 253 []), (4, AV.int .i64 0), (7, AV.int .i64 (ig:Int)), (8, AV.int .i64 o0)], [], false, 0⟩
def EO (ig:Nat) (ii:Nat -> Int) (ik : Nat -> Bool) (im:Nat -> Int) (ip : Nat -> Bool) (o0 o1:Int) : VS := ⟨dD 19 0 [(0, AV.rs none ig [CF.I .i64 ii, CF.B ik, CF.I .i64 im, CF.B ip]), (1, AV.fn 253 []), (4, AV.int .i64 o0), (7, AV.int .i64 (ig:Int)), (8, AV.int .i64 o1)], [], false, 0⟩
theorem ao1 (ig:Nat) (ii:Nat -> Int) (ik : Nat -> Bool) (im:Nat -> Int) (ip : Nat -> Bool) (ko:Int) (Q : Exit -> VS -> Prop) : vwp tab (bC ag0) (fun _ _ _ => False) 0 (gY (dA (aF Tryz.f288) 0)) (EN ig ii ik im ip ko) (QM [0, 1, 4, 7, 8] [] 0 Q) = Jd ig ii ik im ip ko (fun w0 => Q .normal (EN ig ii ik im ip w0)) (fun o0 => Q (.exit 0) (xP ig ii ik im ip o0)) (fun o0 o1 => Q .ret (EO ig ii ik im ip o0 o1))  := by kernel_rfl
theorem ao2 {X : Cx} (hX : Std Tryz.prog tab (bC ag0) X) (b : Code) (hb : b = aF Tryz.f288) (ig:Nat) (ii:Nat -> Int) (ik : Nat -> Bool) (im:Nat -> Int) (ip : Nat -> Bool) (fu:Nat) (ko:Int) (Q : Exit -> VS -> Prop) (h : yY ig ii ik im ip fu ko (fun o0 => Q (.exit 0) (xP ig ii ik im ip o0)) (fun o0 o1 => Q .ret (EO ig ii ik im ip o0 o1))) : TrK X b 0 (EN ig ii ik im ip ko) Q := by
  subst hb
  refine iF (V := Int) (fun v => EN ig ii ik im ip v) (fun f v => yY ig ii ik im ip f v (fun o0 => Q (.exit 0) (xP ig ii ik im ip o0)) (fun o0 o1 => Q .ret (EO ig ii ik im ip o0 o1))) (fun _ h => h) (by kernel_rfl) (fun f v hv => ?_) (fuel := fu) (v0 := (ko)) h
  refine mO (bs := [0, 1, 4, 7, 8]) (ms := []) (nm := 0) ?_
  refine dG hX rfl (tr := (fun _ _ _ => False)) (fun _ _ _ h => h.elim) ?_
  refine Eq.mpr (ao1 ig ii ik im ip v _) ?_
  exact ab6 ig ii ik im ip v (fun w0 h => ⟨w0, rfl, h⟩) (fun _ h => h) (fun _ _ h => h) hv
def aiY (ig:Nat) (ii:Nat -> Int) (ik : Nat -> Bool) (im:Nat -> Int) (ip : Nat -> Bool) (k:Nat) (st : VS) (Q : Exit -> VS -> Prop) : Prop := match k with
  | 0 => TL [0, 1, 4, 7, 8] [] 0 (convs st []) (fun st => EN ig ii ik im ip (intOf (tAt st 8))) (fun st => yY ig ii ik im ip fuel (intOf (tAt st 8)) (fun o0 => Q (.exit 0) (xP ig ii ik im ip o0)) (fun o0 o1 => Q .ret (EO ig ii ik im ip o0 o1)))
  | _ => False
theorem asF {X : Cx} (hX : Std Tryz.prog tab (bC ag0) X) (b : Code) (hb : b = aF Tryz.f288) (ig:Nat) (ii:Nat -> Int) (ik : Nat -> Bool) (im:Nat -> Int) (ip : Nat -> Bool) (j:Nat) (st : VS) (Q : Exit -> VS -> Prop) (h : aiY ig ii ik im ip j st Q) : TrK X b j st Q := by
  unfold aiY at h
  split at h
  . exact lF h (fun h' => ao2 hX b hb ig ii ik im ip _ _ Q h')
  . exact h.elim
def ag1 (ig:Nat) (ii:Nat -> Int) (ik : Nat -> Bool) (im:Nat -> Int) (ip : Nat -> Bool) : List AV := [AV.rs none ig [CF.I .i64 ii, CF.B ik, CF.I .i64 im, CF.B ip], AV.fn 253 []]
theorem ayr (ig:Nat) (ii:Nat -> Int) (ik : Nat -> Bool) (im:Nat -> Int) (ip : Nat -> Bool) (K : AV -> Prop) : vwp tab (bC ag0) (aiY ig ii ik im ip) 0 (aF Tryz.f288) (entry (ag1 ig ii ik im ip) 19) (aV tab [.tmp 4] fun v s => K (v.frz s.mem)) = ady ig ii ik im ip (fun r0 => K (AV.int .i64 r0)) (fun p0 y0 y1 => EN ig ii ik im ip p0 = EN ig ii ik im ip p0 /\ yY ig ii ik im ip fuel p0 y0 y1) := by kernel_rfl
theorem asG (ig:Nat) (ii:Nat -> Int) (ik : Nat -> Bool) (im:Nat -> Int) (ip : Nat -> Bool) {K0 : Int -> Prop} : ady ig ii ik im ip K0 (yY ig ii ik im ip fuel) -> ady ig ii ik im ip K0 (fun p0 y0 y1 => EN ig ii ik im ip p0 = EN ig ii ik im ip p0 /\ yY ig ii ik im ip fuel p0 y0 y1) := by
  unfold ady
  repeat' first
    | exact id
    | refine dU ?_
    | refine cO ?_ ?_
    | refine cZ ?_
    | refine fun h => ⟨rfl, ab7 _ _ _ _ _  (fun _ => ?_) (fun _ _ => ?_) _ _  h⟩
def ao3 : List AV -> Option (Prop × RT)
  | [AV.rs sq0 sn0 sc0, AV.fn 253 []] => cond (fG [KC.I .i64, KC.B, KC.I .i64, KC.B] sc0) (some (ahI (nOf sn0 sc0) (aA sc0 0) (bP sc0 1) (aA sc0 2) (bP sc0 3), RT.leaf (AV.int .i64 (Sj (nOf sn0 sc0) (aA sc0 0) (bP sc0 1) (aA sc0 2) (bP sc0 3))))) none
  | _ => none
theorem ays : aU Tryz.prog 288 (.pure ao3) := by
 intro xs p r h hp E w vs hr hv; unfold ao3 at h; split at h
 . rename_i sq0 sn0 sc0
   obtain ⟨hk0, h⟩ := dW h
   obtain ⟨rfl, rfl⟩ := aG h
   have hG := (show aO Tryz.prog ag0 from ⟨aqG, trivial⟩)
   have hv' := ((AV.les.cons (AV.le.rs hk0) (AV.les.cons (AV.le.refl _) AV.les.nil)) _ _ hv : VRs E.bare (ag1 (nOf sn0 sc0) (aA sc0 0) (bP sc0 1) (aA sc0 2) (bP sc0 3)) vs)
   refine eF (c := aF Tryz.f288) (rs := [.tmp 4]) (ys := ag1 (nOf sn0 sc0) (aA sc0 0) (bP sc0 1) (aA sc0 2) (bP sc0 3)) aX (gB hG) Tryz.func288 rfl (by kernel_rfl) rfl (by decide) (fun X hX hrho => ?_) E w vs hr hv'
   rw [Tryz.ntmps288]
   refine dG hX rfl (tr := aiY (nOf sn0 sc0) (aA sc0 0) (bP sc0 1) (aA sc0 2) (bP sc0 3)) (fun j st Q h => asF hX _ rfl (nOf sn0 sc0) (aA sc0 0) (bP sc0 1) (aA sc0 2) (bP sc0 3) j st Q h) (Eq.mpr (ayr (nOf sn0 sc0) (aA sc0 0) (bP sc0 1) (aA sc0 2) (bP sc0 3) (fun x => x = _)) ?_)
   exact asG (nOf sn0 sc0) (aA sc0 0) (bP sc0 1) (aA sc0 2) (bP sc0 3) (avh (nOf sn0 sc0) (aA sc0 0) (bP sc0 1) (aA sc0 2) (bP sc0 3) hp rfl)
 . cases h
def asH : List (Nat × Ag.Spec) := [(288, .pure ao3)]
def ag2 (ig:Nat) (ii:Nat -> Int) (ik : Nat -> Bool) (im:Nat -> Int) (ip : Nat -> Bool) : List AV := [AV.rs none ig [CF.I .i64 ii, CF.B ik, CF.I .i64 im, CF.B ip], AV.fn 253 []]
theorem ayt (ig:Nat) (ii:Nat -> Int) (ik : Nat -> Bool) (im:Nat -> Int) (ip : Nat -> Bool) (K : AV -> Prop) : vwp tab (bC asH) (fun _ _ _ => False) 0 (aF Tryz.f252) (entry (ag2 ig ii ik im ip) 9) (aV tab [.tmp 4] fun v s => K (v.frz s.mem)) = amE ig ii ik im ip (fun r0 => K (AV.bool r0))  := by kernel_rfl
def ao4 : List AV -> Option (Prop × RT)
  | [AV.rs sq0 sn0 sc0, AV.fn 253 []] => cond (fG [KC.I .i64, KC.B, KC.I .i64, KC.B] sc0) (some (afN (nOf sn0 sc0) (aA sc0 0) (bP sc0 1) (aA sc0 2) (bP sc0 3), RT.leaf (AV.bool (Sl (nOf sn0 sc0) (aA sc0 0) (bP sc0 1) (aA sc0 2) (bP sc0 3))))) none
  | _ => none
theorem ayu : aU Tryz.prog 252 (.pure ao4) := by
 intro xs p r h hp E w vs hr hv; unfold ao4 at h; split at h
 . rename_i sq0 sn0 sc0
   obtain ⟨hk0, h⟩ := dW h
   obtain ⟨rfl, rfl⟩ := aG h
   exact dF (ys := ag2 (nOf sn0 sc0) (aA sc0 0) (bP sc0 1) (aA sc0 2) (bP sc0 3)) (rs := [.tmp 4]) aX (show aO Tryz.prog asH from ⟨ays, trivial⟩) Tryz.func252 rfl (by kernel_rfl) rfl (by decide) Tryz.ntmps252 (ayt (nOf sn0 sc0) (aA sc0 0) (bP sc0 1) (aA sc0 2) (bP sc0 3)) (avi (nOf sn0 sc0) (aA sc0 0) (bP sc0 1) (aA sc0 2) (bP sc0 3) hp rfl) E w vs hr ((AV.les.cons (AV.le.rs hk0) (AV.les.cons (AV.le.refl _) AV.les.nil)) _ _ hv : VRs E.bare (ag2 (nOf sn0 sc0) (aA sc0 0) (bP sc0 1) (aA sc0 2) (bP sc0 3)) vs)
 . cases h
def agz : List (Nat × Ag.Spec) := [(252, .pure ao4)]
def agA (ig:Nat) (ii:Nat -> Int) (ik : Nat -> Bool) (im:Nat -> Int) (ip : Nat -> Bool) : List AV := [AV.rs none ig [CF.I .i64 ii, CF.B ik, CF.I .i64 im, CF.B ip]]
theorem aw4 (ig:Nat) (ii:Nat -> Int) (ik : Nat -> Bool) (im:Nat -> Int) (ip : Nat -> Bool) (K : AV -> Prop) : vwp tab (bC agz) (fun _ _ _ => False) 0 (aF Tryz.f168) (entry (agA ig ii ik im ip) 5) (aV tab [.tmp 2] fun v s => K (v.frz s.mem)) = ada ig ii ik im ip (fun r0 => K (AV.bool r0))  := by kernel_rfl
def aod : List AV -> Option (Prop × RT)
  | [AV.rs sq0 sn0 sc0] => cond (fG [KC.I .i64, KC.B, KC.I .i64, KC.B] sc0) (some (adb (nOf sn0 sc0) (aA sc0 0) (bP sc0 1) (aA sc0 2) (bP sc0 3), RT.leaf (AV.bool (vV (nOf sn0 sc0) (aA sc0 0) (bP sc0 1) (aA sc0 2) (bP sc0 3))))) none
  | _ => none
theorem aw5 : aU Tryz.prog 168 (.pure aod) := by
 intro xs p r h hp E w vs hr hv; unfold aod at h; split at h
 . rename_i sq0 sn0 sc0
   obtain ⟨hk0, h⟩ := dW h
   obtain ⟨rfl, rfl⟩ := aG h
   exact dF (ys := agA (nOf sn0 sc0) (aA sc0 0) (bP sc0 1) (aA sc0 2) (bP sc0 3)) (rs := [.tmp 2]) aX (show aO Tryz.prog agz from ⟨ayu, trivial⟩) Tryz.func168 rfl (by kernel_rfl) rfl (by decide) Tryz.ntmps168 (aw4 (nOf sn0 sc0) (aA sc0 0) (bP sc0 1) (aA sc0 2) (bP sc0 3)) (auj (nOf sn0 sc0) (aA sc0 0) (bP sc0 1) (aA sc0 2) (bP sc0 3) hp rfl) E w vs hr ((AV.les.cons (AV.le.rs hk0) AV.les.nil) _ _ hv : VRs E.bare (agA (nOf sn0 sc0) (aA sc0 0) (bP sc0 1) (aA sc0 2) (bP sc0 3)) vs)
 . cases h
def aq0 : List (Nat × Ag.Spec) := [(168, .pure aod), (199, .pure akz), (206, .pure ah4)]
def ajS (ii:Int) (ik:Bool) (im:Int) (ip:Bool) : List AV := [AV.agg [AV.int .i64 ii, AV.bool ik, AV.int .i64 im, AV.bool ip]]
theorem awY (ii:Int) (ik:Bool) (im:Int) (ip:Bool) (K : AV -> Prop) : vwp tab (bC aq0) (fun _ _ _ => False) 0 (aF Tryz.f203) (entry (ajS ii ik im ip) 56) (aV tab [.cell 2 66, .tmp 3] fun v s => K (v.frz s.mem)) = alN ii ik im ip (fun r0 r1 r2 r3 r4 => K (AV.tup [AV.agg [AV.int .i64 r0, AV.bool r1, AV.int .i64 r2, AV.bool r3], AV.bool r4]))  := by kernel_rfl
def an1 : List AV -> Option (Prop × RT)
  | [AV.agg [AV.int .i64 ii, AV.bool ik, AV.int .i64 im, AV.bool ip]] => some (Fg ii ik im ip, RT.leaf (AV.tup [AV.agg [AV.int .i64 (iE ii ik im ip), AV.bool (iR ii ik im ip), AV.int .i64 (CO ii ik im ip), AV.bool (CP ii ik im ip)], AV.bool (Sm ii ik im ip)]))
  | _ => none
theorem awZ : aU Tryz.prog 203 (.pure an1) := by
 intro xs p r h hp E w vs hr hv; unfold an1 at h; split at h
 . rename_i ii ik im ip
   obtain ⟨rfl, rfl⟩ := aG h
   exact dF (ys := ajS ii ik im ip) (rs := [.cell 2 66, .tmp 3]) aX (show aO Tryz.prog aq0 from ⟨aw5, aul, aqn, trivial⟩) Tryz.func203 rfl (by kernel_rfl) rfl (by decide) Tryz.ntmps203 (awY ii ik im ip) (auf ii ik im ip hp rfl) E w vs hr hv
 . cases h
def asv : List (Nat × Ag.Spec) := [(173, .pure anJ)]
def akv (ii:Int) (ik:Bool) (im:Int) (ip:Bool) (ic:Int) (ie:Bool) : List AV := [AV.agg [AV.int .i64 ii, AV.bool ik, AV.int .i64 im, AV.bool ip], AV.agg [AV.int .i64 ic, AV.bool ie]]
theorem ayc (ii:Int) (ik:Bool) (im:Int) (ip:Bool) (ic:Int) (ie:Bool) (K : AV -> Prop) : vwp tab (bC asv) (fun _ _ _ => False) 0 (aF Tryz.f207) (entry (akv ii ik im ip ic ie) 14) (aV tab [.cell 4 66] fun v s => K (v.frz s.mem)) = amw ii ik im ip ic ie (fun r0 r1 r2 r3 => K (AV.agg [AV.int .i64 r0, AV.bool r1, AV.int .i64 r2, AV.bool r3]))  := by kernel_rfl
def aoS : List AV -> Option (Prop × RT)
  | [AV.agg [AV.int .i64 ii, AV.bool ik, AV.int .i64 im, AV.bool ip], AV.agg [AV.int .i64 ic, AV.bool ie]] => some (afJ ii ik im ip ic ie, RT.leaf (AV.agg [AV.int .i64 (Ja ii ik im ip ic ie), AV.bool (Sv ii ik im ip ic ie), AV.int .i64 (Sz ii ik im ip ic ie), AV.bool (SA ii ik im ip ic ie)]))
  | _ => none
theorem ayd : aU Tryz.prog 207 (.pure aoS) := by
 intro xs p r h hp E w vs hr hv; unfold aoS at h; split at h
 . rename_i ii ik im ip ic ie
   obtain ⟨rfl, rfl⟩ := aG h
   exact dF (ys := akv ii ik im ip ic ie) (rs := [.cell 4 66]) aX (show aO Tryz.prog asv from ⟨awt, trivial⟩) Tryz.func207 rfl (by kernel_rfl) rfl (by decide) Tryz.ntmps207 (ayc ii ik im ip ic ie) (au9 ii ik im ip ic ie hp rfl) E w vs hr hv
 . cases h
def as9 : List (Nat × Ag.Spec) := [(169, .pure aiO)]
def akP (ii:Int) (ik:Bool) (im:Int) (ip:Bool) (jn:Int) (jo:Bool) (i9:Int) (ja:Bool) : List AV := [AV.agg [AV.int .i64 ii, AV.bool ik, AV.int .i64 im, AV.bool ip], AV.agg [AV.int .i64 jn, AV.bool jo, AV.int .i64 i9, AV.bool ja]]
theorem ay3 (ii:Int) (ik:Bool) (im:Int) (ip:Bool) (jn:Int) (jo:Bool) (i9:Int) (ja:Bool) (K : AV -> Prop) : vwp tab (bC as9) (fun _ _ _ => False) 0 (aF Tryz.f216) (entry (akP ii ik im ip jn jo i9 ja) 14) (aV tab [.cell 4 64] fun v s => K (v.frz s.mem)) = amZ ii ik im ip jn jo i9 ja (fun r0 r1 => K (AV.agg [AV.int .i64 r0, AV.bool r1]))  := by kernel_rfl
def ai8 : List AV -> Option (Prop × RT)
  | [AV.agg [AV.int .i64 ii, AV.bool ik, AV.int .i64 im, AV.bool ip], AV.agg [AV.int .i64 jn, AV.bool jo, AV.int .i64 i9, AV.bool ja]] => some (Zn ii ik im ip jn jo i9 ja, RT.leaf (AV.agg [AV.int .i64 (Gs ii ik im ip jn jo i9 ja), AV.bool (SH ii ik im ip jn jo i9 ja)]))
  | _ => none
theorem ata : aU Tryz.prog 216 (.pure ai8) := by
 intro xs p r h hp E w vs hr hv; unfold ai8 at h; split at h
 . rename_i ii ik im ip jn jo i9 ja
   obtain ⟨rfl, rfl⟩ := aG h
   exact dF (ys := akP ii ik im ip jn jo i9 ja) (rs := [.cell 4 64]) aX (show aO Tryz.prog as9 from ⟨ar4, trivial⟩) Tryz.func216 rfl (by kernel_rfl) rfl (by decide) Tryz.ntmps216 (ay3 ii ik im ip jn jo i9 ja) (avE ii ik im ip jn jo i9 ja hp rfl) E w vs hr hv
 . cases h
def ar5 : List (Nat × Ag.Spec) := [(169, .pure aiO), (217, .pure ZW)]
def akk (ii:Int) (ik:Bool) (im:Int) (ip:Bool) (jn:Int) (jo:Bool) (i9:Int) (ja:Bool) : List AV := [AV.agg [AV.int .i64 ii, AV.bool ik, AV.int .i64 im, AV.bool ip], AV.agg [AV.int .i64 jn, AV.bool jo, AV.int .i64 i9, AV.bool ja]]
theorem axM (ii:Int) (ik:Bool) (im:Int) (ip:Bool) (jn:Int) (jo:Bool) (i9:Int) (ja:Bool) (K : AV -> Prop) : vwp tab (bC ar5) (fun _ _ _ => False) 0 (aF Tryz.f331) (entry (akk ii ik im ip jn jo i9 ja) 15) (aV tab [.cell 4 64] fun v s => K (v.frz s.mem)) = amh ii ik im ip jn jo i9 ja (fun r0 r1 => K (AV.agg [AV.int .i64 r0, AV.bool r1]))  := by kernel_rfl
def aiP : List AV -> Option (Prop × RT)
  | [AV.agg [AV.int .i64 ii, AV.bool ik, AV.int .i64 im, AV.bool ip], AV.agg [AV.int .i64 jn, AV.bool jo, AV.int .i64 i9, AV.bool ja]] => some (VY ii ik im ip jn jo i9 ja, RT.leaf (AV.agg [AV.int .i64 (Gh ii ik im ip jn jo i9 ja), AV.bool (NC ii ik im ip jn jo i9 ja)]))
  | _ => none
theorem ar6 : aU Tryz.prog 331 (.pure aiP) := by
 intro xs p r h hp E w vs hr hv; unfold aiP at h; split at h
 . rename_i ii ik im ip jn jo i9 ja
   obtain ⟨rfl, rfl⟩ := aG h
   exact dF (ys := akk ii ik im ip jn jo i9 ja) (rs := [.cell 4 64]) aX (show aO Tryz.prog ar5 from ⟨ar4, agn, trivial⟩) Tryz.func331 rfl (by kernel_rfl) rfl (by decide) Tryz.ntmps331 (axM ii ik im ip jn jo i9 ja) (auU ii ik im ip jn jo i9 ja hp rfl) E w vs hr hv
 . cases h
def aur : List (Nat × Ag.Spec) := [(171, .pure adY)]
def al4 (a0 a1:Int) : List AV := [AV.int .i64 a0, AV.int .i64 a1]
theorem azb (a0 a1:Int) (K : AV -> Prop) : vwp tab (bC aur) (fun _ _ _ => False) 0 (aF Tryz.f204) (entry (al4 a0 a1) 10) (aV tab [.cell 4 66] fun v s => K (v.frz s.mem)) = aoc a0 a1 (fun r0 r1 r2 r3 => K (AV.agg [AV.int .i64 r0, AV.bool r1, AV.int .i64 r2, AV.bool r3]))  := by kernel_rfl
def aq5 : List AV -> Option (Prop × RT)
  | [AV.int .i64 a0, AV.int .i64 a1] => some (ap0 a0 a1, RT.leaf (AV.agg [AV.int .i64 (af0 a0 a1), AV.bool (ZP a0 a1), AV.int .i64 (af2 a0 a1), AV.bool (af4 a0 a1)]))
  | _ => none
theorem azc : aU Tryz.prog 204 (.pure aq5) := by
 intro xs p r h hp E w vs hr hv; unfold aq5 at h; split at h
 . rename_i a0 a1
   obtain ⟨rfl, rfl⟩ := aG h
   exact dF (ys := al4 a0 a1) (rs := [.cell 4 66]) aX (show aO Tryz.prog aur from ⟨ai3, trivial⟩) Tryz.func204 rfl (by kernel_rfl) rfl (by decide) Tryz.ntmps204 (azb a0 a1) (awg a0 a1 hp rfl) E w vs hr hv
 . cases h



def ag4 : List (Nat × Ag.Spec) := []
def EP (ig:Nat) (cm ge:Nat -> Int) (km:Int) : VS := ⟨dD 34 0 [(2, AV.bool false), (5, AV.rs none ig [CF.I .i64 cm, CF.I .i64 ge]), (6, AV.int .i64 (ig:Int)), (7, AV.int .i64 km)], [], false, 0⟩
def xQ (ig:Nat) (cm ge:Nat -> Int) (o0:Int) : VS := ⟨dD 34 0 [(2, AV.bool false), (5, AV.rs none ig [CF.I .i64 cm, CF.I .i64 ge]), (6, AV.int .i64 (ig:Int)), (7, AV.int .i64 o0)], [], false, 0⟩
def ER (ig:Nat) (cm ge:Nat -> Int) (o0:Int) : VS := ⟨dD 34 0 [(2, AV.bool false), (5, AV.rs none ig [CF.I .i64 cm, CF.I .i64 ge]), (6, AV.int .i64 (ig:Int)), (7, AV.int .i64 o0)], [], false, 0⟩
theorem apa (ig:Nat) (cm ge:Nat -> Int) (km:Int) (Q : Exit -> VS -> Prop) : vwp tab (bC ag4) (fun _ _ _ => False) 0 (gY (dA (aF Tryz.f105) 0)) (EP ig cm ge km) (QM [2, 5, 6, 7] [] 0 Q) = Jh ig cm ge km (fun w0 => Q .normal (EP ig cm ge w0)) (fun o0 => Q (.exit 0) (xQ ig cm ge o0)) (fun o0 => Q .ret (ER ig cm ge o0))  := by kernel_rfl
theorem apb {X : Cx} (hX : Std Tryz.prog tab (bC ag4) X) (b : Code) (hb : b = aF Tryz.f105) (ig:Nat) (cm ge:Nat -> Int) (fu:Nat) (km:Int) (Q : Exit -> VS -> Prop) (h : y5 ig cm ge fu km (fun o0 => Q (.exit 0) (xQ ig cm ge o0)) (fun o0 => Q .ret (ER ig cm ge o0))) : TrK X b 0 (EP ig cm ge km) Q := by
  subst hb
  refine iF (V := Int) (fun v => EP ig cm ge v) (fun f v => y5 ig cm ge f v (fun o0 => Q (.exit 0) (xQ ig cm ge o0)) (fun o0 => Q .ret (ER ig cm ge o0))) (fun _ h => h) (by kernel_rfl) (fun f v hv => ?_) (fuel := fu) (v0 := (km)) h
  refine mO (bs := [2, 5, 6, 7]) (ms := []) (nm := 0) ?_
  refine dG hX rfl (tr := (fun _ _ _ => False)) (fun _ _ _ h => h.elim) ?_
  refine Eq.mpr (apa ig cm ge v _) ?_
  exact ab9 ig cm ge v (fun w0 h => ⟨w0, rfl, h⟩) (fun _ h => h) (fun _ h => h) hv
def ai0 (ig:Nat) (cm ge:Nat -> Int) (k:Nat) (st : VS) (Q : Exit -> VS -> Prop) : Prop := match k with
  | 0 => TL [2, 5, 6, 7] [] 0 (convs st []) (fun st => EP ig cm ge (intOf (tAt st 7))) (fun st => y5 ig cm ge fuel (intOf (tAt st 7)) (fun o0 => Q (.exit 0) (xQ ig cm ge o0)) (fun o0 => Q .ret (ER ig cm ge o0)))
  | _ => False
theorem asP {X : Cx} (hX : Std Tryz.prog tab (bC ag4) X) (b : Code) (hb : b = aF Tryz.f105) (ig:Nat) (cm ge:Nat -> Int) (j:Nat) (st : VS) (Q : Exit -> VS -> Prop) (h : ai0 ig cm ge j st Q) : TrK X b j st Q := by
  unfold ai0 at h
  split at h
  . exact lF h (fun h' => apb hX b hb ig cm ge _ _ Q h')
  . exact h.elim
def ag5 (ig:Nat) (cm ge:Nat -> Int) : List AV := [AV.rs none ig [CF.I .i64 cm, CF.I .i64 ge]]
theorem ayG (ig:Nat) (cm ge:Nat -> Int) (K : AV -> Prop) : vwp tab (bC ag4) (ai0 ig cm ge) 0 (aF Tryz.f105) (entry (ag5 ig cm ge) 34) (aV tab [.tmp 2] fun v s => K (v.frz s.mem)) = adC ig cm ge (fun r0 => K (AV.bool r0)) (fun p0 y0 y1 => EP ig cm ge p0 = EP ig cm ge p0 /\ y5 ig cm ge fuel p0 y0 y1) := by kernel_rfl
theorem asQ (ig:Nat) (cm ge:Nat -> Int) {K0 : Bool -> Prop} : adC ig cm ge K0 (y5 ig cm ge fuel) -> adC ig cm ge K0 (fun p0 y0 y1 => EP ig cm ge p0 = EP ig cm ge p0 /\ y5 ig cm ge fuel p0 y0 y1) := by
  unfold adC
  repeat' first
    | exact id
    | refine dU ?_
    | refine cO ?_ ?_
    | refine cZ ?_
    | refine fun h => ⟨rfl, acd _ _ _  (fun _ => ?_) (fun _ => ?_) _ _  h⟩
def Z4 : List AV -> Option (Prop × RT)
  | [AV.rs sq0 sn0 sc0] => cond (fG [KC.I .i64, KC.I .i64] sc0) (some (AZ (nOf sn0 sc0) (aA sc0 0) (aA sc0 1), RT.leaf (AV.bool (jI (nOf sn0 sc0) (aA sc0 0) (aA sc0 1))))) none
  | _ => none
theorem ag6 : aU Tryz.prog 105 (.pure Z4) := by
 intro xs p r h hp E w vs hr hv; unfold Z4 at h; split at h
 . rename_i sq0 sn0 sc0
   obtain ⟨hk0, h⟩ := dW h
   obtain ⟨rfl, rfl⟩ := aG h
   have hG := (show aO Tryz.prog ag4 from trivial)
   have hv' := ((AV.les.cons (AV.le.rs hk0) AV.les.nil) _ _ hv : VRs E.bare (ag5 (nOf sn0 sc0) (aA sc0 0) (aA sc0 1)) vs)
   refine eF (c := aF Tryz.f105) (rs := [.tmp 2]) (ys := ag5 (nOf sn0 sc0) (aA sc0 0) (aA sc0 1)) aX (gB hG) Tryz.func105 rfl (by kernel_rfl) rfl (by decide) (fun X hX hrho => ?_) E w vs hr hv'
   rw [Tryz.ntmps105]
   refine dG hX rfl (tr := ai0 (nOf sn0 sc0) (aA sc0 0) (aA sc0 1)) (fun j st Q h => asP hX _ rfl (nOf sn0 sc0) (aA sc0 0) (aA sc0 1) j st Q h) (Eq.mpr (ayG (nOf sn0 sc0) (aA sc0 0) (aA sc0 1) (fun x => x = _)) ?_)
   exact asQ (nOf sn0 sc0) (aA sc0 0) (aA sc0 1) (avp (nOf sn0 sc0) (aA sc0 0) (aA sc0 1) hp rfl)
 . cases h
def agx : List (Nat × Ag.Spec) := [(105, .pure Z4)]
def agy (cm ge ij iq:Int) : List AV := [AV.agg [AV.int .i64 cm, AV.int .i64 ge, AV.int .i64 ij, AV.int .i64 iq]]
theorem aw2 (cm ge ij iq:Int) (K : AV -> Prop) : vwp tab (bC agx) (fun _ _ _ => False) 0 (aF Tryz.f47) (entry (agy cm ge ij iq) 34) (aV tab [.tmp 2] fun v s => K (v.frz s.mem)) = ac9 cm ge ij iq (fun r0 => K (AV.int .i64 r0))  := by kernel_rfl
def aoa : List AV -> Option (Prop × RT)
  | [AV.agg [AV.int .i64 cm, AV.int .i64 ge, AV.int .i64 ij, AV.int .i64 iq]] => some (Vr cm ge ij iq, RT.leaf (AV.int .i64 (yJ cm ge ij iq)))
  | _ => none
theorem aw3 : aU Tryz.prog 47 (.pure aoa) := by
 intro xs p r h hp E w vs hr hv; unfold aoa at h; split at h
 . rename_i cm ge ij iq
   obtain ⟨rfl, rfl⟩ := aG h
   exact dF (ys := agy cm ge ij iq) (rs := [.tmp 2]) aX (show aO Tryz.prog agx from ⟨ag6, trivial⟩) Tryz.func47 rfl (by kernel_rfl) rfl (by decide) Tryz.ntmps47 (aw2 cm ge ij iq) (aui cm ge ij iq hp rfl) E w vs hr hv
 . cases h
def arA : List (Nat × Ag.Spec) := [(47, .pure aoa)]
def aj6 (cm ge ij iq a1:Int) : List AV := [AV.agg [AV.int .i64 cm, AV.int .i64 ge, AV.int .i64 ij, AV.int .i64 iq], AV.int .i64 a1]
theorem axn (cm ge ij iq a1:Int) (K : AV -> Prop) : vwp tab (bC arA) (fun _ _ _ => False) 0 (aF Tryz.f62) (entry (aj6 cm ge ij iq a1) 37) (aV tab [.cell 4 45] fun v s => K (v.frz s.mem)) = al0 cm ge ij iq a1 (fun r0 r1 r2 r3 => K (AV.agg [AV.int .i64 r0, AV.int .i64 r1, AV.int .i64 r2, AV.int .i64 r3]))  := by kernel_rfl
def aiA : List AV -> Option (Prop × RT)
  | [AV.agg [AV.int .i64 cm, AV.int .i64 ge, AV.int .i64 ij, AV.int .i64 iq], AV.int .i64 a1] => some (VA cm ge ij iq a1, RT.leaf (AV.agg [AV.int .i64 (qB cm ge ij iq a1), AV.int .i64 (qC cm ge ij iq a1), AV.int .i64 (Jb cm ge ij iq a1), AV.int .i64 (Jk cm ge ij iq a1)]))
  | _ => none
theorem arB : aU Tryz.prog 62 (.pure aiA) := by
 intro xs p r h hp E w vs hr hv; unfold aiA at h; split at h
 . rename_i cm ge ij iq a1
   obtain ⟨rfl, rfl⟩ := aG h
   exact dF (ys := aj6 cm ge ij iq a1) (rs := [.cell 4 45]) aX (show aO Tryz.prog arA from ⟨aw3, trivial⟩) Tryz.func62 rfl (by kernel_rfl) rfl (by decide) Tryz.ntmps62 (axn cm ge ij iq a1) (auB cm ge ij iq a1 hp rfl) E w vs hr hv
 . cases h
def asV : List (Nat × Ag.Spec) := []
def akJ (cm ge ic ie:Int) : List AV := [AV.agg [AV.int .i64 cm, AV.int .i64 ge], AV.agg [AV.int .i64 ic, AV.int .i64 ie]]
theorem ayK (cm ge ic ie:Int) (K : AV -> Prop) : vwp tab (bC asV) (fun _ _ _ => False) 0 (aF Tryz.f160) (entry (akJ cm ge ic ie) 16) (aV tab [.cell 4 32] fun v s => K (v.frz s.mem)) = amN cm ge ic ie (fun r0 r1 => K (AV.agg [AV.int .i64 r0, AV.int .i64 r1]))  := by kernel_rfl
def adX : List AV -> Option (Prop × RT)
  | [AV.agg [AV.int .i64 cm, AV.int .i64 ge], AV.agg [AV.int .i64 ic, AV.int .i64 ie]] => some (Wy cm ge ic ie, RT.leaf (AV.agg [AV.int .i64 (bY cm ge ic ie), AV.int .i64 (bZ cm ge ic ie)]))
  | _ => none
theorem ai2 : aU Tryz.prog 160 (.pure adX) := by
 intro xs p r h hp E w vs hr hv; unfold adX at h; split at h
 . rename_i cm ge ic ie
   obtain ⟨rfl, rfl⟩ := aG h
   exact dF (ys := akJ cm ge ic ie) (rs := [.cell 4 32]) aX (show aO Tryz.prog asV from trivial) Tryz.func160 rfl (by kernel_rfl) rfl (by decide) Tryz.ntmps160 (ayK cm ge ic ie) (avs cm ge ic ie hp rfl) E w vs hr hv
 . cases h
def asx : List (Nat × Ag.Spec) := []
def akx (cm ge ic ie:Int) : List AV := [AV.agg [AV.int .i64 cm, AV.int .i64 ge], AV.agg [AV.int .i64 ic, AV.int .i64 ie]]
theorem ayg (cm ge ic ie:Int) (K : AV -> Prop) : vwp tab (bC asx) (fun _ _ _ => False) 0 (aF Tryz.f202) (entry (akx cm ge ic ie) 16) (aV tab [.tmp 4] fun v s => K (v.frz s.mem)) = amy cm ge ic ie (fun r0 => K (AV.int .i64 r0))  := by kernel_rfl
def aoU : List AV -> Option (Prop × RT)
  | [AV.agg [AV.int .i64 cm, AV.int .i64 ge], AV.agg [AV.int .i64 ic, AV.int .i64 ie]] => some (afL cm ge ic ie, RT.leaf (AV.int .i64 (Gi cm ge ic ie)))
  | _ => none
theorem ayh : aU Tryz.prog 202 (.pure aoU) := by
 intro xs p r h hp E w vs hr hv; unfold aoU at h; split at h
 . rename_i cm ge ic ie
   obtain ⟨rfl, rfl⟩ := aG h
   exact dF (ys := akx cm ge ic ie) (rs := [.tmp 4]) aX (show aO Tryz.prog asx from trivial) Tryz.func202 rfl (by kernel_rfl) rfl (by decide) Tryz.ntmps202 (ayg cm ge ic ie) (avb cm ge ic ie hp rfl) E w vs hr hv
 . cases h
def asN : List (Nat × Ag.Spec) := [(160, .pure adX), (202, .pure aoU)]
def akF (cm ge ic ie il io:Int) : List AV := [AV.agg [AV.int .i64 cm, AV.int .i64 ge], AV.agg [AV.int .i64 ic, AV.int .i64 ie], AV.agg [AV.int .i64 il, AV.int .i64 io]]
theorem ayC (cm ge ic ie il io:Int) (K : AV -> Prop) : vwp tab (bC asN) (fun _ _ _ => False) 0 (aF Tryz.f127) (entry (akF cm ge ic ie il io) 14) (aV tab [.tmp 6] fun v s => K (v.frz s.mem)) = amJ cm ge ic ie il io (fun r0 => K (AV.int .i64 r0))  := by kernel_rfl
def ao8 : List AV -> Option (Prop × RT)
  | [AV.agg [AV.int .i64 cm, AV.int .i64 ge], AV.agg [AV.int .i64 ic, AV.int .i64 ie], AV.agg [AV.int .i64 il, AV.int .i64 io]] => some (Ws cm ge ic ie il io, RT.leaf (AV.int .i64 (NH cm ge ic ie il io)))
  | _ => none
theorem ayD : aU Tryz.prog 127 (.pure ao8) := by
 intro xs p r h hp E w vs hr hv; unfold ao8 at h; split at h
 . rename_i cm ge ic ie il io
   obtain ⟨rfl, rfl⟩ := aG h
   exact dF (ys := akF cm ge ic ie il io) (rs := [.tmp 6]) aX (show aO Tryz.prog asN from ⟨ai2, ayh, trivial⟩) Tryz.func127 rfl (by kernel_rfl) rfl (by decide) Tryz.ntmps127 (ayC cm ge ic ie il io) (avn cm ge ic ie il io hp rfl) E w vs hr hv
 . cases h
def auF : List (Nat × Ag.Spec) := [(105, .pure Z4), (127, .pure ao8)]
def amj (cm ge ic ie il io:Int) : List AV := [AV.agg [AV.int .i64 cm, AV.int .i64 ge], AV.agg [AV.int .i64 ic, AV.int .i64 ie], AV.agg [AV.int .i64 il, AV.int .i64 io]]
theorem azh (cm ge ic ie il io:Int) (K : AV -> Prop) : vwp tab (bC auF) (fun _ _ _ => False) 0 (aF Tryz.f91) (entry (amj cm ge ic ie il io) 23) (aV tab [.tmp 6] fun v s => K (v.frz s.mem)) = aof cm ge ic ie il io (fun r0 => K (AV.int .i64 r0))  := by kernel_rfl
def aq6 : List AV -> Option (Prop × RT)
  | [AV.agg [AV.int .i64 cm, AV.int .i64 ge], AV.agg [AV.int .i64 ic, AV.int .i64 ie], AV.agg [AV.int .i64 il, AV.int .i64 io]] => some (avO cm ge ic ie il io, RT.leaf (AV.int .i64 (kW cm ge ic ie il io)))
  | _ => none
theorem azi : aU Tryz.prog 91 (.pure aq6) := by
 intro xs p r h hp E w vs hr hv; unfold aq6 at h; split at h
 . rename_i cm ge ic ie il io
   obtain ⟨rfl, rfl⟩ := aG h
   exact dF (ys := amj cm ge ic ie il io) (rs := [.tmp 6]) aX (show aO Tryz.prog auF from ⟨ag6, ayD, trivial⟩) Tryz.func91 rfl (by kernel_rfl) rfl (by decide) Tryz.ntmps91 (azh cm ge ic ie il io) (awQ cm ge ic ie il io hp rfl) E w vs hr hv
 . cases h
def arb : List (Nat × Ag.Spec) := [(62, .pure aiA), (91, .pure aq6)]
def ajV  : List AV := []
theorem axa  (K : AV -> Prop) : vwp tab (bC arb) (fun _ _ _ => False) 0 (aF Tryz.f31) (entry (ajV ) 12) (aV tab [.tmp 0] fun v s => K (v.frz s.mem)) = alR  (fun r0 => K (AV.bool r0))  := by kernel_rfl
def air : List AV -> Option (Prop × RT)
  | [] => some (XP , RT.leaf (AV.bool vW))
  | _ => none
theorem ard : aU Tryz.prog 31 (.pure air) := by
 intro xs p r h hp E w vs hr hv; unfold air at h; split at h
 . skip
   obtain ⟨rfl, rfl⟩ := aG h
   exact dF (ys := ajV ) (rs := [.tmp 0]) aX (show aO Tryz.prog arb from ⟨arB, azi, trivial⟩) Tryz.func31 rfl (by kernel_rfl) rfl (by decide) Tryz.ntmps31 (axa ) (aum  hp rfl) E w vs hr hv
 . cases h




def as1 : List (Nat × Ag.Spec) := []
def ag7 (iw:Nat) (ii ik:Nat -> Int) : List AV := [AV.agg [AV.rs none iw [CF.I .i64 ii, CF.I .i64 ik]]]
theorem ayS (iw:Nat) (ii ik:Nat -> Int) (K : AV -> Prop) : vwp tab (bC as1) (fun _ _ _ => False) 0 (aF Tryz.f151) (entry (ag7 iw ii ik) 4) (aV tab [.tmp 2] fun v s => K (v.frz s.mem)) = amU iw ii ik (fun r0 r1 r2 => K (AV.fn 225 [AV.rp [AV.rs none r0 [CF.I .i64 r1, CF.I .i64 r2]] 0]))  := by kernel_rfl
def ag8 : List AV -> Option (Prop × RT)
  | [AV.agg [AV.rs sq0 sn0 sc0]] => cond (fG [KC.I .i64, KC.I .i64] sc0) (some (adG (nOf sn0 sc0) (aA sc0 0) (aA sc0 1), RT.leaf (AV.fn 225 [AV.rp [AV.rs none (dB (nOf sn0 sc0) (aA sc0 0) (aA sc0 1)) [CF.I .i64 (gX (nOf sn0 sc0) (aA sc0 0) (aA sc0 1)), CF.I .i64 (dJ (nOf sn0 sc0) (aA sc0 0) (aA sc0 1))]] 0]))) none
  | _ => none
theorem apg : aU Tryz.prog 151 (.pure ag8) := by
 intro xs p r h hp E w vs hr hv; unfold ag8 at h; split at h
 . rename_i sq0 sn0 sc0
   obtain ⟨hk0, h⟩ := dW h
   obtain ⟨rfl, rfl⟩ := aG h
   exact dF (ys := ag7 (nOf sn0 sc0) (aA sc0 0) (aA sc0 1)) (rs := [.tmp 2]) aX (show aO Tryz.prog as1 from trivial) Tryz.func151 rfl (by kernel_rfl) rfl (by decide) Tryz.ntmps151 (ayS (nOf sn0 sc0) (aA sc0 0) (aA sc0 1)) (avx (nOf sn0 sc0) (aA sc0 0) (aA sc0 1) hp rfl) E w vs hr ((AV.les.cons (AV.le.agg (AV.les.cons (AV.le.rs hk0) AV.les.nil)) AV.les.nil) _ _ hv : VRs E.bare (ag7 (nOf sn0 sc0) (aA sc0 0) (aA sc0 1)) vs)
 . cases h
def Xa : List (Nat × Ag.Spec) := [(105, .pure Z4), (127, .pure ao8), (151, .pure ag8)]
def tK (ig:Nat) (cm ge:Nat -> Int) (j0:Nat) (jb l7:Int) : VS := ⟨dD 50 0 [(1, AV.ptr false 0 0 0), (2, AV.ptr false 1 0 0), (3, AV.ptr false 2 0 0), (4, AV.ptr false 3 0 0), (5, AV.ptr false 4 0 0), (18, AV.fn 225 [AV.rp [AV.rs none (dB ig cm ge) [CF.I .i64 (gX ig cm ge), CF.I .i64 (dJ ig cm ge)]] 0]), (19, AV.agg [AV.int .i64 ((gX ig cm ge) j0), AV.int .i64 ((dJ ig cm ge) j0)]), (20, AV.agg [AV.int .i64 ((gX ig cm ge) (nxE (dB ig cm ge) j0)), AV.int .i64 ((dJ ig cm ge) (nxE (dB ig cm ge) j0))]), (21, AV.rs none ig [CF.I .i64 cm, CF.I .i64 ge]), (22, AV.int .i64 (ig:Int)), (23, AV.int .i64 l7)], [.one true 33 [AV.rs none ig [CF.I .i64 cm, CF.I .i64 ge]], .one true 4 [AV.bool false], .one true 3 [AV.int .i64 jb], .one true 32 [AV.int .i64 ((gX ig cm ge) j0), AV.int .i64 ((dJ ig cm ge) j0)], .one true 32 [AV.int .i64 ((gX ig cm ge) (nxE (dB ig cm ge) j0)), AV.int .i64 ((dJ ig cm ge) (nxE (dB ig cm ge) j0))]], false, 3⟩
def tN (ig:Nat) (cm ge:Nat -> Int) (j0:Nat) (jb o0:Int) : VS := ⟨dD 50 0 [(1, AV.ptr false 0 0 0), (2, AV.ptr false 1 0 0), (3, AV.ptr false 2 0 0), (4, AV.ptr false 3 0 0), (5, AV.ptr false 4 0 0), (18, AV.fn 225 [AV.rp [AV.rs none (dB ig cm ge) [CF.I .i64 (gX ig cm ge), CF.I .i64 (dJ ig cm ge)]] 0]), (19, AV.agg [AV.int .i64 ((gX ig cm ge) j0), AV.int .i64 ((dJ ig cm ge) j0)]), (20, AV.agg [AV.int .i64 ((gX ig cm ge) (nxE (dB ig cm ge) j0)), AV.int .i64 ((dJ ig cm ge) (nxE (dB ig cm ge) j0))]), (21, AV.rs none ig [CF.I .i64 cm, CF.I .i64 ge]), (22, AV.int .i64 (ig:Int)), (23, AV.int .i64 o0)], [.one true 33 [AV.rs none ig [CF.I .i64 cm, CF.I .i64 ge]], .one true 4 [AV.bool false], .one true 3 [AV.int .i64 jb], .one true 32 [AV.int .i64 ((gX ig cm ge) j0), AV.int .i64 ((dJ ig cm ge) j0)], .one true 32 [AV.int .i64 ((gX ig cm ge) (nxE (dB ig cm ge) j0)), AV.int .i64 ((dJ ig cm ge) (nxE (dB ig cm ge) j0))]], false, 3⟩
def xR (ig:Nat) (cm ge:Nat -> Int) (j0:Nat) (jb o0:Int) : VS := ⟨dD 50 0 [(1, AV.ptr false 0 0 0), (2, AV.ptr false 1 0 0), (3, AV.ptr false 2 0 0), (4, AV.ptr false 3 0 0), (5, AV.ptr false 4 0 0), (18, AV.fn 225 [AV.rp [AV.rs none (dB ig cm ge) [CF.I .i64 (gX ig cm ge), CF.I .i64 (dJ ig cm ge)]] 0]), (19, AV.agg [AV.int .i64 ((gX ig cm ge) j0), AV.int .i64 ((dJ ig cm ge) j0)]), (20, AV.agg [AV.int .i64 ((gX ig cm ge) (nxE (dB ig cm ge) j0)), AV.int .i64 ((dJ ig cm ge) (nxE (dB ig cm ge) j0))]), (21, AV.rs none ig [CF.I .i64 cm, CF.I .i64 ge]), (22, AV.int .i64 (ig:Int)), (23, AV.int .i64 o0)], [.one true 33 [AV.rs none ig [CF.I .i64 cm, CF.I .i64 ge]], .one true 4 [AV.bool false], .one true 3 [AV.int .i64 jb], .one true 32 [AV.int .i64 ((gX ig cm ge) j0), AV.int .i64 ((dJ ig cm ge) j0)], .one true 32 [AV.int .i64 ((gX ig cm ge) (nxE (dB ig cm ge) j0)), AV.int .i64 ((dJ ig cm ge) (nxE (dB ig cm ge) j0))]], false, 3⟩
theorem ag9 (ig:Nat) (cm ge:Nat -> Int) (j0:Nat) (jb l7:Int) (Q : Exit -> VS -> Prop) : vwp tab (bC Xa) (fun _ _ _ => False) 0 (gY (dA ((gY (dA (aF Tryz.f69) 0))) 0)) (tK ig cm ge j0 jb l7) (QM [1, 2, 3, 4, 5, 18, 19, 20, 21, 22, 23] [0, 1, 2, 3, 4] 5 Q) = y7 ig cm ge j0 jb l7 (fun w0 => Q .normal (tK ig cm ge j0 jb w0)) (fun o0 => Q (.exit 2) (tN ig cm ge j0 jb o0)) (fun o0 => Q .ret (xR ig cm ge j0 jb o0))  := by kernel_rfl
theorem aha {X : Cx} (hX : Std Tryz.prog tab (bC Xa) X) (b : Code) (hb : b = (gY (dA (aF Tryz.f69) 0))) (ig:Nat) (cm ge:Nat -> Int) (j0:Nat) (jb:Int) (fu:Nat) (l7:Int) (Q : Exit -> VS -> Prop) (h : lG ig cm ge j0 jb fu l7 (fun o0 => Q (.exit 2) (tN ig cm ge j0 jb o0)) (fun o0 => Q .ret (xR ig cm ge j0 jb o0))) : TrK X b 0 (tK ig cm ge j0 jb l7) Q := by
  subst hb
  refine iF (V := Int) (fun v => tK ig cm ge j0 jb v) (fun f v => lG ig cm ge j0 jb f v (fun o0 => Q (.exit 2) (tN ig cm ge j0 jb o0)) (fun o0 => Q .ret (xR ig cm ge j0 jb o0))) (fun _ h => h) (by kernel_rfl) (fun f v hv => ?_) (fuel := fu) (v0 := (l7)) h
  refine mO (bs := [1, 2, 3, 4, 5, 18, 19, 20, 21, 22, 23]) (ms := [0, 1, 2, 3, 4]) (nm := 5) ?_
  refine dG hX rfl (tr := (fun _ _ _ => False)) (fun _ _ _ h => h.elim) ?_
  refine Eq.mpr (ag9 ig cm ge j0 jb v _) ?_
  exact UO ig cm ge j0 jb v (fun w0 h => ⟨w0, rfl, h⟩) (fun _ h => h) (fun _ h => h) hv
def wI (ig:Nat) (cm ge:Nat -> Int) (jb:Int) : VS := ⟨dD 50 0 [(1, AV.ptr false 0 0 0), (2, AV.ptr false 1 0 0), (3, AV.ptr false 2 0 0), (18, AV.fn 225 [AV.rp [AV.rs none (dB ig cm ge) [CF.I .i64 (gX ig cm ge), CF.I .i64 (dJ ig cm ge)]] 0])], [.one true 33 [AV.rs none ig [CF.I .i64 cm, CF.I .i64 ge]], .one true 4 [AV.bool false], .one true 3 [AV.int .i64 jb]], false, 0⟩
def Bz (ig:Nat) (cm ge:Nat -> Int) (o0:Int) : VS := ⟨dD 50 0 [(1, AV.ptr false 0 0 0), (2, AV.ptr false 1 0 0), (3, AV.ptr false 2 0 0), (18, AV.fn 225 [AV.rp [AV.rs none (dB ig cm ge) [CF.I .i64 (gX ig cm ge), CF.I .i64 (dJ ig cm ge)]] 0])], [.one true 33 [AV.rs none ig [CF.I .i64 cm, CF.I .i64 ge]], .one true 4 [AV.bool false], .one true 3 [AV.int .i64 o0]], true, 0⟩
def ES (ig:Nat) (cm ge:Nat -> Int) (o0:Int) : VS := ⟨dD 50 0 [(1, AV.ptr false 0 0 0), (2, AV.ptr false 1 0 0), (3, AV.ptr false 2 0 0), (18, AV.fn 225 [AV.rp [AV.rs none (dB ig cm ge) [CF.I .i64 (gX ig cm ge), CF.I .i64 (dJ ig cm ge)]] 0])], [.one true 33 [AV.rs none ig [CF.I .i64 cm, CF.I .i64 ge]], .one true 4 [AV.bool false], .one true 3 [AV.int .i64 o0]], true, 0⟩
def Xb (ig:Nat) (cm ge:Nat -> Int) (j0:Nat) (jb:Int) (k:Nat) (st : VS) (Q : Exit -> VS -> Prop) : Prop := match k with
  | 0 => TL [1, 2, 3, 4, 5, 18, 19, 20, 21, 22, 23] [0, 1, 2, 3, 4] 5 (convs st []) (fun st => tK ig cm ge j0 jb (intOf (tAt st 23))) (fun st => lG ig cm ge j0 jb fuel (intOf (tAt st 23)) (fun o0 => Q (.exit 2) (tN ig cm ge j0 jb o0)) (fun o0 => Q .ret (xR ig cm ge j0 jb o0)))
  | _ => False
theorem aph (ig:Nat) (cm ge:Nat -> Int) (j0:Nat) (jb:Int) (Qn : VS -> Prop) (Q : Exit -> VS -> Prop) : vwp tab (bC Xa) (fun _ _ _ => False) 0 (Vd (dA (aF Tryz.f69) 0)) (⟨zo [19, 20] [AV.agg [AV.int .i64 ((gX ig cm ge) j0), AV.int .i64 ((dJ ig cm ge) j0)], AV.agg [AV.int .i64 ((gX ig cm ge) (nxE (dB ig cm ge) j0)), AV.int .i64 ((dJ ig cm ge) (nxE (dB ig cm ge) j0))]] (wI ig cm ge jb).tmps, (wI ig cm ge jb).mem, false, 3⟩) (H8 fun s1 => vwp tab (bC Xa) (Xb ig cm ge j0 jb) 0 (gY (dA (aF Tryz.f69) 0)) s1 (RP (wI ig cm ge jb).tmps 0 [0, 1, 2] 3 Qn Q)) = Ba ig cm ge j0 jb (fun w0 => Qn (wI ig cm ge w0)) (fun o0 => Q .ret (ES ig cm ge o0)) (fun p0 y0 y1 => tK ig cm ge j0 jb p0 = tK ig cm ge j0 jb p0 /\ lG ig cm ge j0 jb fuel p0 y0 y1) := by kernel_rfl
theorem ai4 (ig:Nat) (cm ge:Nat -> Int) (j0:Nat) (jb:Int) {c c' : Int -> Prop} {x0 y0 : Int -> Prop} (hc : ∀ w0, c w0 -> c' w0) (h0 : ∀ o0, x0 o0 -> y0 o0) : Ba ig cm ge j0 jb c x0 (lG ig cm ge j0 jb fuel) -> Ba ig cm ge j0 jb c' y0 (fun p0 y0 y1 => tK ig cm ge j0 jb p0 = tK ig cm ge j0 jb p0 /\ lG ig cm ge j0 jb fuel p0 y0 y1) := by
  unfold Ba
  repeat' first
    | exact hc _
    | exact h0 _
    | refine dU ?_
    | refine cO ?_ ?_
    | refine cZ ?_
    | refine fun h => ⟨rfl, NM _ _ _ _ _  (fun _ => ?_) (fun _ => ?_) _ _  h⟩
theorem ai5 {X : Cx} (hX : Std Tryz.prog tab (bC Xa) X) (b : Code) (hb : b = (gY (dA (aF Tryz.f69) 0))) (ig:Nat) (cm ge:Nat -> Int) (j0:Nat) (jb:Int) (j:Nat) (st : VS) (Q : Exit -> VS -> Prop) (h : Xb ig cm ge j0 jb j st Q) : TrK X b j st Q := by
  unfold Xb at h
  split at h
  . exact lF h (fun h' => aha hX b hb ig cm ge j0 jb _ _ Q h')
  . exact h.elim
theorem apj {X : Cx} (hX : Std Tryz.prog tab (bC Xa) X) (hrho : X.ρ = none) (b : Code) (hb : b = aF Tryz.f69) (ig:Nat) (cm ge:Nat -> Int) (jb:Int) (Q : Exit -> VS -> Prop) (h : Dx ig cm ge /\ y8 ig cm ge (Dw ig cm ge) 0 jb (fun o0 => Q .normal (Bz ig cm ge o0)) (fun o0 => Q .ret (ES ig cm ge o0))) : TrK X b 0 (wI ig cm ge jb) Q := by
  subst hb
  have hit : BI X.P 225 Gv := by rw [hX.P]; exact JC
  have hb2 : dA (aF Tryz.f69) 0 = .rangeFunc (.tmp 18) #[19, 20] (Vd (dA (aF Tryz.f69) 0)) (gY (dA (aF Tryz.f69) 0)) := by kernel_rfl
  refine aeL hrho hb2 (V := Int) (fun v => wI ig cm ge v) (t := (wI ig cm ge jb).tmps) (pn := 0) (nm := 3) (ms := [0, 1, 2]) (fun v => ⟨rfl, rfl, rfl, rfl⟩) hit (jb) rfl rfl (N := Dw ig cm ge) (args := fun j0 => [AV.agg [AV.int .i64 ((gX ig cm ge) j0), AV.int .i64 ((dJ ig cm ge) j0)], AV.agg [AV.int .i64 ((gX ig cm ge) (nxE (dB ig cm ge) j0)), AV.int .i64 ((dJ ig cm ge) (nxE (dB ig cm ge) j0))]]) (p := Dx ig cm ge) rfl h.1 (fun _ => rfl) (fun r j v => y8 ig cm ge r j v (fun o0 => Q .normal (Bz ig cm ge o0)) (fun o0 => Q .ret (ES ig cm ge o0))) (fun r j v hv => ?_) (fun j v hv => ?_) h.2
  . refine Qq hX (c1 := (Vd (dA (aF Tryz.f69) 0))) (c2 := (gY (dA (aF Tryz.f69) 0))) rfl rfl (tr := Xb ig cm ge j v) (fun X' hX' j' st Q h => ai5 hX' _ rfl ig cm ge j v j' st Q h) ?_
    refine Eq.mpr (aph ig cm ge j v _ _) ?_
    exact ai4 ig cm ge j v (fun w0 h => ⟨w0, rfl, h⟩) (fun _ h => h) hv
  . exact hv
def ai6 (ig:Nat) (cm ge:Nat -> Int) (k:Nat) (st : VS) (Q : Exit -> VS -> Prop) : Prop := match k with
  | 0 => TL [1, 2, 3, 18] [0, 1, 2] 3 (convs st []) (fun st => wI ig cm ge (intOf (mAt st 2 0))) (fun st => Dx ig cm ge  /\ y8 ig cm ge  (Dw ig cm ge ) 0 (intOf (mAt st 2 0)) (fun o0 => Q .normal (Bz ig cm ge  o0)) (fun o0 => Q .ret (ES ig cm ge  o0)))
  | _ => False
theorem as2 {X : Cx} (hX : Std Tryz.prog tab (bC Xa) X) (hrho : X.ρ = none) (b : Code) (hb : b = aF Tryz.f69) (ig:Nat) (cm ge:Nat -> Int) (j:Nat) (st : VS) (Q : Exit -> VS -> Prop) (h : ai6 ig cm ge j st Q) : TrK X b j st Q := by
  unfold ai6 at h
  split at h
  . exact lF h (fun h' => apj hX hrho b hb ig cm ge _ Q h')
  . exact h.elim
def ahb (ig:Nat) (cm ge:Nat -> Int) : List AV := [AV.rs none ig [CF.I .i64 cm, CF.I .i64 ge]]
theorem ayT (ig:Nat) (cm ge:Nat -> Int) (K : AV -> Prop) : vwp tab (bC Xa) (ai6 ig cm ge) 0 (aF Tryz.f69) (entry (ahb ig cm ge) 50) (aV tab [.cell 2 4] fun v s => K (v.frz s.mem)) = adH ig cm ge (fun r0 => K (AV.bool r0)) (fun p0 y0 y1 => wI ig cm ge  p0 = wI ig cm ge  p0 /\ Dx ig cm ge  /\ y8 ig cm ge  (Dw ig cm ge ) 0 p0 y0 y1) := by kernel_rfl
theorem as3 (ig:Nat) (cm ge:Nat -> Int) {K0 : Bool -> Prop} : adH ig cm ge K0 (fun p0 y0 y1 => Dx ig cm ge  /\ y8 ig cm ge  (Dw ig cm ge ) 0 p0 y0 y1) -> adH ig cm ge K0 (fun p0 y0 y1 => wI ig cm ge  p0 = wI ig cm ge  p0 /\ Dx ig cm ge  /\ y8 ig cm ge  (Dw ig cm ge ) 0 p0 y0 y1) := by
  unfold adH
  repeat' first
    | exact id
    | refine dU ?_
    | refine cO ?_ ?_
    | refine cZ ?_
    | refine fun h => ⟨rfl, h.1, acg _ _ _  (fun _ => ?_) (fun _ => ?_) _ _ _  h.2⟩
def apk : List AV -> Option (Prop × RT)
  | [AV.rs sq0 sn0 sc0] => cond (fG [KC.I .i64, KC.I .i64] sc0) (some (Jp (nOf sn0 sc0) (aA sc0 0) (aA sc0 1), RT.leaf (AV.bool (oJ (nOf sn0 sc0) (aA sc0 0) (aA sc0 1))))) none
  | _ => none
theorem ayU : aU Tryz.prog 69 (.pure apk) := by
 intro xs p r h hp E w vs hr hv; unfold apk at h; split at h
 . rename_i sq0 sn0 sc0
   obtain ⟨hk0, h⟩ := dW h
   obtain ⟨rfl, rfl⟩ := aG h
   have hG := (show aO Tryz.prog Xa from ⟨ag6, ayD, apg, trivial⟩)
   have hv' := ((AV.les.cons (AV.le.rs hk0) AV.les.nil) _ _ hv : VRs E.bare (ahb (nOf sn0 sc0) (aA sc0 0) (aA sc0 1)) vs)
   refine eF (c := aF Tryz.f69) (rs := [.cell 2 4]) (ys := ahb (nOf sn0 sc0) (aA sc0 0) (aA sc0 1)) aX (gB hG) Tryz.func69 rfl (by kernel_rfl) rfl (by decide) (fun X hX hrho => ?_) E w vs hr hv'
   rw [Tryz.ntmps69]
   refine dG hX rfl (tr := ai6 (nOf sn0 sc0) (aA sc0 0) (aA sc0 1)) (fun j st Q h => as2 hX hrho _ rfl (nOf sn0 sc0) (aA sc0 0) (aA sc0 1) j st Q h) (Eq.mpr (ayT (nOf sn0 sc0) (aA sc0 0) (aA sc0 1) (fun x => x = _)) ?_)
   exact as3 (nOf sn0 sc0) (aA sc0 0) (aA sc0 1) (avy (nOf sn0 sc0) (aA sc0 0) (aA sc0 1) hp rfl)
 . cases h
def atb : List (Nat × Ag.Spec) := []
def akQ (cm ge a1:Int) : List AV := [AV.agg [AV.int .i64 cm, AV.int .i64 ge], AV.int .i64 a1]
theorem ay4 (cm ge a1:Int) (K : AV -> Prop) : vwp tab (bC atb) (fun _ _ _ => False) 0 (aF Tryz.f106) (entry (akQ cm ge a1) 22) (aV tab [.cell 4 45] fun v s => K (v.frz s.mem)) = am0 cm ge a1 (fun r0 r1 r2 r3 => K (AV.agg [AV.int .i64 r0, AV.int .i64 r1, AV.int .i64 r2, AV.int .i64 r3]))  := by kernel_rfl
def ai9 : List AV -> Option (Prop × RT)
  | [AV.agg [AV.int .i64 cm, AV.int .i64 ge], AV.int .i64 a1] => some (afV cm ge a1, RT.leaf (AV.agg [AV.int .i64 (qU cm ge a1), AV.int .i64 (AA cm ge a1), AV.int .i64 (AL cm ge a1), AV.int .i64 (AO cm ge a1)]))
  | _ => none
theorem atc : aU Tryz.prog 106 (.pure ai9) := by
 intro xs p r h hp E w vs hr hv; unfold ai9 at h; split at h
 . rename_i cm ge a1
   obtain ⟨rfl, rfl⟩ := aG h
   exact dF (ys := akQ cm ge a1) (rs := [.cell 4 45]) aX (show aO Tryz.prog atb from trivial) Tryz.func106 rfl (by kernel_rfl) rfl (by decide) Tryz.ntmps106 (ay4 cm ge a1) (avF cm ge a1 hp rfl) E w vs hr hv
 . cases h
def arz : List (Nat × Ag.Spec) := [(47, .pure aoa), (69, .pure apk), (105, .pure Z4), (106, .pure ai9)]
def aj3 (cm im ip ij:Int) (i6:Nat) (i7 i8:Nat -> Int) : List AV := [AV.agg [AV.int .i64 cm, AV.int .i64 im, AV.int .i64 ip, AV.int .i64 ij, AV.rs none i6 [CF.I .i64 i7, CF.I .i64 i8]]]
theorem axl (cm im ip ij:Int) (i6:Nat) (i7 i8:Nat -> Int) (K : AV -> Prop) : vwp tab (bC arz) (fun _ _ _ => False) 0 (aF Tryz.f37) (entry (aj3 cm im ip ij i6 i7 i8) 81) (aV tab [.tmp 2] fun v s => K (v.frz s.mem)) = alZ cm im ip ij i6 i7 i8 (fun r0 => K (AV.int .i64 r0))  := by kernel_rfl
def adT : List AV -> Option (Prop × RT)
  | [AV.agg [AV.int .i64 cm, AV.int .i64 im, AV.int .i64 ip, AV.int .i64 ij, AV.rs sq0 sn0 sc0]] => cond (fG [KC.I .i64, KC.I .i64] sc0) (some (F5 cm im ip ij (nOf sn0 sc0) (aA sc0 0) (aA sc0 1), RT.leaf (AV.int .i64 (mG cm im ip ij (nOf sn0 sc0) (aA sc0 0) (aA sc0 1))))) none
  | _ => none
theorem aiz : aU Tryz.prog 37 (.pure adT) := by
 intro xs p r h hp E w vs hr hv; unfold adT at h; split at h
 . rename_i cm im ip ij sq0 sn0 sc0
   obtain ⟨hk0, h⟩ := dW h
   obtain ⟨rfl, rfl⟩ := aG h
   exact dF (ys := aj3 cm im ip ij (nOf sn0 sc0) (aA sc0 0) (aA sc0 1)) (rs := [.tmp 2]) aX (show aO Tryz.prog arz from ⟨aw3, ayU, ag6, atc, trivial⟩) Tryz.func37 rfl (by kernel_rfl) rfl (by decide) Tryz.ntmps37 (axl cm im ip ij (nOf sn0 sc0) (aA sc0 0) (aA sc0 1)) (auA cm im ip ij (nOf sn0 sc0) (aA sc0 0) (aA sc0 1) hp rfl) E w vs hr ((AV.les.cons (AV.le.agg (AV.les.cons (AV.le.refl _) (AV.les.cons (AV.le.refl _) (AV.les.cons (AV.le.refl _) (AV.les.cons (AV.le.refl _) (AV.les.cons (AV.le.rs hk0) AV.les.nil)))))) AV.les.nil) _ _ hv : VRs E.bare (aj3 cm im ip ij (nOf sn0 sc0) (aA sc0 0) (aA sc0 1)) vs)
 . cases h
def as6 : List (Nat × Ag.Spec) := [(37, .pure adT)]
def ahd (cm im ip ij:Int) (i6:Nat) (i7 i8:Nat -> Int) : List AV := [AV.agg [AV.int .i64 cm, AV.int .i64 im, AV.int .i64 ip, AV.int .i64 ij, AV.rs none i6 [CF.I .i64 i7, CF.I .i64 i8]]]
theorem ayZ (cm im ip ij:Int) (i6:Nat) (i7 i8:Nat -> Int) (K : AV -> Prop) : vwp tab (bC as6) (fun _ _ _ => False) 0 (aF Tryz.f74) (entry (ahd cm im ip ij i6 i7 i8) 19) (aV tab [.tmp 2] fun v s => K (v.frz s.mem)) = amY cm im ip ij i6 i7 i8 (K (AV.nili)) (fun r0 r1 r2 => K (AV.ifc 169 (AV.agg [AV.int .i64 r0, AV.int .i64 r1, AV.int .i64 r2]))) (fun r0 r1 r2 => K (AV.ifc 174 (AV.agg [AV.rs none r0 [CF.I .i64 r1, CF.I .i64 r2]])))  := by kernel_rfl
def apn : List AV -> Option (Prop × RT)
  | [AV.agg [AV.int .i64 cm, AV.int .i64 im, AV.int .i64 ip, AV.int .i64 ij, AV.rs sq0 sn0 sc0]] => cond (fG [KC.I .i64, KC.I .i64] sc0) (some (adI cm im ip ij (nOf sn0 sc0) (aA sc0 0) (aA sc0 1), RT.cond (sN cm im ip ij (nOf sn0 sc0) (aA sc0 0) (aA sc0 1)) (RT.leaf (AV.nili)) (RT.cond (sO cm im ip ij (nOf sn0 sc0) (aA sc0 0) (aA sc0 1)) (RT.leaf (AV.ifc 169 (AV.agg [AV.int .i64 (kK cm im ip ij (nOf sn0 sc0) (aA sc0 0) (aA sc0 1)), AV.int .i64 (kL cm im ip ij (nOf sn0 sc0) (aA sc0 0) (aA sc0 1)), AV.int .i64 (kM cm im ip ij (nOf sn0 sc0) (aA sc0 0) (aA sc0 1))]))) (RT.leaf (AV.ifc 174 (AV.agg [AV.rs none (jR cm im ip ij (nOf sn0 sc0) (aA sc0 0) (aA sc0 1)) [CF.I .i64 (jS cm im ip ij (nOf sn0 sc0) (aA sc0 0) (aA sc0 1)), CF.I .i64 (jT cm im ip ij (nOf sn0 sc0) (aA sc0 0) (aA sc0 1))]])))))) none
  | _ => none
theorem ay0 : aU Tryz.prog 74 (.pure apn) := by
 intro xs p r h hp E w vs hr hv; unfold apn at h; split at h
 . rename_i cm im ip ij sq0 sn0 sc0
   obtain ⟨hk0, h⟩ := dW h
   obtain ⟨rfl, rfl⟩ := aG h
   have hG := (show aO Tryz.prog as6 from ⟨aiz, trivial⟩)
   have hv' := ((AV.les.cons (AV.le.agg (AV.les.cons (AV.le.refl _) (AV.les.cons (AV.le.refl _) (AV.les.cons (AV.le.refl _) (AV.les.cons (AV.le.refl _) (AV.les.cons (AV.le.rs hk0) AV.les.nil)))))) AV.les.nil) _ _ hv : VRs E.bare (ahd cm im ip ij (nOf sn0 sc0) (aA sc0 0) (aA sc0 1)) vs)
   refine eF (c := aF Tryz.f74) (rs := [.tmp 2]) (ys := ahd cm im ip ij (nOf sn0 sc0) (aA sc0 0) (aA sc0 1)) aX (gB hG) Tryz.func74 rfl (by kernel_rfl) rfl (by decide) (fun X hX hrho => ?_) E w vs hr hv'
   rw [Tryz.ntmps74]
   refine dG hX rfl (tr := fun _ _ _ => False) (fun _ _ _ h => h.elim) (Eq.mpr (ayZ cm im ip ij (nOf sn0 sc0) (aA sc0 0) (aA sc0 1) (fun x => x = _)) ?_)
   refine avC cm im ip ij (nOf sn0 sc0) (aA sc0 0) (aA sc0 1) hp ?_
   simp only [RT.val]
   cases sN cm im ip ij (nOf sn0 sc0) (aA sc0 0) (aA sc0 1)
   rotate_left
   . rfl
   cases sO cm im ip ij (nOf sn0 sc0) (aA sc0 0) (aA sc0 1)
   rotate_left
   . rfl
   rfl
 . cases h
def adZ : List (Nat × Ag.Spec) := [(127, .pure ao8), (151, .pure ag8)]
def wJ (iw:Nat) (ii ik:Nat -> Int) (ic ie:Int)  : VS := ⟨dD 16 0 [(3, AV.ptr false 1 0 0), (4, AV.ptr false 2 0 0), (8, AV.fn 225 [AV.rp [AV.rs none (dB iw ii ik) [CF.I .i64 (gX iw ii ik), CF.I .i64 (dJ iw ii ik)]] 0])], [.gone, .one true 32 [AV.int .i64 ic, AV.int .i64 ie], .one true 4 [AV.bool false]], false, 0⟩
def BA (iw:Nat) (ii ik:Nat -> Int) (ic ie:Int)  : VS := ⟨dD 16 0 [(3, AV.ptr false 1 0 0), (4, AV.ptr false 2 0 0), (8, AV.fn 225 [AV.rp [AV.rs none (dB iw ii ik) [CF.I .i64 (gX iw ii ik), CF.I .i64 (dJ iw ii ik)]] 0])], [.gone, .one true 32 [AV.int .i64 ic, AV.int .i64 ie], .one true 4 [AV.bool false]], true, 0⟩
def ET (iw:Nat) (ii ik:Nat -> Int) (ic ie:Int)  : VS := ⟨dD 16 0 [(3, AV.ptr false 1 0 0), (4, AV.ptr false 2 0 0), (8, AV.fn 225 [AV.rp [AV.rs none (dB iw ii ik) [CF.I .i64 (gX iw ii ik), CF.I .i64 (dJ iw ii ik)]] 0])], [.gone, .one true 32 [AV.int .i64 ic, AV.int .i64 ie], .one true 4 [AV.bool false]], true, 0⟩
theorem apo (iw:Nat) (ii ik:Nat -> Int) (ic ie:Int) (j0:Nat)  (Qn : VS -> Prop) (Q : Exit -> VS -> Prop) : vwp tab (bC adZ) (fun _ _ _ => False) 0 (Vd (dA (aF Tryz.f162) 0)) (⟨zo [9, 10] [AV.agg [AV.int .i64 ((gX iw ii ik) j0), AV.int .i64 ((dJ iw ii ik) j0)], AV.agg [AV.int .i64 ((gX iw ii ik) (nxE (dB iw ii ik) j0)), AV.int .i64 ((dJ iw ii ik) (nxE (dB iw ii ik) j0))]] (wJ iw ii ik ic ie ).tmps, (wJ iw ii ik ic ie ).mem, false, 3⟩) (H8 fun s1 => vwp tab (bC adZ) (fun _ _ _ => False) 0 (gY (dA (aF Tryz.f162) 0)) s1 (RP (wJ iw ii ik ic ie ).tmps 0 [1, 2] 3 Qn Q)) = Jq iw ii ik ic ie j0  (Qn (wJ iw ii ik ic ie )) (Q .ret (ET iw ii ik ic ie ))  := by kernel_rfl
theorem apq {X : Cx} (hX : Std Tryz.prog tab (bC adZ) X) (hrho : X.ρ = none) (b : Code) (hb : b = aF Tryz.f162) (iw:Nat) (ii ik:Nat -> Int) (ic ie:Int)  (Q : Exit -> VS -> Prop) (h : Dz iw ii ik ic ie /\ zf iw ii ik ic ie (Dy iw ii ik ic ie) 0  (Q .normal (BA iw ii ik ic ie )) (Q .ret (ET iw ii ik ic ie ))) : TrK X b 0 (wJ iw ii ik ic ie ) Q := by
  subst hb
  have hit : BI X.P 225 Gv := by rw [hX.P]; exact JC
  have hb2 : dA (aF Tryz.f162) 0 = .rangeFunc (.tmp 8) #[9, 10] (Vd (dA (aF Tryz.f162) 0)) (gY (dA (aF Tryz.f162) 0)) := by kernel_rfl
  refine aeL hrho hb2 (V := Unit) (fun v => wJ iw ii ik ic ie ) (t := (wJ iw ii ik ic ie ).tmps) (pn := 0) (nm := 3) (ms := [1, 2]) (fun v => ⟨rfl, rfl, rfl, rfl⟩) hit () rfl rfl (N := Dy iw ii ik ic ie) (args := fun j0 => [AV.agg [AV.int .i64 ((gX iw ii ik) j0), AV.int .i64 ((dJ iw ii ik) j0)], AV.agg [AV.int .i64 ((gX iw ii ik) (nxE (dB iw ii ik) j0)), AV.int .i64 ((dJ iw ii ik) (nxE (dB iw ii ik) j0))]]) (p := Dz iw ii ik ic ie) rfl h.1 (fun _ => rfl) (fun r j v => zf iw ii ik ic ie r j  (Q .normal (BA iw ii ik ic ie )) (Q .ret (ET iw ii ik ic ie ))) (fun r j v hv => ?_) (fun j v hv => ?_) h.2
  . refine Qq hX (c1 := (Vd (dA (aF Tryz.f162) 0))) (c2 := (gY (dA (aF Tryz.f162) 0))) rfl rfl (tr := (fun _ _ _ => False)) (fun _ _ _ _ _ h => h.elim) ?_
    refine Eq.mpr (apo iw ii ik ic ie j  _ _) ?_
    exact acn iw ii ik ic ie j  (fun h => ⟨(), rfl, h⟩) (fun h => h) hv
  . exact hv
def ai7 (iw:Nat) (ii ik:Nat -> Int) (ic ie:Int) (k:Nat) (st : VS) (Q : Exit -> VS -> Prop) : Prop := match k with
  | 0 => TL [3, 4, 8] [1, 2] 3 (convs st []) (fun st => wJ iw ii ik ic ie ) (fun st => Dz iw ii ik ic ie  /\ zf iw ii ik ic ie  (Dy iw ii ik ic ie ) 0  (Q .normal (BA iw ii ik ic ie  )) (Q .ret (ET iw ii ik ic ie  )))
  | _ => False
theorem as7 {X : Cx} (hX : Std Tryz.prog tab (bC adZ) X) (hrho : X.ρ = none) (b : Code) (hb : b = aF Tryz.f162) (iw:Nat) (ii ik:Nat -> Int) (ic ie:Int) (j:Nat) (st : VS) (Q : Exit -> VS -> Prop) (h : ai7 iw ii ik ic ie j st Q) : TrK X b j st Q := by
  unfold ai7 at h
  split at h
  . exact lF h (fun h' => apq hX hrho b hb iw ii ik ic ie  Q h')
  . exact h.elim
def ahe (iw:Nat) (ii ik:Nat -> Int) (ic ie:Int) : List AV := [AV.agg [AV.rs none iw [CF.I .i64 ii, CF.I .i64 ik]], AV.agg [AV.int .i64 ic, AV.int .i64 ie]]
theorem ay1 (iw:Nat) (ii ik:Nat -> Int) (ic ie:Int) (K : AV -> Prop) : vwp tab (bC adZ) (ai7 iw ii ik ic ie) 0 (aF Tryz.f162) (entry (ahe iw ii ik ic ie) 16) (aV tab [.cell 4 4] fun v s => K (v.frz s.mem)) = adJ iw ii ik ic ie (fun r0 => K (AV.bool r0)) (fun y0 y1 => wJ iw ii ik ic ie   = wJ iw ii ik ic ie   /\ Dz iw ii ik ic ie  /\ zf iw ii ik ic ie  (Dy iw ii ik ic ie ) 0  y0 y1) := by kernel_rfl
theorem as8 (iw:Nat) (ii ik:Nat -> Int) (ic ie:Int) {K0 : Bool -> Prop} : adJ iw ii ik ic ie K0 (fun y0 y1 => Dz iw ii ik ic ie  /\ zf iw ii ik ic ie  (Dy iw ii ik ic ie ) 0  y0 y1) -> adJ iw ii ik ic ie K0 (fun y0 y1 => wJ iw ii ik ic ie   = wJ iw ii ik ic ie   /\ Dz iw ii ik ic ie  /\ zf iw ii ik ic ie  (Dy iw ii ik ic ie ) 0  y0 y1) := by
  unfold adJ
  repeat' first
    | exact id
    | refine dU ?_
    | refine cO ?_ ?_
    | refine cZ ?_
    | refine fun h => ⟨rfl, h.1, aco _ _ _ _ _  ?_ ?_ _ _  h.2⟩
def apr : List AV -> Option (Prop × RT)
  | [AV.agg [AV.rs sq0 sn0 sc0], AV.agg [AV.int .i64 ic, AV.int .i64 ie]] => cond (fG [KC.I .i64, KC.I .i64] sc0) (some (ahQ (nOf sn0 sc0) (aA sc0 0) (aA sc0 1) ic ie, RT.leaf (AV.bool (Bh (nOf sn0 sc0) (aA sc0 0) (aA sc0 1) ic ie)))) none
  | _ => none
theorem ay2 : aU Tryz.prog 162 (.pure apr) := by
 intro xs p r h hp E w vs hr hv; unfold apr at h; split at h
 . rename_i sq0 sn0 sc0 ic ie
   obtain ⟨hk0, h⟩ := dW h
   obtain ⟨rfl, rfl⟩ := aG h
   have hG := (show aO Tryz.prog adZ from ⟨ayD, apg, trivial⟩)
   have hv' := ((AV.les.cons (AV.le.agg (AV.les.cons (AV.le.rs hk0) AV.les.nil)) (AV.les.cons (AV.le.refl _) AV.les.nil)) _ _ hv : VRs E.bare (ahe (nOf sn0 sc0) (aA sc0 0) (aA sc0 1) ic ie) vs)
   refine eF (c := aF Tryz.f162) (rs := [.cell 4 4]) (ys := ahe (nOf sn0 sc0) (aA sc0 0) (aA sc0 1) ic ie) aX (gB hG) Tryz.func162 rfl (by kernel_rfl) rfl (by decide) (fun X hX hrho => ?_) E w vs hr hv'
   rw [Tryz.ntmps162]
   refine dG hX rfl (tr := ai7 (nOf sn0 sc0) (aA sc0 0) (aA sc0 1) ic ie) (fun j st Q h => as7 hX hrho _ rfl (nOf sn0 sc0) (aA sc0 0) (aA sc0 1) ic ie j st Q h) (Eq.mpr (ay1 (nOf sn0 sc0) (aA sc0 0) (aA sc0 1) ic ie (fun x => x = _)) ?_)
   exact as8 (nOf sn0 sc0) (aA sc0 0) (aA sc0 1) ic ie (avD (nOf sn0 sc0) (aA sc0 0) (aA sc0 1) ic ie hp rfl)
 . cases h
def ap5 : List (Nat × Ag.Spec) := []
def ajj (cm ge ic ie:Int) : List AV := [AV.agg [AV.int .i64 cm, AV.int .i64 ge], AV.agg [AV.int .i64 ic, AV.int .i64 ie]]
theorem avY (cm ge ic ie:Int) (K : AV -> Prop) : vwp tab (bC ap5) (fun _ _ _ => False) 0 (aF Tryz.f161) (entry (ajj cm ge ic ie) 16) (aV tab [.tmp 4] fun v s => K (v.frz s.mem)) = anb cm ge ic ie (fun r0 => K (AV.int .i64 r0))  := by kernel_rfl
def anm : List AV -> Option (Prop × RT)
  | [AV.agg [AV.int .i64 cm, AV.int .i64 ge], AV.agg [AV.int .i64 ic, AV.int .i64 ie]] => some (ZQ cm ge ic ie, RT.leaf (AV.int .i64 (D6 cm ge ic ie)))
  | _ => none
theorem avZ : aU Tryz.prog 161 (.pure anm) := by
 intro xs p r h hp E w vs hr hv; unfold anm at h; split at h
 . rename_i cm ge ic ie
   obtain ⟨rfl, rfl⟩ := aG h
   exact dF (ys := ajj cm ge ic ie) (rs := [.tmp 4]) aX (show aO Tryz.prog ap5 from trivial) Tryz.func161 rfl (by kernel_rfl) rfl (by decide) Tryz.ntmps161 (avY cm ge ic ie) (avR cm ge ic ie hp rfl) E w vs hr hv
 . cases h
def aqz : List (Nat × Ag.Spec) := [(160, .pure adX), (161, .pure anm)]
def ajC (ii ik ge ic ie:Int) : List AV := [AV.agg [AV.int .i64 ii, AV.int .i64 ik, AV.int .i64 ge], AV.agg [AV.int .i64 ic, AV.int .i64 ie]]
theorem awF (ii ik ge ic ie:Int) (K : AV -> Prop) : vwp tab (bC aqz) (fun _ _ _ => False) 0 (aF Tryz.f329) (entry (ajC ii ik ge ic ie) 19) (aV tab [.tmp 4] fun v s => K (v.frz s.mem)) = alv ii ik ge ic ie (fun r0 => K (AV.bool r0))  := by kernel_rfl
def agm : List AV -> Option (Prop × RT)
  | [AV.agg [AV.int .i64 ii, AV.int .i64 ik, AV.int .i64 ge], AV.agg [AV.int .i64 ic, AV.int .i64 ie]] => some (YM ii ik ge ic ie, RT.leaf (AV.bool (fE ii ik ge ic ie)))
  | _ => none
theorem anU : aU Tryz.prog 329 (.pure agm) := by
 intro xs p r h hp E w vs hr hv; unfold agm at h; split at h
 . rename_i ii ik ge ic ie
   obtain ⟨rfl, rfl⟩ := aG h
   exact dF (ys := ajC ii ik ge ic ie) (rs := [.tmp 4]) aX (show aO Tryz.prog aqz from ⟨ai2, avZ, trivial⟩) Tryz.func329 rfl (by kernel_rfl) rfl (by decide) Tryz.ntmps329 (awF ii ik ge ic ie) (atT ii ik ge ic ie hp rfl) E w vs hr hv
 . cases h
def agB : List (Nat × Ag.Spec) := [(176, .pure afD)]
def ajX (a0:Int) : List AV := [AV.int .i64 a0]
theorem axc (a0:Int) (K : AV -> Prop) : vwp tab (bC agB) (fun _ _ _ => False) 0 (aF Tryz.f200) (entry (ajX a0) 5) (aV tab [.cell 2 64] fun v s => K (v.frz s.mem)) = ade a0 (fun r0 r1 => K (AV.agg [AV.int .i64 r0, AV.bool r1]))  := by kernel_rfl
def aiu : List AV -> Option (Prop × RT)
  | [AV.int .i64 a0] => some (ahz a0, RT.leaf (AV.agg [AV.int .i64 (FZ a0), AV.bool (II a0)]))
  | _ => none
theorem ark : aU Tryz.prog 200 (.pure aiu) := by
 intro xs p r h hp E w vs hr hv; unfold aiu at h; split at h
 . rename_i a0
   obtain ⟨rfl, rfl⟩ := aG h
   exact dF (ys := ajX a0) (rs := [.cell 2 64]) aX (show aO Tryz.prog agB from ⟨ajU, trivial⟩) Tryz.func200 rfl (by kernel_rfl) rfl (by decide) Tryz.ntmps200 (axc a0) (auq a0 hp rfl) E w vs hr hv
 . cases h
def asc : List (Nat × Ag.Spec) := [(272, .pure apd)]
def ako (cm:Int) (ge:Bool) : List AV := [AV.agg [AV.int .i64 cm, AV.bool ge]]
theorem axV (cm:Int) (ge:Bool) (K : AV -> Prop) : vwp tab (bC asc) (fun _ _ _ => False) 0 (aF Tryz.f205) (entry (ako cm ge) 7) (aV tab [.cell 2 64] fun v s => K (v.frz s.mem)) = aml cm ge (fun r0 r1 => K (AV.agg [AV.int .i64 r0, AV.bool r1]))  := by kernel_rfl
def aoG : List AV -> Option (Prop × RT)
  | [AV.agg [AV.int .i64 cm, AV.bool ge]] => some (TU cm ge, RT.leaf (AV.agg [AV.int .i64 (uM cm ge), AV.bool (SI cm ge)]))
  | _ => none
theorem axW : aU Tryz.prog 205 (.pure aoG) := by
 intro xs p r h hp E w vs hr hv; unfold aoG at h; split at h
 . rename_i cm ge
   obtain ⟨rfl, rfl⟩ := aG h
   exact dF (ys := ako cm ge) (rs := [.cell 2 64]) aX (show aO Tryz.prog asc from ⟨ayM, trivial⟩) Tryz.func205 rfl (by kernel_rfl) rfl (by decide) Tryz.ntmps205 (axV cm ge) (auZ cm ge hp rfl) E w vs hr hv
 . cases h
def atf : List (Nat × Ag.Spec) := [(98, .pure aqd), (160, .pure adX), (161, .pure anm), (171, .pure adY), (173, .pure anJ), (174, .pure aps), (198, .pure anV), (199, .pure akz), (200, .pure aiu), (203, .pure an1), (205, .pure aoG), (206, .pure ah4), (207, .pure aoS), (209, .pure ao7), (216, .pure ai8), (217, .pure ZW), (247, .pure aik), (329, .pure agm), (331, .pure aiP), (332, .pure ah9)]
def akT (ii ik ge ic ie il io:Int) : List AV := [AV.agg [AV.int .i64 ii, AV.int .i64 ik, AV.int .i64 ge], AV.agg [AV.int .i64 ic, AV.int .i64 ie], AV.agg [AV.int .i64 il, AV.int .i64 io]]
theorem ay9 (ii ik ge ic ie il io:Int) (K : AV -> Prop) : vwp tab (bC atf) (fun _ _ _ => False) 0 (aF Tryz.f330) (entry (akT ii ik ge ic ie il io) 112) (aV tab [.cell 6 81] fun v s => K (v.frz s.mem)) = am3 ii ik ge ic ie il io (fun r0 r1 r2 r3 r4 r5 r6 => K (AV.agg [AV.bool r0, AV.int .i64 r1, AV.bool r2, AV.int .i64 r3, AV.bool r4, AV.int .i64 r5, AV.bool r6]))  := by kernel_rfl
def apu : List AV -> Option (Prop × RT)
  | [AV.agg [AV.int .i64 ii, AV.int .i64 ik, AV.int .i64 ge], AV.agg [AV.int .i64 ic, AV.int .i64 ie], AV.agg [AV.int .i64 il, AV.int .i64 io]] => some (Yb ii ik ge ic ie il io, RT.leaf (AV.agg [AV.bool (NP ii ik ge ic ie il io), AV.int .i64 (NQ ii ik ge ic ie il io), AV.bool (NR ii ik ge ic ie il io), AV.int .i64 (NS ii ik ge ic ie il io), AV.bool (NT ii ik ge ic ie il io), AV.int .i64 (NU ii ik ge ic ie il io), AV.bool (NV ii ik ge ic ie il io)]))
  | _ => none
theorem aza : aU Tryz.prog 330 (.pure apu) := by
 intro xs p r h hp E w vs hr hv; unfold apu at h; split at h
 . rename_i ii ik ge ic ie il io
   obtain ⟨rfl, rfl⟩ := aG h
   exact dF (ys := akT ii ik ge ic ie il io) (rs := [.cell 6 81]) aX (show aO Tryz.prog atf from ⟨ayV, ai2, avZ, ai3, awt, ay6, awI, aul, ark, awZ, axW, aqn, ayd, axQ, ata, agn, aqX, anU, ar6, aqE, trivial⟩) Tryz.func330 rfl (by kernel_rfl) rfl (by decide) Tryz.ntmps330 (ay9 ii ik ge ic ie il io) (avI ii ik ge ic ie il io hp rfl) E w vs hr hv
 . cases h
def agI : List (Nat × Ag.Spec) := [(204, .pure aq5)]
def agJ (cm ge:Int) : List AV := [AV.agg [AV.int .i64 cm, AV.int .i64 ge]]
theorem axv (cm ge:Int) (K : AV -> Prop) : vwp tab (bC agI) (fun _ _ _ => False) 0 (aF Tryz.f214) (entry (agJ cm ge) 8) (aV tab [.cell 2 66] fun v s => K (v.frz s.mem)) = adl cm ge (fun r0 r1 r2 r3 => K (AV.agg [AV.int .i64 r0, AV.bool r1, AV.int .i64 r2, AV.bool r3]))  := by kernel_rfl
def aiG : List AV -> Option (Prop × RT)
  | [AV.agg [AV.int .i64 cm, AV.int .i64 ge]] => some (TS cm ge, RT.leaf (AV.agg [AV.int .i64 (uJ cm ge), AV.bool (uK cm ge), AV.int .i64 (sQ cm ge), AV.bool (sS cm ge)]))
  | _ => none
theorem arL : aU Tryz.prog 214 (.pure aiG) := by
 intro xs p r h hp E w vs hr hv; unfold aiG at h; split at h
 . rename_i cm ge
   obtain ⟨rfl, rfl⟩ := aG h
   exact dF (ys := agJ cm ge) (rs := [.cell 2 66]) aX (show aO Tryz.prog agI from ⟨azc, trivial⟩) Tryz.func214 rfl (by kernel_rfl) rfl (by decide) Tryz.ntmps214 (axv cm ge) (auH cm ge hp rfl) E w vs hr hv
 . cases h
def asR : List (Nat × Ag.Spec) := [(160, .pure adX), (203, .pure an1), (214, .pure aiG)]
def akH (cm ge ic ie:Int) : List AV := [AV.agg [AV.int .i64 cm, AV.int .i64 ge], AV.agg [AV.int .i64 ic, AV.int .i64 ie]]
theorem ayH (cm ge ic ie:Int) (K : AV -> Prop) : vwp tab (bC asR) (fun _ _ _ => False) 0 (aF Tryz.f211) (entry (akH cm ge ic ie) 23) (aV tab [.cell 4 66] fun v s => K (v.frz s.mem)) = amL cm ge ic ie (fun r0 r1 r2 r3 => K (AV.agg [AV.int .i64 r0, AV.bool r1, AV.int .i64 r2, AV.bool r3]))  := by kernel_rfl
def ai1 : List AV -> Option (Prop × RT)
  | [AV.agg [AV.int .i64 cm, AV.int .i64 ge], AV.agg [AV.int .i64 ic, AV.int .i64 ie]] => some (Wx cm ge ic ie, RT.leaf (AV.agg [AV.int .i64 (nN cm ge ic ie), AV.bool (CQ cm ge ic ie), AV.int .i64 (CS cm ge ic ie), AV.bool (Dt cm ge ic ie)]))
  | _ => none
theorem asT : aU Tryz.prog 211 (.pure ai1) := by
 intro xs p r h hp E w vs hr hv; unfold ai1 at h; split at h
 . rename_i cm ge ic ie
   obtain ⟨rfl, rfl⟩ := aG h
   exact dF (ys := akH cm ge ic ie) (rs := [.cell 4 66]) aX (show aO Tryz.prog asR from ⟨ai2, awZ, arL, trivial⟩) Tryz.func211 rfl (by kernel_rfl) rfl (by decide) Tryz.ntmps211 (ayH cm ge ic ie) (avq cm ge ic ie hp rfl) E w vs hr hv
 . cases h
def auW : List (Nat × Ag.Spec) := [(247, .pure aik)]
def amB (cm ge ic ie:Int) : List AV := [AV.agg [AV.int .i64 cm, AV.int .i64 ge], AV.agg [AV.int .i64 ic, AV.int .i64 ie]]
theorem azj (cm ge ic ie:Int) (K : AV -> Prop) : vwp tab (bC auW) (fun _ _ _ => False) 0 (aF Tryz.f335) (entry (amB cm ge ic ie) 15) (aV tab [.tmp 4] fun v s => K (v.frz s.mem)) = aog cm ge ic ie (fun r0 => K (AV.bool r0))  := by kernel_rfl
def aq7 : List AV -> Option (Prop × RT)
  | [AV.agg [AV.int .i64 cm, AV.int .i64 ge], AV.agg [AV.int .i64 ic, AV.int .i64 ie]] => some (Vt cm ge ic ie, RT.leaf (AV.bool (gK cm ge ic ie)))
  | _ => none
theorem azk : aU Tryz.prog 335 (.pure aq7) := by
 intro xs p r h hp E w vs hr hv; unfold aq7 at h; split at h
 . rename_i cm ge ic ie
   obtain ⟨rfl, rfl⟩ := aG h
   exact dF (ys := amB cm ge ic ie) (rs := [.tmp 4]) aX (show aO Tryz.prog auW from ⟨aqX, trivial⟩) Tryz.func335 rfl (by kernel_rfl) rfl (by decide) Tryz.ntmps335 (azj cm ge ic ie) (aw8 cm ge ic ie hp rfl) E w vs hr hv
 . cases h

end
end Go.Proofs.YtbcegholicnflaaGreat
