import Derived.Test.YtbcegholicnflaaGreatFirstWA
set_option linter.unusedVariables false
set_option linter.unusedSimpArgs false
set_option maxRecDepth 100000
namespace Go.Proofs.YtbcegholicnflaaGreat
open Go.RowKit Go.Ag
noncomputable section
def adR : List (Nat × Ag.Spec) := [(127, .pure ao8), (151, .pure ag8), (176, .pure afD), (211, .pure ai1), (335, .pure aq7)]
def wH (iw:Nat) (ii ik:Nat -> Int) (ic ie il io kw kx ln lp:Int) (l8:Bool) (l9:Int) (ma:Bool) (mb:Int) (mc:Bool) (md:Int) (me:Bool) : VS := ⟨dD 82 0 [(4, AV.ptr false 1 0 0), (5, AV.ptr false 2 0 0), (6, AV.ptr false 3 0 0), (7, AV.ptr false 4 0 0), (8, AV.ptr false 5 0 0), (9, AV.ptr false 6 0 0), (19, AV.fn 225 [AV.rp [AV.rs none (dB iw ii ik) [CF.I .i64 (gX iw ii ik), CF.I .i64 (dJ iw ii ik)]] 0])], [.gone, .one true 32 [AV.int .i64 ic, AV.int .i64 ie], .one true 32 [AV.int .i64 il, AV.int .i64 io], .one true 81 [AV.bool false, AV.int .i64 0, AV.bool false, AV.int .i64 0, AV.bool false, AV.int .i64 0, AV.bool false], .one true 332 [AV.int .i64 kw, AV.int .i64 kx], .one true 332 [AV.int .i64 ln, AV.int .i64 lp], .one true 81 [AV.bool l8, AV.int .i64 l9, AV.bool ma, AV.int .i64 mb, AV.bool mc, AV.int .i64 md, AV.bool me]], false, 0⟩
def Bv (iw:Nat) (ii ik:Nat -> Int) (ic ie il io o0 o1 o2 o3:Int) (o4:Bool) (o5:Int) (o6:Bool) (o7:Int) (o8:Bool) (o9:Int) (kv:Bool) : VS := ⟨dD 82 0 [(4, AV.ptr false 1 0 0), (5, AV.ptr false 2 0 0), (6, AV.ptr false 3 0 0), (7, AV.ptr false 4 0 0), (8, AV.ptr false 5 0 0), (9, AV.ptr false 6 0 0), (19, AV.fn 225 [AV.rp [AV.rs none (dB iw ii ik) [CF.I .i64 (gX iw ii ik), CF.I .i64 (dJ iw ii ik)]] 0])], [.gone, .one true 32 [AV.int .i64 ic, AV.int .i64 ie], .one true 32 [AV.int .i64 il, AV.int .i64 io], .one true 81 [AV.bool false, AV.int .i64 0, AV.bool false, AV.int .i64 0, AV.bool false, AV.int .i64 0, AV.bool false], .one true 332 [AV.int .i64 o0, AV.int .i64 o1], .one true 332 [AV.int .i64 o2, AV.int .i64 o3], .one true 81 [AV.bool o4, AV.int .i64 o5, AV.bool o6, AV.int .i64 o7, AV.bool o8, AV.int .i64 o9, AV.bool kv]], true, 0⟩
def D7 (iw:Nat) (ii ik:Nat -> Int) (ic ie il io o0 o1 o2 o3:Int) (o4:Bool) (o5:Int) (o6:Bool) (o7:Int) (o8:Bool) (o9:Int) (kv:Bool) : VS := ⟨dD 82 0 [(4, AV.ptr false 1 0 0), (5, AV.ptr false 2 0 0), (6, AV.ptr false 3 0 0), (7, AV.ptr false 4 0 0), (8, AV.ptr false 5 0 0), (9, AV.ptr false 6 0 0), (19, AV.fn 225 [AV.rp [AV.rs none (dB iw ii ik) [CF.I .i64 (gX iw ii ik), CF.I .i64 (dJ iw ii ik)]] 0])], [.gone, .one true 32 [AV.int .i64 ic, AV.int .i64 ie], .one true 32 [AV.int .i64 il, AV.int .i64 io], .one true 81 [AV.bool false, AV.int .i64 0, AV.bool false, AV.int .i64 0, AV.bool false, AV.int .i64 0, AV.bool false], .one true 332 [AV.int .i64 o0, AV.int .i64 o1], .one true 332 [AV.int .i64 o2, AV.int .i64 o3], .one true 81 [AV.bool o4, AV.int .i64 o5, AV.bool o6, AV.int .i64 o7, AV.bool o8, AV.int .i64 o9, AV.bool kv]], true, 0⟩
theorem anj (iw:Nat) (ii ik:Nat -> Int) (ic ie il io:Int) (j0:Nat) (kw kx ln lp:Int) (l8:Bool) (l9:Int) (ma:Bool) (mb:Int) (mc:Bool) (md:Int) (me:Bool) (Qn : VS -> Prop) (Q : Exit -> VS -> Prop) : vwp tab (bC adR) (fun _ _ _ => False) 0 (Vd (dA (aF Tryz.f334) 0)) (⟨zo [20, 21] [AV.agg [AV.int .i64 ((gX iw ii ik) j0), AV.int .i64 ((dJ iw ii ik) j0)], AV.agg [AV.int .i64 ((gX iw ii ik) (nxE (dB iw ii ik) j0)), AV.int .i64 ((dJ iw ii ik) (nxE (dB iw ii ik) j0))]] (wH iw ii ik ic ie il io kw kx ln lp l8 l9 ma mb mc md me).tmps, (wH iw ii ik ic ie il io kw kx ln lp l8 l9 ma mb mc md me).mem, false, 7⟩) (H8 fun s1 => vwp tab (bC adR) (fun _ _ _ => False) 0 (gY (dA (aF Tryz.f334) 0)) s1 (RP (wH iw ii ik ic ie il io kw kx ln lp l8 l9 ma mb mc md me).tmps 0 [1, 2, 3, 4, 5, 6] 7 Qn Q)) = Jr iw ii ik ic ie il io j0 kw kx ln lp l8 l9 ma mb mc md me (fun w0 w1 w2 w3 w4 w5 w6 w7 w8 w9 w10 => Qn (wH iw ii ik ic ie il io w0 w1 w2 w3 w4 w5 w6 w7 w8 w9 w10)) (fun o0 o1 o2 o3 o4 o5 o6 o7 o8 o9 kv => Q .ret (D7 iw ii ik ic ie il io o0 o1 o2 o3 o4 o5 o6 o7 o8 o9 kv))  := by kernel_rfl
theorem ank {X : Cx} (hX : Std Tryz.prog tab (bC adR) X) (hrho : X.ρ = none) (b : Code) (hb : b = aF Tryz.f334) (iw:Nat) (ii ik:Nat -> Int) (ic ie il io kw kx ln lp:Int) (l8:Bool) (l9:Int) (ma:Bool) (mb:Int) (mc:Bool) (md:Int) (me:Bool) (Q : Exit -> VS -> Prop) (h : DL iw ii ik ic ie il io /\ zi iw ii ik ic ie il io (DK iw ii ik ic ie il io) 0 kw kx ln lp l8 l9 ma mb mc md me (fun o0 o1 o2 o3 o4 o5 o6 o7 o8 o9 kv => Q .normal (Bv iw ii ik ic ie il io o0 o1 o2 o3 o4 o5 o6 o7 o8 o9 kv)) (fun o0 o1 o2 o3 o4 o5 o6 o7 o8 o9 kv => Q .ret (D7 iw ii ik ic ie il io o0 o1 o2 o3 o4 o5 o6 o7 o8 o9 kv))) : TrK X b 0 (wH iw ii ik ic ie il io kw kx ln lp l8 l9 ma mb mc md me) Q := by
  subst hb
  have hit : BI X.P 225 Gv := by rw [hX.P]; exact JC
  have hb2 : dA (aF Tryz.f334) 0 = .rangeFunc (.tmp 19) #[20, 21] (Vd (dA (aF Tryz.f334) 0)) (gY (dA (aF Tryz.f334) 0)) := by kernel_rfl
  refine aeL hrho hb2 (V := Int × Int × Int × Int × Bool × Int × Bool × Int × Bool × Int × Bool) (fun v => wH iw ii ik ic ie il io v.1 v.2.1 v.2.2.1 v.2.2.2.1 v.2.2.2.2.1 v.2.2.2.2.2.1 v.2.2.2.2.2.2.1 v.2.2.2.2.2.2.2.1 v.2.2.2.2.2.2.2.2.1 v.2.2.2.2.2.2.2.2.2.1 v.2.2.2.2.2.2.2.2.2.2) (t := (wH iw ii ik ic ie il io kw kx ln lp l8 l9 ma mb mc md me).tmps) (pn := 0) (nm := 7) (ms := [1, 2, 3, 4, 5, 6]) (fun v => ⟨rfl, rfl, rfl, rfl⟩) hit (kw, kx, ln, lp, l8, l9, ma, mb, mc, md, me) rfl rfl (N := DK iw ii ik ic ie il io) (args := fun j0 => [AV.agg [AV.int .i64 ((gX iw ii ik) j0), AV.int .i64 ((dJ iw ii ik) j0)], AV.agg [AV.int .i64 ((gX iw ii ik) (nxE (dB iw ii ik) j0)), AV.int .i64 ((dJ iw ii ik) (nxE (dB iw ii ik) j0))]]) (p := DL iw ii ik ic ie il io) rfl h.1 (fun _ => rfl) (fun r j v => zi iw ii ik ic ie il io r j v.1 v.2.1 v.2.2.1 v.2.2.2.1 v.2.2.2.2.1 v.2.2.2.2.2.1 v.2.2.2.2.2.2.1 v.2.2.2.2.2.2.2.1 v.2.2.2.2.2.2.2.2.1 v.2.2.2.2.2.2.2.2.2.1 v.2.2.2.2.2.2.2.2.2.2 (fun o0 o1 o2 o3 o4 o5 o6 o7 o8 o9 kv => Q .normal (Bv iw ii ik ic ie il io o0 o1 o2 o3 o4 o5 o6 o7 o8 o9 kv)) (fun o0 o1 o2 o3 o4 o5 o6 o7 o8 o9 kv => Q .ret (D7 iw ii ik ic ie il io o0 o1 o2 o3 o4 o5 o6 o7 o8 o9 kv))) (fun r j v hv => ?_) (fun j v hv => ?_) h.2
  . refine Qq hX (c1 := (Vd (dA (aF Tryz.f334) 0))) (c2 := (gY (dA (aF Tryz.f334) 0))) rfl rfl (tr := (fun _ _ _ => False)) (fun _ _ _ _ _ h => h.elim) ?_
    refine Eq.mpr (anj iw ii ik ic ie il io j v.1 v.2.1 v.2.2.1 v.2.2.2.1 v.2.2.2.2.1 v.2.2.2.2.2.1 v.2.2.2.2.2.2.1 v.2.2.2.2.2.2.2.1 v.2.2.2.2.2.2.2.2.1 v.2.2.2.2.2.2.2.2.2.1 v.2.2.2.2.2.2.2.2.2.2 _ _) ?_
    exact acs iw ii ik ic ie il io j v.1 v.2.1 v.2.2.1 v.2.2.2.1 v.2.2.2.2.1 v.2.2.2.2.2.1 v.2.2.2.2.2.2.1 v.2.2.2.2.2.2.2.1 v.2.2.2.2.2.2.2.2.1 v.2.2.2.2.2.2.2.2.2.1 v.2.2.2.2.2.2.2.2.2.2 (fun w0 w1 w2 w3 w4 w5 w6 w7 w8 w9 w10 h => ⟨(w0, w1, w2, w3, w4, w5, w6, w7, w8, w9, w10), rfl, h⟩) (fun _ _ _ _ _ _ _ _ _ _ _ h => h) hv
  . exact hv
def ahY (iw:Nat) (ii ik:Nat -> Int) (ic ie il io:Int) (k:Nat) (st : VS) (Q : Exit -> VS -> Prop) : Prop := match k with
  | 0 => TL [4, 5, 6, 7, 8, 9, 19] [1, 2, 3, 4, 5, 6] 7 (convs st []) (fun st => wH iw ii ik ic ie il io (intOf (mAt st 4 0)) (intOf (mAt st 4 1)) (intOf (mAt st 5 0)) (intOf (mAt st 5 1)) (gV (mAt st 6 0)) (intOf (mAt st 6 1)) (gV (mAt st 6 2)) (intOf (mAt st 6 3)) (gV (mAt st 6 4)) (intOf (mAt st 6 5)) (gV (mAt st 6 6))) (fun st => DL iw ii ik ic ie il io  /\ zi iw ii ik ic ie il io  (DK iw ii ik ic ie il io ) 0 (intOf (mAt st 4 0)) (intOf (mAt st 4 1)) (intOf (mAt st 5 0)) (intOf (mAt st 5 1)) (gV (mAt st 6 0)) (intOf (mAt st 6 1)) (gV (mAt st 6 2)) (intOf (mAt st 6 3)) (gV (mAt st 6 4)) (intOf (mAt st 6 5)) (gV (mAt st 6 6)) (fun o0 o1 o2 o3 o4 o5 o6 o7 o8 o9 kv => Q .normal (Bv iw ii ik ic ie il io  o0 o1 o2 o3 o4 o5 o6 o7 o8 o9 kv)) (fun o0 o1 o2 o3 o4 o5 o6 o7 o8 o9 kv => Q .ret (D7 iw ii ik ic ie il io  o0 o1 o2 o3 o4 o5 o6 o7 o8 o9 kv)))
  | _ => False
theorem ap1 {X : Cx} (hX : Std Tryz.prog tab (bC adR) X) (hrho : X.ρ = none) (b : Code) (hb : b = aF Tryz.f334) (iw:Nat) (ii ik:Nat -> Int) (ic ie il io:Int) (j:Nat) (st : VS) (Q : Exit -> VS -> Prop) (h : ahY iw ii ik ic ie il io j st Q) : TrK X b j st Q := by
  unfold ahY at h
  split at h
  . exact lF h (fun h' => ank hX hrho b hb iw ii ik ic ie il io _ _ _ _ _ _ _ _ _ _ _ Q h')
  . exact h.elim
def aga (iw:Nat) (ii ik:Nat -> Int) (ic ie il io:Int) : List AV := [AV.agg [AV.rs none iw [CF.I .i64 ii, CF.I .i64 ik]], AV.agg [AV.int .i64 ic, AV.int .i64 ie], AV.agg [AV.int .i64 il, AV.int .i64 io]]
theorem avV (iw:Nat) (ii ik:Nat -> Int) (ic ie il io:Int) (K : AV -> Prop) : vwp tab (bC adR) (ahY iw ii ik ic ie il io) 0 (aF Tryz.f334) (entry (aga iw ii ik ic ie il io) 82) (aV tab [.cell 6 81] fun v s => K (v.frz s.mem)) = adL iw ii ik ic ie il io (fun r0 r1 r2 r3 r4 r5 r6 => K (AV.agg [AV.bool r0, AV.int .i64 r1, AV.bool r2, AV.int .i64 r3, AV.bool r4, AV.int .i64 r5, AV.bool r6])) (fun p0 p1 p2 p3 p4 p5 p6 p7 p8 p9 p10 y0 y1 => wH iw ii ik ic ie il io  p0 p1 p2 p3 p4 p5 p6 p7 p8 p9 p10 = wH iw ii ik ic ie il io  p0 p1 p2 p3 p4 p5 p6 p7 p8 p9 p10 /\ DL iw ii ik ic ie il io  /\ zi iw ii ik ic ie il io  (DK iw ii ik ic ie il io ) 0 p0 p1 p2 p3 p4 p5 p6 p7 p8 p9 p10 y0 y1) := by kernel_rfl
theorem ap2 (iw:Nat) (ii ik:Nat -> Int) (ic ie il io:Int) {K0 : Bool -> Int -> Bool -> Int -> Bool -> Int -> Bool -> Prop} : adL iw ii ik ic ie il io K0 (fun p0 p1 p2 p3 p4 p5 p6 p7 p8 p9 p10 y0 y1 => DL iw ii ik ic ie il io  /\ zi iw ii ik ic ie il io  (DK iw ii ik ic ie il io ) 0 p0 p1 p2 p3 p4 p5 p6 p7 p8 p9 p10 y0 y1) -> adL iw ii ik ic ie il io K0 (fun p0 p1 p2 p3 p4 p5 p6 p7 p8 p9 p10 y0 y1 => wH iw ii ik ic ie il io  p0 p1 p2 p3 p4 p5 p6 p7 p8 p9 p10 = wH iw ii ik ic ie il io  p0 p1 p2 p3 p4 p5 p6 p7 p8 p9 p10 /\ DL iw ii ik ic ie il io  /\ zi iw ii ik ic ie il io  (DK iw ii ik ic ie il io ) 0 p0 p1 p2 p3 p4 p5 p6 p7 p8 p9 p10 y0 y1) := by
  unfold adL
  repeat' first
    | exact id
    | refine dU ?_
    | refine cO ?_ ?_
    | refine cZ ?_
    | refine fun h => ⟨rfl, h.1, acu _ _ _ _ _ _ _  (fun _ _ _ _ _ _ _ _ _ _ _ => ?_) (fun _ _ _ _ _ _ _ _ _ _ _ => ?_) _ _ _ _ _ _ _ _ _ _ _ _ _  h.2⟩
def anl : List AV -> Option (Prop × RT)
  | [AV.agg [AV.rs sq0 sn0 sc0], AV.agg [AV.int .i64 ic, AV.int .i64 ie], AV.agg [AV.int .i64 il, AV.int .i64 io]] => cond (fG [KC.I .i64, KC.I .i64] sc0) (some (afW (nOf sn0 sc0) (aA sc0 0) (aA sc0 1) ic ie il io, RT.leaf (AV.agg [AV.bool (SV (nOf sn0 sc0) (aA sc0 0) (aA sc0 1) ic ie il io), AV.int .i64 (SX (nOf sn0 sc0) (aA sc0 0) (aA sc0 1) ic ie il io), AV.bool (SY (nOf sn0 sc0) (aA sc0 0) (aA sc0 1) ic ie il io), AV.int .i64 (S9 (nOf sn0 sc0) (aA sc0 0) (aA sc0 1) ic ie il io), AV.bool (Tc (nOf sn0 sc0) (aA sc0 0) (aA sc0 1) ic ie il io), AV.int .i64 (Td (nOf sn0 sc0) (aA sc0 0) (aA sc0 1) ic ie il io), AV.bool (Tf (nOf sn0 sc0) (aA sc0 0) (aA sc0 1) ic ie il io)]))) none
  | _ => none
theorem avW : aU Tryz.prog 334 (.pure anl) := by
 intro xs p r h hp E w vs hr hv; unfold anl at h; split at h
 . rename_i sq0 sn0 sc0 ic ie il io
   obtain ⟨hk0, h⟩ := dW h
   obtain ⟨rfl, rfl⟩ := aG h
   have hG := (show aO Tryz.prog adR from ⟨ayD, apg, ajU, asT, azk, trivial⟩)
   have hv' := ((AV.les.cons (AV.le.agg (AV.les.cons (AV.le.rs hk0) AV.les.nil)) (AV.les.cons (AV.le.refl _) (AV.les.cons (AV.le.refl _) AV.les.nil))) _ _ hv : VRs E.bare (aga (nOf sn0 sc0) (aA sc0 0) (aA sc0 1) ic ie il io) vs)
   refine eF (c := aF Tryz.f334) (rs := [.cell 6 81]) (ys := aga (nOf sn0 sc0) (aA sc0 0) (aA sc0 1) ic ie il io) aX (gB hG) Tryz.func334 rfl (by kernel_rfl) rfl (by decide) (fun X hX hrho => ?_) E w vs hr hv'
   rw [Tryz.ntmps334]
   refine dG hX rfl (tr := ahY (nOf sn0 sc0) (aA sc0 0) (aA sc0 1) ic ie il io) (fun j st Q h => ap1 hX hrho _ rfl (nOf sn0 sc0) (aA sc0 0) (aA sc0 1) ic ie il io j st Q h) (Eq.mpr (avV (nOf sn0 sc0) (aA sc0 0) (aA sc0 1) ic ie il io (fun x => x = _)) ?_)
   exact ap2 (nOf sn0 sc0) (aA sc0 0) (aA sc0 1) ic ie il io (avM (nOf sn0 sc0) (aA sc0 0) (aA sc0 1) ic ie il io hp rfl)
 . cases h
def ap3 : List (Nat × Ag.Spec) := [(74, .pure apn), (105, .pure Z4), (162, .pure apr), (329, .pure agm), (330, .pure apu), (334, .pure anl)]
def agb (cm im ip ij:Int) (i6:Nat) (i7 i8:Nat -> Int) (ic ie il io:Int) : List AV := [AV.agg [AV.int .i64 cm, AV.int .i64 im, AV.int .i64 ip, AV.int .i64 ij, AV.rs none i6 [CF.I .i64 i7, CF.I .i64 i8]], AV.agg [AV.int .i64 ic, AV.int .i64 ie], AV.agg [AV.int .i64 il, AV.int .i64 io]]
theorem avX (cm im ip ij:Int) (i6:Nat) (i7 i8:Nat -> Int) (ic ie il io:Int) (K : AV -> Prop) : vwp tab (bC ap3) (fun _ _ _ => False) 0 (aF Tryz.f40) (entry (agb cm im ip ij i6 i7 i8 ic ie il io) 30) (aV tab [.cell 6 81] fun v s => K (v.frz s.mem)) = am7 cm im ip ij i6 i7 i8 ic ie il io (fun r0 r1 r2 r3 r4 r5 r6 => K (AV.agg [AV.bool r0, AV.int .i64 r1, AV.bool r2, AV.int .i64 r3, AV.bool r4, AV.int .i64 r5, AV.bool r6]))  := by kernel_rfl
def ahZ : List AV -> Option (Prop × RT)
  | [AV.agg [AV.int .i64 cm, AV.int .i64 im, AV.int .i64 ip, AV.int .i64 ij, AV.rs sq0 sn0 sc0], AV.agg [AV.int .i64 ic, AV.int .i64 ie], AV.agg [AV.int .i64 il, AV.int .i64 io]] => cond (fG [KC.I .i64, KC.I .i64] sc0) (some (NW cm im ip ij (nOf sn0 sc0) (aA sc0 0) (aA sc0 1) ic ie il io, RT.leaf (AV.agg [AV.bool (oL cm im ip ij (nOf sn0 sc0) (aA sc0 0) (aA sc0 1) ic ie il io), AV.int .i64 (jZ cm im ip ij (nOf sn0 sc0) (aA sc0 0) (aA sc0 1) ic ie il io), AV.bool (rJ cm im ip ij (nOf sn0 sc0) (aA sc0 0) (aA sc0 1) ic ie il io), AV.int .i64 (wB cm im ip ij (nOf sn0 sc0) (aA sc0 0) (aA sc0 1) ic ie il io), AV.bool (wC cm im ip ij (nOf sn0 sc0) (aA sc0 0) (aA sc0 1) ic ie il io), AV.int .i64 (wE cm im ip ij (nOf sn0 sc0) (aA sc0 0) (aA sc0 1) ic ie il io), AV.bool (wF cm im ip ij (nOf sn0 sc0) (aA sc0 0) (aA sc0 1) ic ie il io)]))) none
  | _ => none
theorem ap4 : aU Tryz.prog 40 (.pure ahZ) := by
 intro xs p r h hp E w vs hr hv; unfold ahZ at h; split at h
 . rename_i cm im ip ij sq0 sn0 sc0 ic ie il io
   obtain ⟨hk0, h⟩ := dW h
   obtain ⟨rfl, rfl⟩ := aG h
   exact dF (ys := agb cm im ip ij (nOf sn0 sc0) (aA sc0 0) (aA sc0 1) ic ie il io) (rs := [.cell 6 81]) aX (show aO Tryz.prog ap3 from ⟨ay0, ag6, ay2, anU, aza, avW, trivial⟩) Tryz.func40 rfl (by kernel_rfl) rfl (by decide) Tryz.ntmps40 (avX cm im ip ij (nOf sn0 sc0) (aA sc0 0) (aA sc0 1) ic ie il io) (avN cm im ip ij (nOf sn0 sc0) (aA sc0 0) (aA sc0 1) ic ie il io hp rfl) E w vs hr ((AV.les.cons (AV.le.agg (AV.les.cons (AV.le.refl _) (AV.les.cons (AV.le.refl _) (AV.les.cons (AV.le.refl _) (AV.les.cons (AV.le.refl _) (AV.les.cons (AV.le.rs hk0) AV.les.nil)))))) (AV.les.cons (AV.le.refl _) (AV.les.cons (AV.le.refl _) AV.les.nil))) _ _ hv : VRs E.bare (agb cm im ip ij (nOf sn0 sc0) (aA sc0 0) (aA sc0 1) ic ie il io) vs)
 . cases h














def ara : List (Nat × Ag.Spec) := [(59, .pure aor)]
def akA (cm:Int) (ge:Bool) : List AV := [AV.agg [AV.int .i64 cm, AV.bool ge]]
theorem axd (cm:Int) (ge:Bool) (K : AV -> Prop) : vwp tab (bC ara) (fun _ _ _ => False) 0 (aF Tryz.f101) (entry (akA cm ge) 12) (aV tab [.tmp 2] fun v s => K (v.frz s.mem)) = aoh cm ge (fun r0 => K (AV.bool r0))  := by kernel_rfl
def aoi : List AV -> Option (Prop × RT)
  | [AV.agg [AV.int .i64 cm, AV.bool ge]] => some (apU cm ge, RT.leaf (AV.bool (Wu cm ge)))
  | _ => none
theorem axe : aU Tryz.prog 101 (.pure aoi) := by
 intro xs p r h hp E w vs hr hv; unfold aoi at h; split at h
 . rename_i cm ge
   obtain ⟨rfl, rfl⟩ := aG h
   exact dF (ys := akA cm ge) (rs := [.tmp 2]) aX (show aO Tryz.prog ara from ⟨axy, trivial⟩) Tryz.func101 rfl (by kernel_rfl) rfl (by decide) Tryz.ntmps101 (axd cm ge) (aw9 cm ge hp rfl) E w vs hr hv
 . cases h
def asU : List (Nat × Ag.Spec) := [(64, .pure aij), (65, .pure aiN), (66, .pure aif)]
def akI (ii:Int) (ik:Bool) (im:Int) (ip:Bool) : List AV := [AV.agg [AV.int .i64 ii, AV.bool ik, AV.int .i64 im, AV.bool ip]]
theorem ayI (ii:Int) (ik:Bool) (im:Int) (ip:Bool) (K : AV -> Prop) : vwp tab (bC asU) (fun _ _ _ => False) 0 (aF Tryz.f102) (entry (akI ii ik im ip) 16) (aV tab [.cell 2 32] fun v s => K (v.frz s.mem)) = amM ii ik im ip (fun r0 r1 => K (AV.agg [AV.int .i64 r0, AV.int .i64 r1]))  := by kernel_rfl
def apc : List AV -> Option (Prop × RT)
  | [AV.agg [AV.int .i64 ii, AV.bool ik, AV.int .i64 im, AV.bool ip]] => some (afQ ii ik im ip, RT.leaf (AV.agg [AV.int .i64 (Ji ii ik im ip), AV.int .i64 (Jj ii ik im ip)]))
  | _ => none
theorem ayJ : aU Tryz.prog 102 (.pure apc) := by
 intro xs p r h hp E w vs hr hv; unfold apc at h; split at h
 . rename_i ii ik im ip
   obtain ⟨rfl, rfl⟩ := aG h
   exact dF (ys := akI ii ik im ip) (rs := [.cell 2 32]) aX (show aO Tryz.prog asU from ⟨aqV, arZ, aqQ, trivial⟩) Tryz.func102 rfl (by kernel_rfl) rfl (by decide) Tryz.ntmps102 (ayI ii ik im ip) (avr ii ik im ip hp rfl) E w vs hr hv
 . cases h
def agc : List (Nat × Ag.Spec) := [(44, .pure aoR), (99, .pure aiV), (100, .pure ao0), (101, .pure aoi), (102, .pure apc), (103, .pure apT), (104, .pure aoC)]
def D8 (cm ge ij iq:Int) (iy:Nat) (iz i5:Nat -> Int) (ju:Int) (jv:Bool) (jx:Int) (jy:Bool) (j6:Int) (j7:Bool) (j8:Int) (j9:Bool) (jq:Int) (oc:Bool) (na:Nat) (nz n4 : (Nat -> Int)) : VS := ⟨dD 67 0 [(3, AV.ptr false 1 0 0), (4, AV.ptr false 2 0 0), (5, AV.int .i64 0), (7, AV.ptr false 3 0 0), (8, AV.rs none (lX cm ge ij iq iy iz i5) [CF.I .i64 (bH cm ge ij iq iy iz i5), CF.I .i64 (bI cm ge ij iq iy iz i5)]), (9, AV.int .i64 jq)], [.gone, .one true 70 [AV.int .i64 ju, AV.bool jv, AV.int .i64 jx, AV.bool jy, AV.int .i64 j6, AV.bool j7, AV.int .i64 j8, AV.bool j9], .one true 35 [AV.int .i64 0, AV.int .i64 0, AV.int .i64 0, AV.int .i64 0, AV.nils], .one true 35 [AV.int .i64 2, AV.int .i64 (Ji ju jv jx jy), AV.int .i64 (Jj ju jv jx jy), AV.int .i64 0, AV.sl (some oc) 4 na 2], .many true 32 na [CF.I .i64 nz, CF.I .i64 n4]], false, 0⟩
def wU (cm ge ij iq:Int) (iy:Nat) (iz i5:Nat -> Int) (ju:Int) (jv:Bool) (jx:Int) (jy:Bool) (j6:Int) (j7:Bool) (j8:Int) (j9:Bool) (o0:Int) (o1:Bool) (o2:Nat) (o3 o4 : (Nat -> Int)) : VS := ⟨dD 67 0 [(3, AV.ptr false 1 0 0), (4, AV.ptr false 2 0 0), (5, AV.int .i64 0), (7, AV.ptr false 3 0 0), (8, AV.rs none (lX cm ge ij iq iy iz i5) [CF.I .i64 (bH cm ge ij iq iy iz i5), CF.I .i64 (bI cm ge ij iq iy iz i5)]), (9, AV.int .i64 o0)], [.gone, .one true 70 [AV.int .i64 ju, AV.bool jv, AV.int .i64 jx, AV.bool jy, AV.int .i64 j6, AV.bool j7, AV.int .i64 j8, AV.bool j9], .one true 35 [AV.int .i64 0, AV.int .i64 0, AV.int .i64 0, AV.int .i64 0, AV.nils], .one true 35 [AV.int .i64 2, AV.int .i64 (Ji ju jv jx jy), AV.int .i64 (Jj ju jv jx jy), AV.int .i64 0, AV.sl (some o1) 4 o2 2], .many true 32 o2 [CF.I .i64 o3, CF.I .i64 o4]], false, 0⟩
theorem anp (cm ge ij iq:Int) (iy:Nat) (iz i5:Nat -> Int) (ju:Int) (jv:Bool) (jx:Int) (jy:Bool) (j6:Int) (j7:Bool) (j8:Int) (j9:Bool) (jq:Int) (oc:Bool) (na:Nat) (nz n4 : (Nat -> Int)) (Q : Exit -> VS -> Prop) : vwp tab (bC agc) (fun _ _ _ => False) 0 (gY (dA (aF Tryz.f35) 0)) (D8 cm ge ij iq iy iz i5 ju jv jx jy j6 j7 j8 j9 jq oc na nz n4) (QM [3, 4, 5, 7, 8, 9] [1, 2, 3, 4] 5 Q) = Jt cm ge ij iq iy iz i5 ju jv jx jy j6 j7 j8 j9 jq oc na nz n4 (fun w0 w1 w2 w3 w4 => Q .normal (D8 cm ge ij iq iy iz i5 ju jv jx jy j6 j7 j8 j9 w0 w1 w2 w3 w4)) (fun o0 o1 o2 o3 o4 => Q (.exit 0) (wU cm ge ij iq iy iz i5 ju jv jx jy j6 j7 j8 j9 o0 o1 o2 o3 o4))  := by kernel_rfl
theorem anq {X : Cx} (hX : Std Tryz.prog tab (bC agc) X) (b : Code) (hb : b = aF Tryz.f35) (cm ge ij iq:Int) (iy:Nat) (iz i5:Nat -> Int) (ju:Int) (jv:Bool) (jx:Int) (jy:Bool) (j6:Int) (j7:Bool) (j8:Int) (j9:Bool) (fu:Nat) (jq:Int) (oc:Bool) (na:Nat) (nz n4 : (Nat -> Int)) (Q : Exit -> VS -> Prop) (h : zk cm ge ij iq iy iz i5 ju jv jx jy j6 j7 j8 j9 fu jq oc na nz n4 (fun o0 o1 o2 o3 o4 => Q (.exit 0) (wU cm ge ij iq iy iz i5 ju jv jx jy j6 j7 j8 j9 o0 o1 o2 o3 o4))) : TrK X b 0 (D8 cm ge ij iq iy iz i5 ju jv jx jy j6 j7 j8 j9 jq oc na nz n4) Q := by
  subst hb
  refine iF (V := Int × Bool × Nat × (Nat -> Int) × (Nat -> Int)) (fun v => D8 cm ge ij iq iy iz i5 ju jv jx jy j6 j7 j8 j9 v.1 v.2.1 v.2.2.1 v.2.2.2.1 v.2.2.2.2) (fun f v => zk cm ge ij iq iy iz i5 ju jv jx jy j6 j7 j8 j9 f v.1 v.2.1 v.2.2.1 v.2.2.2.1 v.2.2.2.2 (fun o0 o1 o2 o3 o4 => Q (.exit 0) (wU cm ge ij iq iy iz i5 ju jv jx jy j6 j7 j8 j9 o0 o1 o2 o3 o4))) (fun _ h => h) (by kernel_rfl) (fun f v hv => ?_) (fuel := fu) (v0 := (jq, oc, na, nz, n4)) h
  refine mO (bs := [3, 4, 5, 7, 8, 9]) (ms := [1, 2, 3, 4]) (nm := 5) ?_
  refine dG hX rfl (tr := (fun _ _ _ => False)) (fun _ _ _ h => h.elim) ?_
  refine Eq.mpr (anp cm ge ij iq iy iz i5 ju jv jx jy j6 j7 j8 j9 v.1 v.2.1 v.2.2.1 v.2.2.2.1 v.2.2.2.2 _) ?_
  exact acz cm ge ij iq iy iz i5 ju jv jx jy j6 j7 j8 j9 v.1 v.2.1 v.2.2.1 v.2.2.2.1 v.2.2.2.2 (fun w0 w1 w2 w3 w4 h => ⟨(w0, w1, w2, w3, w4), rfl, h⟩) (fun _ _ _ _ _ h => h) hv
def ah0 (cm ge ij iq:Int) (iy:Nat) (iz i5:Nat -> Int) (ju:Int) (jv:Bool) (jx:Int) (jy:Bool) (j6:Int) (j7:Bool) (j8:Int) (j9:Bool) (k:Nat) (st : VS) (Q : Exit -> VS -> Prop) : Prop := match k with
  | 0 => TL [3, 4, 5, 7, 8, 9] [1, 2, 3, 4] 5 (convs st [⟨.m 3 4, 32, [CF.I .i64 (fun _ => 0), CF.I .i64 (fun _ => 0)]⟩]) (fun st => D8 cm ge ij iq iy iz i5 ju jv jx jy j6 j7 j8 j9 (intOf (tAt st 9)) (qAV (mAt st 3 4)) (nAB (fK st 4)) (aA (cAB (fK st 4)) 0) (aA (cAB (fK st 4)) 1)) (fun st => zk cm ge ij iq iy iz i5 ju jv jx jy j6 j7 j8 j9 fuel (intOf (tAt st 9)) (qAV (mAt st 3 4)) (nAB (fK st 4)) (aA (cAB (fK st 4)) 0) (aA (cAB (fK st 4)) 1) (fun o0 o1 o2 o3 o4 => Q (.exit 0) (wU cm ge ij iq iy iz i5 ju jv jx jy j6 j7 j8 j9 o0 o1 o2 o3 o4)))
  | _ => False
theorem ap7 {X : Cx} (hX : Std Tryz.prog tab (bC agc) X) (b : Code) (hb : b = aF Tryz.f35) (cm ge ij iq:Int) (iy:Nat) (iz i5:Nat -> Int) (ju:Int) (jv:Bool) (jx:Int) (jy:Bool) (j6:Int) (j7:Bool) (j8:Int) (j9:Bool) (j:Nat) (st : VS) (Q : Exit -> VS -> Prop) (h : ah0 cm ge ij iq iy iz i5 ju jv jx jy j6 j7 j8 j9 j st Q) : TrK X b j st Q := by
  unfold ah0 at h
  split at h
  . exact lF h (fun h' => anq hX b hb cm ge ij iq iy iz i5 ju jv jx jy j6 j7 j8 j9 _ _ _ _ _ _ Q h')
  . exact h.elim
def agd (cm ge ij iq:Int) (iy:Nat) (iz i5:Nat -> Int) (ju:Int) (jv:Bool) (jx:Int) (jy:Bool) (j6:Int) (j7:Bool) (j8:Int) (j9:Bool) : List AV := [AV.agg [AV.int .i64 cm, AV.int .i64 ge, AV.int .i64 ij, AV.int .i64 iq, AV.rs none iy [CF.I .i64 iz, CF.I .i64 i5]], AV.agg [AV.int .i64 ju, AV.bool jv, AV.int .i64 jx, AV.bool jy, AV.int .i64 j6, AV.bool j7, AV.int .i64 j8, AV.bool j9]]
def ajl : AV := AV.tup [AV.agg [AV.int .i64 0, AV.int .i64 0, AV.int .i64 0, AV.int .i64 0, AV.rs none 0 [CF.I .i64 (fun _ => 0), CF.I .i64 (fun _ => 0)]], AV.int .i64 0]
theorem av3 (cm ge ij iq:Int) (iy:Nat) (iz i5:Nat -> Int) (ju:Int) (jv:Bool) (jx:Int) (jy:Bool) (j6:Int) (j7:Bool) (j8:Int) (j9:Bool) (K : AV -> Prop) : vwp tab (bC agc) (ah0 cm ge ij iq iy iz i5 ju jv jx jy j6 j7 j8 j9) 0 (aF Tryz.f35) (entry (agd cm ge ij iq iy iz i5 ju jv jx jy j6 j7 j8 j9) 67) (aV tab [.cell 4 35, .tmp 5] fun v s => K (AV.pad ajl (v.frz s.mem))) = adP cm ge ij iq iy iz i5 ju jv jx jy j6 j7 j8 j9 (fun r0 r1 r2 r3 r4 r5 r6 r7 => K (AV.tup [AV.agg [AV.int .i64 r0, AV.int .i64 r1, AV.int .i64 r2, AV.int .i64 r3, AV.rs none r4 [CF.I .i64 r5, CF.I .i64 r6]], AV.int .i64 r7])) (fun p0 p1 p2 p3 p4 y0 => D8 cm ge ij iq iy iz i5 ju jv jx jy j6 j7 j8 j9 p0 p1 p2 p3 p4 = D8 cm ge ij iq iy iz i5 ju jv jx jy j6 j7 j8 j9 p0 p1 p2 p3 p4 /\ zk cm ge ij iq iy iz i5 ju jv jx jy j6 j7 j8 j9 fuel p0 p1 p2 p3 p4 y0) := by kernel_rfl
theorem ap8 (cm ge ij iq:Int) (iy:Nat) (iz i5:Nat -> Int) (ju:Int) (jv:Bool) (jx:Int) (jy:Bool) (j6:Int) (j7:Bool) (j8:Int) (j9:Bool) {K0 : Int -> Int -> Int -> Int -> Nat -> (Nat -> Int) -> (Nat -> Int) -> Int -> Prop} : adP cm ge ij iq iy iz i5 ju jv jx jy j6 j7 j8 j9 K0 (zk cm ge ij iq iy iz i5 ju jv jx jy j6 j7 j8 j9 fuel) -> adP cm ge ij iq iy iz i5 ju jv jx jy j6 j7 j8 j9 K0 (fun p0 p1 p2 p3 p4 y0 => D8 cm ge ij iq iy iz i5 ju jv jx jy j6 j7 j8 j9 p0 p1 p2 p3 p4 = D8 cm ge ij iq iy iz i5 ju jv jx jy j6 j7 j8 j9 p0 p1 p2 p3 p4 /\ zk cm ge ij iq iy iz i5 ju jv jx jy j6 j7 j8 j9 fuel p0 p1 p2 p3 p4 y0) := by
  unfold adP
  repeat' first
    | exact id
    | refine dU ?_
    | refine cO ?_ ?_
    | refine cZ ?_
    | refine fun h => ⟨rfl, acA _ _ _ _ _ _ _ _ _ _ _ _ _ _ _  (fun _ _ _ _ _ => ?_) _ _ _ _ _ _  h⟩
def anr : List AV -> Option (Prop × RT)
  | [AV.agg [AV.int .i64 cm, AV.int .i64 ge, AV.int .i64 ij, AV.int .i64 iq, AV.rs sq0 sn0 sc0], AV.agg [AV.int .i64 ju, AV.bool jv, AV.int .i64 jx, AV.bool jy, AV.int .i64 j6, AV.bool j7, AV.int .i64 j8, AV.bool j9]] => cond (fG [KC.I .i64, KC.I .i64] sc0) (some (ZR cm ge ij iq (nOf sn0 sc0) (aA sc0 0) (aA sc0 1) ju jv jx jy j6 j7 j8 j9, RT.leaf (AV.tup [AV.agg [AV.int .i64 (Ju cm ge ij iq (nOf sn0 sc0) (aA sc0 0) (aA sc0 1) ju jv jx jy j6 j7 j8 j9), AV.int .i64 (Jv cm ge ij iq (nOf sn0 sc0) (aA sc0 0) (aA sc0 1) ju jv jx jy j6 j7 j8 j9), AV.int .i64 (Jw cm ge ij iq (nOf sn0 sc0) (aA sc0 0) (aA sc0 1) ju jv jx jy j6 j7 j8 j9), AV.int .i64 (Jy cm ge ij iq (nOf sn0 sc0) (aA sc0 0) (aA sc0 1) ju jv jx jy j6 j7 j8 j9), AV.rs none (Jz cm ge ij iq (nOf sn0 sc0) (aA sc0 0) (aA sc0 1) ju jv jx jy j6 j7 j8 j9) [CF.I .i64 (JA cm ge ij iq (nOf sn0 sc0) (aA sc0 0) (aA sc0 1) ju jv jx jy j6 j7 j8 j9), CF.I .i64 (JB cm ge ij iq (nOf sn0 sc0) (aA sc0 0) (aA sc0 1) ju jv jx jy j6 j7 j8 j9)]], AV.int .i64 (ZT cm ge ij iq (nOf sn0 sc0) (aA sc0 0) (aA sc0 1) ju jv jx jy j6 j7 j8 j9)]))) none
  | _ => none
theorem av4 : aU Tryz.prog 35 (.pure anr) := by
 intro xs p r h hp E w vs hr hv; unfold anr at h; split at h
 . rename_i cm ge ij iq sq0 sn0 sc0 ju jv jx jy j6 j7 j8 j9
   obtain ⟨hk0, h⟩ := dW h
   obtain ⟨rfl, rfl⟩ := aG h
   have hG := (show aO Tryz.prog agc from ⟨ayb, asr, ayq, axe, ayJ, ayQ, axS, trivial⟩)
   have hv' := ((AV.les.cons (AV.le.agg (AV.les.cons (AV.le.refl _) (AV.les.cons (AV.le.refl _) (AV.les.cons (AV.le.refl _) (AV.les.cons (AV.le.refl _) (AV.les.cons (AV.le.rs hk0) AV.les.nil)))))) (AV.les.cons (AV.le.refl _) AV.les.nil)) _ _ hv : VRs E.bare (agd cm ge ij iq (nOf sn0 sc0) (aA sc0 0) (aA sc0 1) ju jv jx jy j6 j7 j8 j9) vs)
   refine Ai (sh := ajl) (c := aF Tryz.f35) (rs := [.cell 4 35, .tmp 5]) (ys := agd cm ge ij iq (nOf sn0 sc0) (aA sc0 0) (aA sc0 1) ju jv jx jy j6 j7 j8 j9) aX (gB hG) Tryz.func35 rfl (by kernel_rfl) rfl (by decide) (fun X hX hrho => ?_) E w vs hr hv'
   rw [Tryz.ntmps35]
   refine dG hX rfl (tr := ah0 cm ge ij iq (nOf sn0 sc0) (aA sc0 0) (aA sc0 1) ju jv jx jy j6 j7 j8 j9) (fun j st Q h => ap7 hX _ rfl cm ge ij iq (nOf sn0 sc0) (aA sc0 0) (aA sc0 1) ju jv jx jy j6 j7 j8 j9 j st Q h) (Eq.mpr (av3 cm ge ij iq (nOf sn0 sc0) (aA sc0 0) (aA sc0 1) ju jv jx jy j6 j7 j8 j9 (fun x => x = _)) ?_)
   exact ap8 cm ge ij iq (nOf sn0 sc0) (aA sc0 0) (aA sc0 1) ju jv jx jy j6 j7 j8 j9 (avT cm ge ij iq (nOf sn0 sc0) (aA sc0 0) (aA sc0 1) ju jv jx jy j6 j7 j8 j9 hp rfl)
 . cases h
def ap9 : List (Nat × Ag.Spec) := []
def ajm (a0 a1:Int) : List AV := [AV.int .i64 a0, AV.int .i64 a1]
theorem av5 (a0 a1:Int) (K : AV -> Prop) : vwp tab (bC ap9) (fun _ _ _ => False) 0 (aF Tryz.f20) (entry (ajm a0 a1) 14) (aV tab [.tmp 4] fun v s => K (v.frz s.mem)) = anh a0 a1 (fun r0 => K (AV.int .i64 r0))  := by kernel_rfl
def ant : List AV -> Option (Prop × RT)
  | [AV.int .i64 a0, AV.int .i64 a1] => some (Tn a0 a1, RT.leaf (AV.int .i64 (aN a0 a1)))
  | _ => none
theorem av6 : aU Tryz.prog 20 (.pure ant) := by
 intro xs p r h hp E w vs hr hv; unfold ant at h; split at h
 . rename_i a0 a1
   obtain ⟨rfl, rfl⟩ := aG h
   exact dF (ys := ajm a0 a1) (rs := [.tmp 4]) aX (show aO Tryz.prog ap9 from trivial) Tryz.func20 rfl (by kernel_rfl) rfl (by decide) Tryz.ntmps20 (av5 a0 a1) (avU a0 a1 hp rfl) E w vs hr hv
 . cases h
def aqa : List (Nat × Ag.Spec) := [(20, .pure ant)]
def ajn (cm ge ij iq iv iu:Int) : List AV := [AV.agg [AV.int .i64 cm, AV.int .i64 ge, AV.int .i64 ij, AV.int .i64 iq, AV.int .i64 iv, AV.int .i64 iu]]
def ajo : AV := AV.agg [AV.int .i64 0, AV.int .i64 0, AV.int .i64 0, AV.int .i64 0, AV.rs none 0 [CF.I .i64 (fun _ => 0), CF.I .i64 (fun _ => 0)]]
theorem av7 (cm ge ij iq iv iu:Int) (K : AV -> Prop) : vwp tab (bC aqa) (fun _ _ _ => False) 0 (aF Tryz.f42) (entry (ajn cm ge ij iq iv iu) 120) (aV tab [.cell 2 62] fun v s => K (AV.pad ajo (v.frz s.mem))) = ak8 cm ge ij iq iv iu (fun r0 r1 r2 r3 r4 r5 r6 => K (AV.agg [AV.int .i64 r0, AV.int .i64 r1, AV.int .i64 r2, AV.int .i64 r3, AV.rs none r4 [CF.I .i64 r5, CF.I .i64 r6]]))  := by kernel_rfl
def anu : List AV -> Option (Prop × RT)
  | [AV.agg [AV.int .i64 cm, AV.int .i64 ge, AV.int .i64 ij, AV.int .i64 iq, AV.int .i64 iv, AV.int .i64 iu]] => some (YK cm ge ij iq iv iu, RT.leaf (AV.agg [AV.int .i64 (mW cm ge ij iq iv iu), AV.int .i64 (lI cm ge ij iq iv iu), AV.int .i64 (lJ cm ge ij iq iv iu), AV.int .i64 (lK cm ge ij iq iv iu), AV.rs none (lM cm ge ij iq iv iu) [CF.I .i64 (lN cm ge ij iq iv iu), CF.I .i64 (lQ cm ge ij iq iv iu)]]))
  | _ => none
theorem av8 : aU Tryz.prog 42 (.pure anu) := by
 intro xs p r h hp E w vs hr hv; unfold anu at h; split at h
 . rename_i cm ge ij iq iv iu
   obtain ⟨rfl, rfl⟩ := aG h
   have hG := (show aO Tryz.prog aqa from ⟨av6, trivial⟩)
   refine Ai (sh := ajo) (c := aF Tryz.f42) (rs := [.cell 2 62]) (ys := ajn cm ge ij iq iv iu) aX (gB hG) Tryz.func42 rfl (by kernel_rfl) rfl (by decide) (fun X hX hrho => ?_) E w vs hr hv
   rw [Tryz.ntmps42]
   refine dG hX rfl (tr := fun _ _ _ => False) (fun _ _ _ h => h.elim) (Eq.mpr (av7 cm ge ij iq iv iu (fun x => x = _)) ?_)
   exact atz cm ge ij iq iv iu hp rfl
 . cases h
def arW : List (Nat × Ag.Spec) := []
def agN (a0 a1:Int) : List AV := [AV.int .i64 a0, AV.int .i64 a1]
theorem axF (a0 a1:Int) (K : AV -> Prop) : vwp tab (bC arW) (fun _ _ _ => False) 0 (aF Tryz.f118) (entry (agN a0 a1) 11) (aV tab [.cell 4 64] fun v s => K (v.frz s.mem)) = amb a0 a1 (fun r0 r1 => K (AV.agg [AV.int .i64 r0, AV.bool r1]))  := by kernel_rfl
def aiM : List AV -> Option (Prop × RT)
  | [AV.int .i64 a0, AV.int .i64 a1] => some (VO a0 a1, RT.leaf (AV.agg [AV.int .i64 (Df a0 a1), AV.bool (Dh a0 a1)]))
  | _ => none
theorem arX : aU Tryz.prog 118 (.pure aiM) := by
 intro xs p r h hp E w vs hr hv; unfold aiM at h; split at h
 . rename_i a0 a1
   obtain ⟨rfl, rfl⟩ := aG h
   exact dF (ys := agN a0 a1) (rs := [.cell 4 64]) aX (show aO Tryz.prog arW from trivial) Tryz.func118 rfl (by kernel_rfl) rfl (by decide) Tryz.ntmps118 (axF a0 a1) (auP a0 a1 hp rfl) E w vs hr hv
 . cases h
def aqc : List (Nat × Ag.Spec) := [(118, .pure aiM), (119, .pure aoJ)]
def ajq (cm ge ij iq iv iu a1:Int) : List AV := [AV.agg [AV.int .i64 cm, AV.int .i64 ge, AV.int .i64 ij, AV.int .i64 iq, AV.int .i64 iv, AV.int .i64 iu], AV.int .i64 a1]
theorem awd (cm ge ij iq iv iu a1:Int) (K : AV -> Prop) : vwp tab (bC aqc) (fun _ _ _ => False) 0 (aF Tryz.f43) (entry (ajq cm ge ij iq iv iu a1) 19) (aV tab [.cell 4 70] fun v s => K (v.frz s.mem)) = ala cm ge ij iq iv iu a1 (fun r0 r1 r2 r3 r4 r5 r6 r7 => K (AV.agg [AV.int .i64 r0, AV.bool r1, AV.int .i64 r2, AV.bool r3, AV.int .i64 r4, AV.bool r5, AV.int .i64 r6, AV.bool r7]))  := by kernel_rfl
def anw : List AV -> Option (Prop × RT)
  | [AV.agg [AV.int .i64 cm, AV.int .i64 ge, AV.int .i64 ij, AV.int .i64 iq, AV.int .i64 iv, AV.int .i64 iu], AV.int .i64 a1] => some (acT cm ge ij iq iv iu a1, RT.leaf (AV.agg [AV.int .i64 (mX cm ge ij iq iv iu a1), AV.bool (mY cm ge ij iq iv iu a1), AV.int .i64 (mZ cm ge ij iq iv iu a1), AV.bool (nC cm ge ij iq iv iu a1), AV.int .i64 (nD cm ge ij iq iv iu a1), AV.bool (nG cm ge ij iq iv iu a1), AV.int .i64 (nH cm ge ij iq iv iu a1), AV.bool (nI cm ge ij iq iv iu a1)]))
  | _ => none
theorem awe : aU Tryz.prog 43 (.pure anw) := by
 intro xs p r h hp E w vs hr hv; unfold anw at h; split at h
 . rename_i cm ge ij iq iv iu a1
   obtain ⟨rfl, rfl⟩ := aG h
   exact dF (ys := ajq cm ge ij iq iv iu a1) (rs := [.cell 4 70]) aX (show aO Tryz.prog aqc from ⟨arX, ax2, trivial⟩) Tryz.func43 rfl (by kernel_rfl) rfl (by decide) Tryz.ntmps43 (awd cm ge ij iq iv iu a1) (atB cm ge ij iq iv iu a1 hp rfl) E w vs hr hv
 . cases h
def ath : List (Nat × Ag.Spec) := [(35, .pure anr), (42, .pure anu), (43, .pure anw)]
def akV (cm ge ij iq iv iu a1:Int) : List AV := [AV.agg [AV.int .i64 cm, AV.int .i64 ge, AV.int .i64 ij, AV.int .i64 iq, AV.int .i64 iv, AV.int .i64 iu], AV.int .i64 a1]
theorem azd (cm ge ij iq iv iu a1:Int) (K : AV -> Prop) : vwp tab (bC ath) (fun _ _ _ => False) 0 (aF Tryz.f16) (entry (akV cm ge ij iq iv iu a1) 17) (aV tab [.cell 4 35] fun v s => K (v.frz s.mem)) = am5 cm ge ij iq iv iu a1 (fun r0 r1 r2 r3 r4 r5 r6 => K (AV.agg [AV.int .i64 r0, AV.int .i64 r1, AV.int .i64 r2, AV.int .i64 r3, AV.rs none r4 [CF.I .i64 r5, CF.I .i64 r6]]))  := by kernel_rfl
def apw : List AV -> Option (Prop × RT)
  | [AV.agg [AV.int .i64 cm, AV.int .i64 ge, AV.int .i64 ij, AV.int .i64 iq, AV.int .i64 iv, AV.int .i64 iu], AV.int .i64 a1] => some (Zo cm ge ij iq iv iu a1, RT.leaf (AV.agg [AV.int .i64 (DC cm ge ij iq iv iu a1), AV.int .i64 (DF cm ge ij iq iv iu a1), AV.int .i64 (DI cm ge ij iq iv iu a1), AV.int .i64 (DJ cm ge ij iq iv iu a1), AV.rs none (AU cm ge ij iq iv iu a1) [CF.I .i64 (Bf cm ge ij iq iv iu a1), CF.I .i64 (Bg cm ge ij iq iv iu a1)]]))
  | _ => none
theorem aze : aU Tryz.prog 16 (.pure apw) := by
 intro xs p r h hp E w vs hr hv; unfold apw at h; split at h
 . rename_i cm ge ij iq iv iu a1
   obtain ⟨rfl, rfl⟩ := aG h
   exact dF (ys := akV cm ge ij iq iv iu a1) (rs := [.cell 4 35]) aX (show aO Tryz.prog ath from ⟨av4, av8, awe, trivial⟩) Tryz.func16 rfl (by kernel_rfl) rfl (by decide) Tryz.ntmps16 (azd cm ge ij iq iv iu a1) (avK cm ge ij iq iv iu a1 hp rfl) E w vs hr hv
 . cases h
def aqe : List (Nat × Ag.Spec) := []
def ajs (a0 a1 a2:Int) : List AV := [AV.int .i64 a0, AV.int .i64 a1, AV.int .i64 a2]
theorem awh (a0 a1 a2:Int) (K : AV -> Prop) : vwp tab (bC aqe) (fun _ _ _ => False) 0 (aF Tryz.f48) (entry (ajs a0 a1 a2) 16) (aV tab [.cell 6 32] fun v s => K (v.frz s.mem)) = ali a0 a1 a2 (fun r0 r1 => K (AV.agg [AV.int .i64 r0, AV.int .i64 r1]))  := by kernel_rfl
def anz : List AV -> Option (Prop × RT)
  | [AV.int .i64 a0, AV.int .i64 a1, AV.int .i64 a2] => some (aeV a0 a1 a2, RT.leaf (AV.agg [AV.int .i64 (aj a0 a1 a2), AV.int .i64 (ak a0 a1 a2)]))
  | _ => none
theorem awi : aU Tryz.prog 48 (.pure anz) := by
 intro xs p r h hp E w vs hr hv; unfold anz at h; split at h
 . rename_i a0 a1 a2
   obtain ⟨rfl, rfl⟩ := aG h
   exact dF (ys := ajs a0 a1 a2) (rs := [.cell 6 32]) aX (show aO Tryz.prog aqe from trivial) Tryz.func48 rfl (by kernel_rfl) rfl (by decide) Tryz.ntmps48 (awh a0 a1 a2) (atD a0 a1 a2 hp rfl) E w vs hr hv
 . cases h
def agf : List (Nat × Ag.Spec) := [(40, .pure ahZ), (120, .pure ape)]
def D9 (cm ge ic ie:Int) (jp:Nat) (il kf kg kh:Nat -> Int) (ki : Nat -> Nat) (kj kl : Nat -> Nat -> Int) (ko jm:Int) (jz:Bool) (jt:Int) (nq:Bool) (nu:Int) (nv:Bool) (nw:Int) (ny:Bool) : VS := ⟨dD 44 0 [(3, AV.ptr false 0 0 0), (4, AV.ptr false 1 0 0), (6, AV.int .i64 0), (7, AV.ptr false 2 0 0), (8, AV.int .i64 ko), (9, AV.ptr false 3 0 0), (14, AV.rs none jp [CF.I .i64 il, CF.I .i64 kf, CF.I .i64 kg, CF.I .i64 kh, CF.S ki (fun k => [CF.I .i64 (kj k), CF.I .i64 (kl k)])]), (15, AV.int .i64 (jp:Int)), (16, AV.int .i64 jm)], [.one true 32 [AV.int .i64 cm, AV.int .i64 ge], .one true 32 [AV.int .i64 ic, AV.int .i64 ie], .one true 81 [AV.bool false, AV.int .i64 0, AV.bool false, AV.int .i64 0, AV.bool false, AV.int .i64 0, AV.bool false], .one true 81 [AV.bool jz, AV.int .i64 jt, AV.bool nq, AV.int .i64 nu, AV.bool nv, AV.int .i64 nw, AV.bool ny]], false, 0⟩
def wV (cm ge ic ie:Int) (jp:Nat) (il kf kg kh:Nat -> Int) (ki : Nat -> Nat) (kj kl : Nat -> Nat -> Int) (o0 o1:Int) (o2:Bool) (o3:Int) (o4:Bool) (o5:Int) (o6:Bool) (o7:Int) (o8:Bool) : VS := ⟨dD 44 0 [(3, AV.ptr false 0 0 0), (4, AV.ptr false 1 0 0), (6, AV.int .i64 0), (7, AV.ptr false 2 0 0), (8, AV.int .i64 o0), (9, AV.ptr false 3 0 0), (14, AV.rs none jp [CF.I .i64 il, CF.I .i64 kf, CF.I .i64 kg, CF.I .i64 kh, CF.S ki (fun k => [CF.I .i64 (kj k), CF.I .i64 (kl k)])]), (15, AV.int .i64 (jp:Int)), (16, AV.int .i64 o1)], [.one true 32 [AV.int .i64 cm, AV.int .i64 ge], .one true 32 [AV.int .i64 ic, AV.int .i64 ie], .one true 81 [AV.bool false, AV.int .i64 0, AV.bool false, AV.int .i64 0, AV.bool false, AV.int .i64 0, AV.bool false], .one true 81 [AV.bool o2, AV.int .i64 o3, AV.bool o4, AV.int .i64 o5, AV.bool o6, AV.int .i64 o7, AV.bool o8]], false, 0⟩
theorem anA (cm ge ic ie:Int) (jp:Nat) (il kf kg kh:Nat -> Int) (ki : Nat -> Nat) (kj kl : Nat -> Nat -> Int) (ko jm:Int) (jz:Bool) (jt:Int) (nq:Bool) (nu:Int) (nv:Bool) (nw:Int) (ny:Bool) (Q : Exit -> VS -> Prop) : vwp tab (bC agf) (fun _ _ _ => False) 0 (gY (dA (aF Tryz.f49) 0)) (D9 cm ge ic ie jp il kf kg kh ki kj kl ko jm jz jt nq nu nv nw ny) (QM [3, 4, 6, 7, 8, 9, 14, 15, 16] [0, 1, 2, 3] 4 Q) = Ii cm ge ic ie jp il kf kg kh ki kj kl ko jm jz jt nq nu nv nw ny (fun w0 w1 w2 w3 w4 w5 w6 w7 w8 => Q .normal (D9 cm ge ic ie jp il kf kg kh ki kj kl w0 w1 w2 w3 w4 w5 w6 w7 w8)) (fun o0 o1 o2 o3 o4 o5 o6 o7 o8 => Q (.exit 0) (wV cm ge ic ie jp il kf kg kh ki kj kl o0 o1 o2 o3 o4 o5 o6 o7 o8))  := by kernel_rfl
theorem anB {X : Cx} (hX : Std Tryz.prog tab (bC agf) X) (b : Code) (hb : b = aF Tryz.f49) (cm ge ic ie:Int) (jp:Nat) (il kf kg kh:Nat -> Int) (ki : Nat -> Nat) (kj kl : Nat -> Nat -> Int) (fu:Nat) (ko jm:Int) (jz:Bool) (jt:Int) (nq:Bool) (nu:Int) (nv:Bool) (nw:Int) (ny:Bool) (Q : Exit -> VS -> Prop) (h : uy cm ge ic ie jp il kf kg kh ki kj kl fu ko jm jz jt nq nu nv nw ny (fun o0 o1 o2 o3 o4 o5 o6 o7 o8 => Q (.exit 0) (wV cm ge ic ie jp il kf kg kh ki kj kl o0 o1 o2 o3 o4 o5 o6 o7 o8))) : TrK X b 0 (D9 cm ge ic ie jp il kf kg kh ki kj kl ko jm jz jt nq nu nv nw ny) Q := by
  subst hb
  refine iF (V := Int × Int × Bool × Int × Bool × Int × Bool × Int × Bool) (fun v => D9 cm ge ic ie jp il kf kg kh ki kj kl v.1 v.2.1 v.2.2.1 v.2.2.2.1 v.2.2.2.2.1 v.2.2.2.2.2.1 v.2.2.2.2.2.2.1 v.2.2.2.2.2.2.2.1 v.2.2.2.2.2.2.2.2) (fun f v => uy cm ge ic ie jp il kf kg kh ki kj kl f v.1 v.2.1 v.2.2.1 v.2.2.2.1 v.2.2.2.2.1 v.2.2.2.2.2.1 v.2.2.2.2.2.2.1 v.2.2.2.2.2.2.2.1 v.2.2.2.2.2.2.2.2 (fun o0 o1 o2 o3 o4 o5 o6 o7 o8 => Q (.exit 0) (wV cm ge ic ie jp il kf kg kh ki kj kl o0 o1 o2 o3 o4 o5 o6 o7 o8))) (fun _ h => h) (by kernel_rfl) (fun f v hv => ?_) (fuel := fu) (v0 := (ko, jm, jz, jt, nq, nu, nv, nw, ny)) h
  refine mO (bs := [3, 4, 6, 7, 8, 9, 14, 15, 16]) (ms := [0, 1, 2, 3]) (nm := 4) ?_
  refine dG hX rfl (tr := (fun _ _ _ => False)) (fun _ _ _ h => h.elim) ?_
  refine Eq.mpr (anA cm ge ic ie jp il kf kg kh ki kj kl v.1 v.2.1 v.2.2.1 v.2.2.2.1 v.2.2.2.2.1 v.2.2.2.2.2.1 v.2.2.2.2.2.2.1 v.2.2.2.2.2.2.2.1 v.2.2.2.2.2.2.2.2 _) ?_
  exact aaP cm ge ic ie jp il kf kg kh ki kj kl v.1 v.2.1 v.2.2.1 v.2.2.2.1 v.2.2.2.2.1 v.2.2.2.2.2.1 v.2.2.2.2.2.2.1 v.2.2.2.2.2.2.2.1 v.2.2.2.2.2.2.2.2 (fun w0 w1 w2 w3 w4 w5 w6 w7 w8 h => ⟨(w0, w1, w2, w3, w4, w5, w6, w7, w8), rfl, h⟩) (fun _ _ _ _ _ _ _ _ _ h => h) hv
def ah1 (cm ge ic ie:Int) (jp:Nat) (il kf kg kh:Nat -> Int) (ki : Nat -> Nat) (kj kl : Nat -> Nat -> Int) (k:Nat) (st : VS) (Q : Exit -> VS -> Prop) : Prop := match k with
  | 0 => TL [3, 4, 6, 7, 8, 9, 14, 15, 16] [0, 1, 2, 3] 4 (convs st []) (fun st => D9 cm ge ic ie jp il kf kg kh ki kj kl (intOf (tAt st 8)) (intOf (tAt st 16)) (gV (mAt st 3 0)) (intOf (mAt st 3 1)) (gV (mAt st 3 2)) (intOf (mAt st 3 3)) (gV (mAt st 3 4)) (intOf (mAt st 3 5)) (gV (mAt st 3 6))) (fun st => uy cm ge ic ie jp il kf kg kh ki kj kl fuel (intOf (tAt st 8)) (intOf (tAt st 16)) (gV (mAt st 3 0)) (intOf (mAt st 3 1)) (gV (mAt st 3 2)) (intOf (mAt st 3 3)) (gV (mAt st 3 4)) (intOf (mAt st 3 5)) (gV (mAt st 3 6)) (fun o0 o1 o2 o3 o4 o5 o6 o7 o8 => Q (.exit 0) (wV cm ge ic ie jp il kf kg kh ki kj kl o0 o1 o2 o3 o4 o5 o6 o7 o8)))
  | _ => False
theorem aqf {X : Cx} (hX : Std Tryz.prog tab (bC agf) X) (b : Code) (hb : b = aF Tryz.f49) (cm ge ic ie:Int) (jp:Nat) (il kf kg kh:Nat -> Int) (ki : Nat -> Nat) (kj kl : Nat -> Nat -> Int) (j:Nat) (st : VS) (Q : Exit -> VS -> Prop) (h : ah1 cm ge ic ie jp il kf kg kh ki kj kl j st Q) : TrK X b j st Q := by
  unfold ah1 at h
  split at h
  . exact lF h (fun h' => anB hX b hb cm ge ic ie jp il kf kg kh ki kj kl _ _ _ _ _ _ _ _ _ _ Q h')
  . exact h.elim
def agh (cm ge ic ie:Int) (jp:Nat) (il kf kg kh:Nat -> Int) (ki : Nat -> Nat) (kj kl : Nat -> Nat -> Int) : List AV := [AV.agg [AV.int .i64 cm, AV.int .i64 ge], AV.agg [AV.int .i64 ic, AV.int .i64 ie], AV.rs none jp [CF.I .i64 il, CF.I .i64 kf, CF.I .i64 kg, CF.I .i64 kh, CF.S ki (fun k => [CF.I .i64 (kj k), CF.I .i64 (kl k)])]]
theorem awj (cm ge ic ie:Int) (jp:Nat) (il kf kg kh:Nat -> Int) (ki : Nat -> Nat) (kj kl : Nat -> Nat -> Int) (K : AV -> Prop) : vwp tab (bC agf) (ah1 cm ge ic ie jp il kf kg kh ki kj kl) 0 (aF Tryz.f49) (entry (agh cm ge ic ie jp il kf kg kh ki kj kl) 44) (aV tab [.tmp 6, .cell 7 81] fun v s => K (v.frz s.mem)) = acV cm ge ic ie jp il kf kg kh ki kj kl (fun r0 r1 r2 r3 r4 r5 r6 r7 => K (AV.tup [AV.int .i64 r0, AV.agg [AV.bool r1, AV.int .i64 r2, AV.bool r3, AV.int .i64 r4, AV.bool r5, AV.int .i64 r6, AV.bool r7]])) (fun p0 p1 p2 p3 p4 p5 p6 p7 p8 y0 => D9 cm ge ic ie jp il kf kg kh ki kj kl p0 p1 p2 p3 p4 p5 p6 p7 p8 = D9 cm ge ic ie jp il kf kg kh ki kj kl p0 p1 p2 p3 p4 p5 p6 p7 p8 /\ uy cm ge ic ie jp il kf kg kh ki kj kl fuel p0 p1 p2 p3 p4 p5 p6 p7 p8 y0) := by kernel_rfl
theorem aqg (cm ge ic ie:Int) (jp:Nat) (il kf kg kh:Nat -> Int) (ki : Nat -> Nat) (kj kl : Nat -> Nat -> Int) {K0 : Int -> Bool -> Int -> Bool -> Int -> Bool -> Int -> Bool -> Prop} : acV cm ge ic ie jp il kf kg kh ki kj kl K0 (uy cm ge ic ie jp il kf kg kh ki kj kl fuel) -> acV cm ge ic ie jp il kf kg kh ki kj kl K0 (fun p0 p1 p2 p3 p4 p5 p6 p7 p8 y0 => D9 cm ge ic ie jp il kf kg kh ki kj kl p0 p1 p2 p3 p4 p5 p6 p7 p8 = D9 cm ge ic ie jp il kf kg kh ki kj kl p0 p1 p2 p3 p4 p5 p6 p7 p8 /\ uy cm ge ic ie jp il kf kg kh ki kj kl fuel p0 p1 p2 p3 p4 p5 p6 p7 p8 y0) := by
  unfold acV
  repeat' first
    | exact id
    | refine dU ?_
    | refine cO ?_ ?_
    | refine cZ ?_
    | refine fun h => ⟨rfl, aaQ _ _ _ _ _ _ _ _ _ _ _ _  (fun _ _ _ _ _ _ _ _ _ => ?_) _ _ _ _ _ _ _ _ _ _  h⟩
def anC : List AV -> Option (Prop × RT)
  | [AV.agg [AV.int .i64 cm, AV.int .i64 ge], AV.agg [AV.int .i64 ic, AV.int .i64 ie], AV.rs sq0 sn0 sc0] => cond (fG [KC.I .i64, KC.I .i64, KC.I .i64, KC.I .i64, KC.S] sc0) (some ((∀ k : Nat, k < nOf sn0 sc0 -> fG [KC.I .i64, KC.I .i64] (iW sc0 4 k) = true) /\ aeW cm ge ic ie (nOf sn0 sc0) (aA sc0 0) (aA sc0 1) (aA sc0 2) (aA sc0 3) (fun k => nOf (Ah sc0 4 k) (iW sc0 4 k)) (fun k => aA (iW sc0 4 k) 0) (fun k => aA (iW sc0 4 k) 1), RT.leaf (AV.tup [AV.int .i64 (aJ cm ge ic ie (nOf sn0 sc0) (aA sc0 0) (aA sc0 1) (aA sc0 2) (aA sc0 3) (fun k => nOf (Ah sc0 4 k) (iW sc0 4 k)) (fun k => aA (iW sc0 4 k) 0) (fun k => aA (iW sc0 4 k) 1)), AV.agg [AV.bool (qL cm ge ic ie (nOf sn0 sc0) (aA sc0 0) (aA sc0 1) (aA sc0 2) (aA sc0 3) (fun k => nOf (Ah sc0 4 k) (iW sc0 4 k)) (fun k => aA (iW sc0 4 k) 0) (fun k => aA (iW sc0 4 k) 1)), AV.int .i64 (lS cm ge ic ie (nOf sn0 sc0) (aA sc0 0) (aA sc0 1) (aA sc0 2) (aA sc0 3) (fun k => nOf (Ah sc0 4 k) (iW sc0 4 k)) (fun k => aA (iW sc0 4 k) 0) (fun k => aA (iW sc0 4 k) 1)), AV.bool (pW cm ge ic ie (nOf sn0 sc0) (aA sc0 0) (aA sc0 1) (aA sc0 2) (aA sc0 3) (fun k => nOf (Ah sc0 4 k) (iW sc0 4 k)) (fun k => aA (iW sc0 4 k) 0) (fun k => aA (iW sc0 4 k) 1)), AV.int .i64 (qM cm ge ic ie (nOf sn0 sc0) (aA sc0 0) (aA sc0 1) (aA sc0 2) (aA sc0 3) (fun k => nOf (Ah sc0 4 k) (iW sc0 4 k)) (fun k => aA (iW sc0 4 k) 0) (fun k => aA (iW sc0 4 k) 1)), AV.bool (qN cm ge ic ie (nOf sn0 sc0) (aA sc0 0) (aA sc0 1) (aA sc0 2) (aA sc0 3) (fun k => nOf (Ah sc0 4 k) (iW sc0 4 k)) (fun k => aA (iW sc0 4 k) 0) (fun k => aA (iW sc0 4 k) 1)), AV.int .i64 (qO cm ge ic ie (nOf sn0 sc0) (aA sc0 0) (aA sc0 1) (aA sc0 2) (aA sc0 3) (fun k => nOf (Ah sc0 4 k) (iW sc0 4 k)) (fun k => aA (iW sc0 4 k) 0) (fun k => aA (iW sc0 4 k) 1)), AV.bool (qP cm ge ic ie (nOf sn0 sc0) (aA sc0 0) (aA sc0 1) (aA sc0 2) (aA sc0 3) (fun k => nOf (Ah sc0 4 k) (iW sc0 4 k)) (fun k => aA (iW sc0 4 k) 0) (fun k => aA (iW sc0 4 k) 1))]]))) none
  | _ => none
theorem awk : aU Tryz.prog 49 (.pure anC) := by
 intro xs p r h hp E w vs hr hv; unfold anC at h; split at h
 . rename_i cm ge ic ie sq0 sn0 sc0
   obtain ⟨hk0, h⟩ := dW h
   obtain ⟨rfl, rfl⟩ := aG h
   obtain ⟨hwf0, hp⟩ := hp
   have hG := (show aO Tryz.prog agf from ⟨ap4, ayl, trivial⟩)
   have hv' := ((AV.les.cons (AV.le.refl _) (AV.les.cons (AV.le.refl _) (AV.les.cons (AV.le.rsS hk0 hwf0 (by intro j hj; rcases j with _ | _ | _ | _ | _ | j <;> first | rfl | (simp [isS] at hj))) AV.les.nil))) _ _ hv : VRs E.bare (agh cm ge ic ie (nOf sn0 sc0) (aA sc0 0) (aA sc0 1) (aA sc0 2) (aA sc0 3) (fun k => nOf (Ah sc0 4 k) (iW sc0 4 k)) (fun k => aA (iW sc0 4 k) 0) (fun k => aA (iW sc0 4 k) 1)) vs)
   refine eF (c := aF Tryz.f49) (rs := [.tmp 6, .cell 7 81]) (ys := agh cm ge ic ie (nOf sn0 sc0) (aA sc0 0) (aA sc0 1) (aA sc0 2) (aA sc0 3) (fun k => nOf (Ah sc0 4 k) (iW sc0 4 k)) (fun k => aA (iW sc0 4 k) 0) (fun k => aA (iW sc0 4 k) 1)) aX (gB hG) Tryz.func49 rfl (by kernel_rfl) rfl (by decide) (fun X hX hrho => ?_) E w vs hr hv'
   rw [Tryz.ntmps49]
   refine dG hX rfl (tr := ah1 cm ge ic ie (nOf sn0 sc0) (aA sc0 0) (aA sc0 1) (aA sc0 2) (aA sc0 3) (fun k => nOf (Ah sc0 4 k) (iW sc0 4 k)) (fun k => aA (iW sc0 4 k) 0) (fun k => aA (iW sc0 4 k) 1)) (fun j st Q h => aqf hX _ rfl cm ge ic ie (nOf sn0 sc0) (aA sc0 0) (aA sc0 1) (aA sc0 2) (aA sc0 3) (fun k => nOf (Ah sc0 4 k) (iW sc0 4 k)) (fun k => aA (iW sc0 4 k) 0) (fun k => aA (iW sc0 4 k) 1) j st Q h) (Eq.mpr (awj cm ge ic ie (nOf sn0 sc0) (aA sc0 0) (aA sc0 1) (aA sc0 2) (aA sc0 3) (fun k => nOf (Ah sc0 4 k) (iW sc0 4 k)) (fun k => aA (iW sc0 4 k) 0) (fun k => aA (iW sc0 4 k) 1) (fun x => x = _)) ?_)
   exact aqg cm ge ic ie (nOf sn0 sc0) (aA sc0 0) (aA sc0 1) (aA sc0 2) (aA sc0 3) (fun k => nOf (Ah sc0 4 k) (iW sc0 4 k)) (fun k => aA (iW sc0 4 k) 0) (fun k => aA (iW sc0 4 k) 1) (atE cm ge ic ie (nOf sn0 sc0) (aA sc0 0) (aA sc0 1) (aA sc0 2) (aA sc0 3) (fun k => nOf (Ah sc0 4 k) (iW sc0 4 k)) (fun k => aA (iW sc0 4 k) 0) (fun k => aA (iW sc0 4 k) 1) hp rfl)
 . cases h
def ZU : List (Nat × Ag.Spec) := [(16, .pure apw), (31, .pure air), (40, .pure ahZ), (48, .pure anz), (49, .pure anC)]
def Ea (ig:Nat) (cm ge ij iq iv iu:Nat -> Int) (a1 a2 a3 a4:Int) (od:Bool) (ku:Int) (k6:Nat) (ky kz n5 n6 : (Nat -> Int)) (n7 : (Nat -> Nat)) (n8 n9 : (Nat -> Nat -> Int)) : VS := ⟨dD 125 0 [(0, AV.rs none ig [CF.I .i64 cm, CF.I .i64 ge, CF.I .i64 ij, CF.I .i64 iq, CF.I .i64 iv, CF.I .i64 iu]), (10, AV.bool false), (11, AV.ptr false 0 0 0), (12, AV.ptr false 1 0 0), (13, AV.sl (some od) 2 k6 5), (14, AV.int .i64 ku)], [.one true 32 [AV.int .i64 (aj a1 a2 6000), AV.int .i64 (ak a1 a2 6000)], .one true 32 [AV.int .i64 (aj a3 a4 6000), AV.int .i64 (ak a3 a4 6000)], .many true 35 k6 [CF.I .i64 ky, CF.I .i64 kz, CF.I .i64 n5, CF.I .i64 n6, CF.S n7 (fun k => [CF.I .i64 (n8 k), CF.I .i64 (n9 k)])]], false, 0⟩
def wW (ig:Nat) (cm ge ij iq iv iu:Nat -> Int) (a1 a2 a3 a4:Int) (o0:Bool) (o1:Int) (o2:Nat) (o3 o4 o5 o6 : (Nat -> Int)) (o7 : (Nat -> Nat)) (o8 o9 : (Nat -> Nat -> Int)) : VS := ⟨dD 125 0 [(0, AV.rs none ig [CF.I .i64 cm, CF.I .i64 ge, CF.I .i64 ij, CF.I .i64 iq, CF.I .i64 iv, CF.I .i64 iu]), (10, AV.bool false), (11, AV.ptr false 0 0 0), (12, AV.ptr false 1 0 0), (13, AV.sl (some o0) 2 o2 5), (14, AV.int .i64 o1)], [.one true 32 [AV.int .i64 (aj a1 a2 6000), AV.int .i64 (ak a1 a2 6000)], .one true 32 [AV.int .i64 (aj a3 a4 6000), AV.int .i64 (ak a3 a4 6000)], .many true 35 o2 [CF.I .i64 o3, CF.I .i64 o4, CF.I .i64 o5, CF.I .i64 o6, CF.S o7 (fun k => [CF.I .i64 (o8 k), CF.I .i64 (o9 k)])]], false, 0⟩
theorem anD (ig:Nat) (cm ge ij iq iv iu:Nat -> Int) (a1 a2 a3 a4:Int) (od:Bool) (ku:Int) (k6:Nat) (ky kz n5 n6 : (Nat -> Int)) (n7 : (Nat -> Nat)) (n8 n9 : (Nat -> Nat -> Int)) (Q : Exit -> VS -> Prop) : vwp tab (bC ZU) (fun _ _ _ => False) 0 (gY (dA (aF Tryz.f7) 0)) (Ea ig cm ge ij iq iv iu a1 a2 a3 a4 od ku k6 ky kz n5 n6 n7 n8 n9) (QM [0, 10, 11, 12, 13, 14] [0, 1, 2] 3 Q) = Ij ig cm ge ij iq iv iu a1 a2 a3 a4 od ku k6 ky kz n5 n6 n7 n8 n9 (fun w0 w1 w2 w3 w4 w5 w6 w7 w8 w9 => Q .normal (Ea ig cm ge ij iq iv iu a1 a2 a3 a4 w0 w1 w2 w3 w4 w5 w6 w7 w8 w9)) (fun o0 o1 o2 o3 o4 o5 o6 o7 o8 o9 => Q (.exit 0) (wW ig cm ge ij iq iv iu a1 a2 a3 a4 o0 o1 o2 o3 o4 o5 o6 o7 o8 o9))  := by kernel_rfl
theorem anE {X : Cx} (hX : Std Tryz.prog tab (bC ZU) X) (b : Code) (hb : b = aF Tryz.f7) (ig:Nat) (cm ge ij iq iv iu:Nat -> Int) (a1 a2 a3 a4:Int) (fu:Nat) (od:Bool) (ku:Int) (k6:Nat) (ky kz n5 n6 : (Nat -> Int)) (n7 : (Nat -> Nat)) (n8 n9 : (Nat -> Nat -> Int)) (Q : Exit -> VS -> Prop) (h : yx ig cm ge ij iq iv iu a1 a2 a3 a4 fu od ku k6 ky kz n5 n6 n7 n8 n9 (fun o0 o1 o2 o3 o4 o5 o6 o7 o8 o9 => Q (.exit 0) (wW ig cm ge ij iq iv iu a1 a2 a3 a4 o0 o1 o2 o3 o4 o5 o6 o7 o8 o9))) : TrK X b 0 (Ea ig cm ge ij iq iv iu a1 a2 a3 a4 od ku k6 ky kz n5 n6 n7 n8 n9) Q := by
  subst hb
  refine iF (V := Bool × Int × Nat × (Nat -> Int) × (Nat -> Int) × (Nat -> Int) × (Nat -> Int) × (Nat -> Nat) × (Nat -> Nat -> Int) × (Nat -> Nat -> Int)) (fun v => Ea ig cm ge ij iq iv iu a1 a2 a3 a4 v.1 v.2.1 v.2.2.1 v.2.2.2.1 v.2.2.2.2.1 v.2.2.2.2.2.1 v.2.2.2.2.2.2.1 v.2.2.2.2.2.2.2.1 v.2.2.2.2.2.2.2.2.1 v.2.2.2.2.2.2.2.2.2) (fun f v => yx ig cm ge ij iq iv iu a1 a2 a3 a4 f v.1 v.2.1 v.2.2.1 v.2.2.2.1 v.2.2.2.2.1 v.2.2.2.2.2.1 v.2.2.2.2.2.2.1 v.2.2.2.2.2.2.2.1 v.2.2.2.2.2.2.2.2.1 v.2.2.2.2.2.2.2.2.2 (fun o0 o1 o2 o3 o4 o5 o6 o7 o8 o9 => Q (.exit 0) (wW ig cm ge ij iq iv iu a1 a2 a3 a4 o0 o1 o2 o3 o4 o5 o6 o7 o8 o9))) (fun _ h => h) (by kernel_rfl) (fun f v hv => ?_) (fuel := fu) (v0 := (od, ku, k6, ky, kz, n5, n6, n7, n8, n9)) h
  refine mO (bs := [0, 10, 11, 12, 13, 14]) (ms := [0, 1, 2]) (nm := 3) ?_
  refine dG hX rfl (tr := (fun _ _ _ => False)) (fun _ _ _ h => h.elim) ?_
  refine Eq.mpr (anD ig cm ge ij iq iv iu a1 a2 a3 a4 v.1 v.2.1 v.2.2.1 v.2.2.2.1 v.2.2.2.2.1 v.2.2.2.2.2.1 v.2.2.2.2.2.2.1 v.2.2.2.2.2.2.2.1 v.2.2.2.2.2.2.2.2.1 v.2.2.2.2.2.2.2.2.2 _) ?_
  exact aaS ig cm ge ij iq iv iu a1 a2 a3 a4 v.1 v.2.1 v.2.2.1 v.2.2.2.1 v.2.2.2.2.1 v.2.2.2.2.2.1 v.2.2.2.2.2.2.1 v.2.2.2.2.2.2.2.1 v.2.2.2.2.2.2.2.2.1 v.2.2.2.2.2.2.2.2.2 (fun w0 w1 w2 w3 w4 w5 w6 w7 w8 w9 h => ⟨(w0, w1, w2, w3, w4, w5, w6, w7, w8, w9), rfl, h⟩) (fun _ _ _ _ _ _ _ _ _ _ h => h) hv
def Eb (ig:Nat) (cm ge ij iq iv iu:Nat -> Int) (a1 a2 a3 a4:Int) (nc:Bool) (k7 kn:Int) (mf:Nat) (mg mh mj ml : (Nat -> Int)) (mm : (Nat -> Nat)) (mn mo : (Nat -> Nat -> Int)) (nd:Bool) (mu:Int) (ne:Bool) (nh:Int) (ni:Bool) (nj:Int) (nl:Bool) : VS := ⟨dD 125 0 [(10, AV.bool false), (11, AV.ptr false 0 0 0), (12, AV.ptr false 1 0 0), (13, AV.sl (some nc) 2 mf 5), (15, AV.int .i64 k7), (16, AV.ptr false 3 0 0), (17, AV.int .i64 kn)], [.one true 32 [AV.int .i64 (aj a1 a2 6000), AV.int .i64 (ak a1 a2 6000)], .one true 32 [AV.int .i64 (aj a3 a4 6000), AV.int .i64 (ak a3 a4 6000)], .many false 35 mf [CF.I .i64 mg, CF.I .i64 mh, CF.I .i64 mj, CF.I .i64 ml, CF.S mm (fun k => [CF.I .i64 (mn k), CF.I .i64 (mo k)])], .one true 81 [AV.bool nd, AV.int .i64 mu, AV.bool ne, AV.int .i64 nh, AV.bool ni, AV.int .i64 nj, AV.bool nl]], false, 0⟩
def wX (ig:Nat) (cm ge ij iq iv iu:Nat -> Int) (a1 a2 a3 a4:Int) (o0:Bool) (o1 o2:Int) (o3:Nat) (o4 o5 o6 o7 : (Nat -> Int)) (o8 : (Nat -> Nat)) (o9 kv : (Nat -> Nat -> Int)) (lr:Bool) (ls:Int) (lu:Bool) (lv:Int) (lw:Bool) (lx:Int) (ly:Bool) : VS := ⟨dD 125 0 [(10, AV.bool false), (11, AV.ptr false 0 0 0), (12, AV.ptr false 1 0 0), (13, AV.sl (some o0) 2 o3 5), (15, AV.int .i64 o1), (16, AV.ptr false 3 0 0), (17, AV.int .i64 o2)], [.one true 32 [AV.int .i64 (aj a1 a2 6000), AV.int .i64 (ak a1 a2 6000)], .one true 32 [AV.int .i64 (aj a3 a4 6000), AV.int .i64 (ak a3 a4 6000)], .many false 35 o3 [CF.I .i64 o4, CF.I .i64 o5, CF.I .i64 o6, CF.I .i64 o7, CF.S o8 (fun k => [CF.I .i64 (o9 k), CF.I .i64 (kv k)])], .one true 81 [AV.bool lr, AV.int .i64 ls, AV.bool lu, AV.int .i64 lv, AV.bool lw, AV.int .i64 lx, AV.bool ly]], false, 0⟩
def Ec (ig:Nat) (cm ge ij iq iv iu:Nat -> Int) (a1 a2 a3 a4:Int) (o0:Bool) (o1 o2:Int) (o3:Nat) (o4 o5 o6 o7 : (Nat -> Int)) (o8 : (Nat -> Nat)) (o9 kv : (Nat -> Nat -> Int)) (lr:Bool) (ls:Int) (lu:Bool) (lv:Int) (lw:Bool) (lx:Int) (ly:Bool) : VS := ⟨dD 125 0 [(10, AV.bool false), (11, AV.ptr false 0 0 0), (12, AV.ptr false 1 0 0), (13, AV.sl (some o0) 2 o3 5), (15, AV.int .i64 o1), (16, AV.ptr false 3 0 0), (17, AV.int .i64 o2)], [.one true 32 [AV.int .i64 (aj a1 a2 6000), AV.int .i64 (ak a1 a2 6000)], .one true 32 [AV.int .i64 (aj a3 a4 6000), AV.int .i64 (ak a3 a4 6000)], .many false 35 o3 [CF.I .i64 o4, CF.I .i64 o5, CF.I .i64 o6, CF.I .i64 o7, CF.S o8 (fun k => [CF.I .i64 (o9 k), CF.I .i64 (kv k)])], .one true 81 [AV.bool lr, AV.int .i64 ls, AV.bool lu, AV.int .i64 lv, AV.bool lw, AV.int .i64 lx, AV.bool ly]], false, 0⟩
theorem anF (ig:Nat) (cm ge ij iq iv iu:Nat -> Int) (a1 a2 a3 a4:Int) (nc:Bool) (k7 kn:Int) (mf:Nat) (mg mh mj ml : (Nat -> Int)) (mm : (Nat -> Nat)) (mn mo : (Nat -> Nat -> Int)) (nd:Bool) (mu:Int) (ne:Bool) (nh:Int) (ni:Bool) (nj:Int) (nl:Bool) (Q : Exit -> VS -> Prop) : vwp tab (bC ZU) (fun _ _ _ => False) 0 (gY (dA (aF Tryz.f7) 1)) (Eb ig cm ge ij iq iv iu a1 a2 a3 a4 nc k7 kn mf mg mh mj ml mm mn mo nd mu ne nh ni nj nl) (QM [10, 11, 12, 13, 15, 16, 17] [0, 1, 2, 3] 4 Q) = Ik ig cm ge ij iq iv iu a1 a2 a3 a4 nc k7 kn mf mg mh mj ml mm mn mo nd mu ne nh ni nj nl (fun w0 w1 w2 w3 w4 w5 w6 w7 w8 w9 w10 w11 w12 w13 w14 w15 w16 w17 => Q .normal (Eb ig cm ge ij iq iv iu a1 a2 a3 a4 w0 w1 w2 w3 w4 w5 w6 w7 w8 w9 w10 w11 w12 w13 w14 w15 w16 w17)) (fun o0 o1 o2 o3 o4 o5 o6 o7 o8 o9 kv lr ls lu lv lw lx ly => Q (.exit 2) (wX ig cm ge ij iq iv iu a1 a2 a3 a4 o0 o1 o2 o3 o4 o5 o6 o7 o8 o9 kv lr ls lu lv lw lx ly)) (fun o0 o1 o2 o3 o4 o5 o6 o7 o8 o9 kv lr ls lu lv lw lx ly => Q .ret (Ec ig cm ge ij iq iv iu a1 a2 a3 a4 o0 o1 o2 o3 o4 o5 o6 o7 o8 o9 kv lr ls lu lv lw lx ly))  := by kernel_rfl
theorem anG {X : Cx} (hX : Std Tryz.prog tab (bC ZU) X) (b : Code) (hb : b = aF Tryz.f7) (ig:Nat) (cm ge ij iq iv iu:Nat -> Int) (a1 a2 a3 a4:Int) (fu:Nat) (nc:Bool) (k7 kn:Int) (mf:Nat) (mg mh mj ml : (Nat -> Int)) (mm : (Nat -> Nat)) (mn mo : (Nat -> Nat -> Int)) (nd:Bool) (mu:Int) (ne:Bool) (nh:Int) (ni:Bool) (nj:Int) (nl:Bool) (Q : Exit -> VS -> Prop) (h : yA ig cm ge ij iq iv iu a1 a2 a3 a4 fu nc k7 kn mf mg mh mj ml mm mn mo nd mu ne nh ni nj nl (fun o0 o1 o2 o3 o4 o5 o6 o7 o8 o9 kv lr ls lu lv lw lx ly => Q (.exit 2) (wX ig cm ge ij iq iv iu a1 a2 a3 a4 o0 o1 o2 o3 o4 o5 o6 o7 o8 o9 kv lr ls lu lv lw lx ly)) (fun o0 o1 o2 o3 o4 o5 o6 o7 o8 o9 kv lr ls lu lv lw lx ly => Q .ret (Ec ig cm ge ij iq iv iu a1 a2 a3 a4 o0 o1 o2 o3 o4 o5 o6 o7 o8 o9 kv lr ls lu lv lw lx ly))) : TrK X b 1 (Eb ig cm ge ij iq iv iu a1 a2 a3 a4 nc k7 kn mf mg mh mj ml mm mn mo nd mu ne nh ni nj nl) Q := by
  subst hb
  refine iF (V := Bool × Int × Int × Nat × (Nat -> Int) × (Nat -> Int) × (Nat -> Int) × (Nat -> Int) × (Nat -> Nat) × (Nat -> Nat -> Int) × (Nat -> Nat -> Int) × Bool × Int × Bool × Int × Bool × Int × Bool) (fun v => Eb ig cm ge ij iq iv iu a1 a2 a3 a4 v.1 v.2.1 v.2.2.1 v.2.2.2.1 v.2.2.2.2.1 v.2.2.2.2.2.1 v.2.2.2.2.2.2.1 v.2.2.2.2.2.2.2.1 v.2.2.2.2.2.2.2.2.1 v.2.2.2.2.2.2.2.2.2.1 v.2.2.2.2.2.2.2.2.2.2.1 v.2.2.2.2.2.2.2.2.2.2.2.1 v.2.2.2.2.2.2.2.2.2.2.2.2.1 v.2.2.2.2.2.2.2.2.2.2.2.2.2.1 v.2.2.2.2.2.2.2.2.2.2.2.2.2.2.1 v.2.2.2.2.2.2.2.2.2.2.2.2.2.2.2.1 v.2.2.2.2.2.2.2.2.2.2.2.2.2.2.2.2.1 v.2.2.2.2.2.2.2.2.2.2.2.2.2.2.2.2.2) (fun f v => yA ig cm ge ij iq iv iu a1 a2 a3 a4 f v.1 v.2.1 v.2.2.1 v.2.2.2.1 v.2.2.2.2.1 v.2.2.2.2.2.1 v.2.2.2.2.2.2.1 v.2.2.2.2.2.2.2.1 v.2.2.2.2.2.2.2.2.1 v.2.2.2.2.2.2.2.2.2.1 v.2.2.2.2.2.2.2.2.2.2.1 v.2.2.2.2.2.2.2.2.2.2.2.1 v.2.2.2.2.2.2.2.2.2.2.2.2.1 v.2.2.2.2.2.2.2.2.2.2.2.2.2.1 v.2.2.2.2.2.2.2.2.2.2.2.2.2.2.1 v.2.2.2.2.2.2.2.2.2.2.2.2.2.2.2.1 v.2.2.2.2.2.2.2.2.2.2.2.2.2.2.2.2.1 v.2.2.2.2.2.2.2.2.2.2.2.2.2.2.2.2.2 (fun o0 o1 o2 o3 o4 o5 o6 o7 o8 o9 kv lr ls lu lv lw lx ly => Q (.exit 2) (wX ig cm ge ij iq iv iu a1 a2 a3 a4 o0 o1 o2 o3 o4 o5 o6 o7 o8 o9 kv lr ls lu lv lw lx ly)) (fun o0 o1 o2 o3 o4 o5 o6 o7 o8 o9 kv lr ls lu lv lw lx ly => Q .ret (Ec ig cm ge ij iq iv iu a1 a2 a3 a4 o0 o1 o2 o3 o4 o5 o6 o7 o8 o9 kv lr ls lu lv lw lx ly))) (fun _ h => h) (by kernel_rfl) (fun f v hv => ?_) (fuel := fu) (v0 := (nc, k7, kn, mf, mg, mh, mj, ml, mm, mn, mo, nd, mu, ne, nh, ni, nj, nl)) h
  refine mO (bs := [10, 11, 12, 13, 15, 16, 17]) (ms := [0, 1, 2, 3]) (nm := 4) ?_
  refine dG hX rfl (tr := (fun _ _ _ => False)) (fun _ _ _ h => h.elim) ?_
  refine Eq.mpr (anF ig cm ge ij iq iv iu a1 a2 a3 a4 v.1 v.2.1 v.2.2.1 v.2.2.2.1 v.2.2.2.2.1 v.2.2.2.2.2.1 v.2.2.2.2.2.2.1 v.2.2.2.2.2.2.2.1 v.2.2.2.2.2.2.2.2.1 v.2.2.2.2.2.2.2.2.2.1 v.2.2.2.2.2.2.2.2.2.2.1 v.2.2.2.2.2.2.2.2.2.2.2.1 v.2.2.2.2.2.2.2.2.2.2.2.2.1 v.2.2.2.2.2.2.2.2.2.2.2.2.2.1 v.2.2.2.2.2.2.2.2.2.2.2.2.2.2.1 v.2.2.2.2.2.2.2.2.2.2.2.2.2.2.2.1 v.2.2.2.2.2.2.2.2.2.2.2.2.2.2.2.2.1 v.2.2.2.2.2.2.2.2.2.2.2.2.2.2.2.2.2 _) ?_
  exact aaU ig cm ge ij iq iv iu a1 a2 a3 a4 v.1 v.2.1 v.2.2.1 v.2.2.2.1 v.2.2.2.2.1 v.2.2.2.2.2.1 v.2.2.2.2.2.2.1 v.2.2.2.2.2.2.2.1 v.2.2.2.2.2.2.2.2.1 v.2.2.2.2.2.2.2.2.2.1 v.2.2.2.2.2.2.2.2.2.2.1 v.2.2.2.2.2.2.2.2.2.2.2.1 v.2.2.2.2.2.2.2.2.2.2.2.2.1 v.2.2.2.2.2.2.2.2.2.2.2.2.2.1 v.2.2.2.2.2.2.2.2.2.2.2.2.2.2.1 v.2.2.2.2.2.2.2.2.2.2.2.2.2.2.2.1 v.2.2.2.2.2.2.2.2.2.2.2.2.2.2.2.2.1 v.2.2.2.2.2.2.2.2.2.2.2.2.2.2.2.2.2 (fun w0 w1 w2 w3 w4 w5 w6 w7 w8 w9 w10 w11 w12 w13 w14 w15 w16 w17 h => ⟨(w0, w1, w2, w3, w4, w5, w6, w7, w8, w9, w10, w11, w12, w13, w14, w15, w16, w17), rfl, h⟩) (fun _ _ _ _ _ _ _ _ _ _ _ _ _ _ _ _ _ _ h => h) (fun _ _ _ _ _ _ _ _ _ _ _ _ _ _ _ _ _ _ h => h) hv
def ah2 (ig:Nat) (cm ge ij iq iv iu:Nat -> Int) (a1 a2 a3 a4:Int) (k:Nat) (st : VS) (Q : Exit -> VS -> Prop) : Prop := match k with
  | 0 => TL [0, 10, 11, 12, 13, 14] [0, 1, 2] 3 (convs st [⟨.t 13, 35, [CF.I .i64 (fun _ => 0), CF.I .i64 (fun _ => 0), CF.I .i64 (fun _ => 0), CF.I .i64 (fun _ => 0), CF.S (fun _ => 0) (fun k => [CF.I .i64 (fun _ => 0), CF.I .i64 (fun _ => 0)])]⟩]) (fun st => Ea ig cm ge ij iq iv iu a1 a2 a3 a4 (qAV (tAt st 13)) (intOf (tAt st 14)) (nAB (fK st 2)) (aA (cAB (fK st 2)) 0) (aA (cAB (fK st 2)) 1) (aA (cAB (fK st 2)) 2) (aA (cAB (fK st 2)) 3) (Ah (cAB (fK st 2)) 4) ((fun k => aA (iW (cAB (fK st 2)) 4 k) 0)) ((fun k => aA (iW (cAB (fK st 2)) 4 k) 1))) (fun st => yx ig cm ge ij iq iv iu a1 a2 a3 a4 fuel (qAV (tAt st 13)) (intOf (tAt st 14)) (nAB (fK st 2)) (aA (cAB (fK st 2)) 0) (aA (cAB (fK st 2)) 1) (aA (cAB (fK st 2)) 2) (aA (cAB (fK st 2)) 3) (Ah (cAB (fK st 2)) 4) ((fun k => aA (iW (cAB (fK st 2)) 4 k) 0)) ((fun k => aA (iW (cAB (fK st 2)) 4 k) 1)) (fun o0 o1 o2 o3 o4 o5 o6 o7 o8 o9 => Q (.exit 0) (wW ig cm ge ij iq iv iu a1 a2 a3 a4 o0 o1 o2 o3 o4 o5 o6 o7 o8 o9)))
  | 1 => TL [10, 11, 12, 13, 15, 16, 17] [0, 1, 2, 3] 4 (convs st []) (fun st => Eb ig cm ge ij iq iv iu a1 a2 a3 a4 (qAV (tAt st 13)) (intOf (tAt st 15)) (intOf (tAt st 17)) (nAB (fK st 2)) (aA (cAB (fK st 2)) 0) (aA (cAB (fK st 2)) 1) (aA (cAB (fK st 2)) 2) (aA (cAB (fK st 2)) 3) (Ah (cAB (fK st 2)) 4) ((fun k => aA (iW (cAB (fK st 2)) 4 k) 0)) ((fun k => aA (iW (cAB (fK st 2)) 4 k) 1)) (gV (mAt st 3 0)) (intOf (mAt st 3 1)) (gV (mAt st 3 2)) (intOf (mAt st 3 3)) (gV (mAt st 3 4)) (intOf (mAt st 3 5)) (gV (mAt st 3 6))) (fun st => yA ig cm ge ij iq iv iu a1 a2 a3 a4 fuel (qAV (tAt st 13)) (intOf (tAt st 15)) (intOf (tAt st 17)) (nAB (fK st 2)) (aA (cAB (fK st 2)) 0) (aA (cAB (fK st 2)) 1) (aA (cAB (fK st 2)) 2) (aA (cAB (fK st 2)) 3) (Ah (cAB (fK st 2)) 4) ((fun k => aA (iW (cAB (fK st 2)) 4 k) 0)) ((fun k => aA (iW (cAB (fK st 2)) 4 k) 1)) (gV (mAt st 3 0)) (intOf (mAt st 3 1)) (gV (mAt st 3 2)) (intOf (mAt st 3 3)) (gV (mAt st 3 4)) (intOf (mAt st 3 5)) (gV (mAt st 3 6)) (fun o0 o1 o2 o3 o4 o5 o6 o7 o8 o9 kv lr ls lu lv lw lx ly => Q (.exit 2) (wX ig cm ge ij iq iv iu a1 a2 a3 a4 o0 o1 o2 o3 o4 o5 o6 o7 o8 o9 kv lr ls lu lv lw lx ly)) (fun o0 o1 o2 o3 o4 o5 o6 o7 o8 o9 kv lr ls lu lv lw lx ly => Q .ret (Ec ig cm ge ij iq iv iu a1 a2 a3 a4 o0 o1 o2 o3 o4 o5 o6 o7 o8 o9 kv lr ls lu lv lw lx ly)))
  | _ => False
theorem aqh {X : Cx} (hX : Std Tryz.prog tab (bC ZU) X) (b : Code) (hb : b = aF Tryz.f7) (ig:Nat) (cm ge ij iq iv iu:Nat -> Int) (a1 a2 a3 a4:Int) (j:Nat) (st : VS) (Q : Exit -> VS -> Prop) (h : ah2 ig cm ge ij iq iv iu a1 a2 a3 a4 j st Q) : TrK X b j st Q := by
  unfold ah2 at h
  split at h
  . exact lF h (fun h' => anE hX b hb ig cm ge ij iq iv iu a1 a2 a3 a4 _ _ _ _ _ _ _ _ _ _ _ Q h')
  . exact lF h (fun h' => anG hX b hb ig cm ge ij iq iv iu a1 a2 a3 a4 _ _ _ _ _ _ _ _ _ _ _ _ _ _ _ _ _ _ _ Q h')
  . exact h.elim
def agi (ig:Nat) (cm ge ij iq iv iu:Nat -> Int) (a1 a2 a3 a4:Int) : List AV := [AV.rs none ig [CF.I .i64 cm, CF.I .i64 ge, CF.I .i64 ij, CF.I .i64 iq, CF.I .i64 iv, CF.I .i64 iu], AV.int .i64 a1, AV.int .i64 a2, AV.int .i64 a3, AV.int .i64 a4]
theorem awl (ig:Nat) (cm ge ij iq iv iu:Nat -> Int) (a1 a2 a3 a4:Int) (K : AV -> Prop) : vwp tab (bC ZU) (ah2 ig cm ge ij iq iv iu a1 a2 a3 a4) 0 (aF Tryz.f7) (entry (agi ig cm ge ij iq iv iu a1 a2 a3 a4) 125) (aV tab [.tmp 10] fun v s => K (v.frz s.mem)) = acW ig cm ge ij iq iv iu a1 a2 a3 a4 (fun r0 => K (AV.bool r0)) (fun p0 p1 p2 p3 p4 p5 p6 p7 p8 p9 y0 => Ea ig cm ge ij iq iv iu a1 a2 a3 a4 p0 p1 p2 p3 p4 p5 p6 p7 p8 p9 = Ea ig cm ge ij iq iv iu a1 a2 a3 a4 p0 p1 p2 p3 p4 p5 p6 p7 p8 p9 /\ yx ig cm ge ij iq iv iu a1 a2 a3 a4 fuel p0 p1 p2 p3 p4 p5 p6 p7 p8 p9 y0) (fun p0 p1 p2 p3 p4 p5 p6 p7 p8 p9 p10 p11 p12 p13 p14 p15 p16 p17 y0 y1 => Eb ig cm ge ij iq iv iu a1 a2 a3 a4 p0 p1 p2 p3 p4 p5 p6 p7 p8 p9 p10 p11 p12 p13 p14 p15 p16 p17 = Eb ig cm ge ij iq iv iu a1 a2 a3 a4 p0 p1 p2 p3 p4 p5 p6 p7 p8 p9 p10 p11 p12 p13 p14 p15 p16 p17 /\ yA ig cm ge ij iq iv iu a1 a2 a3 a4 fuel p0 p1 p2 p3 p4 p5 p6 p7 p8 p9 p10 p11 p12 p13 p14 p15 p16 p17 y0 y1) := by kernel_rfl
theorem aqi (ig:Nat) (cm ge ij iq iv iu:Nat -> Int) (a1 a2 a3 a4:Int) {K0 : Bool -> Prop} : acW ig cm ge ij iq iv iu a1 a2 a3 a4 K0 (yx ig cm ge ij iq iv iu a1 a2 a3 a4 fuel) (yA ig cm ge ij iq iv iu a1 a2 a3 a4 fuel) -> acW ig cm ge ij iq iv iu a1 a2 a3 a4 K0 (fun p0 p1 p2 p3 p4 p5 p6 p7 p8 p9 y0 => Ea ig cm ge ij iq iv iu a1 a2 a3 a4 p0 p1 p2 p3 p4 p5 p6 p7 p8 p9 = Ea ig cm ge ij iq iv iu a1 a2 a3 a4 p0 p1 p2 p3 p4 p5 p6 p7 p8 p9 /\ yx ig cm ge ij iq iv iu a1 a2 a3 a4 fuel p0 p1 p2 p3 p4 p5 p6 p7 p8 p9 y0) (fun p0 p1 p2 p3 p4 p5 p6 p7 p8 p9 p10 p11 p12 p13 p14 p15 p16 p17 y0 y1 => Eb ig cm ge ij iq iv iu a1 a2 a3 a4 p0 p1 p2 p3 p4 p5 p6 p7 p8 p9 p10 p11 p12 p13 p14 p15 p16 p17 = Eb ig cm ge ij iq iv iu a1 a2 a3 a4 p0 p1 p2 p3 p4 p5 p6 p7 p8 p9 p10 p11 p12 p13 p14 p15 p16 p17 /\ yA ig cm ge ij iq iv iu a1 a2 a3 a4 fuel p0 p1 p2 p3 p4 p5 p6 p7 p8 p9 p10 p11 p12 p13 p14 p15 p16 p17 y0 y1) := by
  unfold acW
  repeat' first
    | exact id
    | refine dU ?_
    | refine cO ?_ ?_
    | refine cZ ?_
    | refine fun h => ⟨rfl, aaT _ _ _ _ _ _ _ _ _ _ _  (fun _ _ _ _ _ _ _ _ _ _ => ?_) _ _ _ _ _ _ _ _ _ _ _  h⟩
    | refine fun h => ⟨rfl, aaV _ _ _ _ _ _ _ _ _ _ _  (fun _ _ _ _ _ _ _ _ _ _ _ _ _ _ _ _ _ _ => ?_) (fun _ _ _ _ _ _ _ _ _ _ _ _ _ _ _ _ _ _ => ?_) _ _ _ _ _ _ _ _ _ _ _ _ _ _ _ _ _ _ _  h⟩
def anH : List AV -> Option (Prop × RT)
  | [AV.rs sq0 sn0 sc0, AV.int .i64 a1, AV.int .i64 a2, AV.int .i64 a3, AV.int .i64 a4] => cond (fG [KC.I .i64, KC.I .i64, KC.I .i64, KC.I .i64, KC.I .i64, KC.I .i64] sc0) (some (alk (nOf sn0 sc0) (aA sc0 0) (aA sc0 1) (aA sc0 2) (aA sc0 3) (aA sc0 4) (aA sc0 5) a1 a2 a3 a4, RT.leaf (AV.bool (Vk (nOf sn0 sc0) (aA sc0 0) (aA sc0 1) (aA sc0 2) (aA sc0 3) (aA sc0 4) (aA sc0 5) a1 a2 a3 a4)))) none
  | _ => none
theorem awm : aU Tryz.prog 7 (.pure anH) := by
 intro xs p r h hp E w vs hr hv; unfold anH at h; split at h
 . rename_i sq0 sn0 sc0 a1 a2 a3 a4
   obtain ⟨hk0, h⟩ := dW h
   obtain ⟨rfl, rfl⟩ := aG h
   have hG := (show aO Tryz.prog ZU from ⟨aze, ard, ap4, awi, awk, trivial⟩)
   have hv' := ((AV.les.cons (AV.le.rs hk0) (AV.les.cons (AV.le.refl _) (AV.les.cons (AV.le.refl _) (AV.les.cons (AV.le.refl _) (AV.les.cons (AV.le.refl _) AV.les.nil))))) _ _ hv : VRs E.bare (agi (nOf sn0 sc0) (aA sc0 0) (aA sc0 1) (aA sc0 2) (aA sc0 3) (aA sc0 4) (aA sc0 5) a1 a2 a3 a4) vs)
   refine eF (c := aF Tryz.f7) (rs := [.tmp 10]) (ys := agi (nOf sn0 sc0) (aA sc0 0) (aA sc0 1) (aA sc0 2) (aA sc0 3) (aA sc0 4) (aA sc0 5) a1 a2 a3 a4) aX (gB hG) Tryz.func7 rfl (by kernel_rfl) rfl (by decide) (fun X hX hrho => ?_) E w vs hr hv'
   rw [Tryz.ntmps7]
   refine dG hX rfl (tr := ah2 (nOf sn0 sc0) (aA sc0 0) (aA sc0 1) (aA sc0 2) (aA sc0 3) (aA sc0 4) (aA sc0 5) a1 a2 a3 a4) (fun j st Q h => aqh hX _ rfl (nOf sn0 sc0) (aA sc0 0) (aA sc0 1) (aA sc0 2) (aA sc0 3) (aA sc0 4) (aA sc0 5) a1 a2 a3 a4 j st Q h) (Eq.mpr (awl (nOf sn0 sc0) (aA sc0 0) (aA sc0 1) (aA sc0 2) (aA sc0 3) (aA sc0 4) (aA sc0 5) a1 a2 a3 a4 (fun x => x = _)) ?_)
   exact aqi (nOf sn0 sc0) (aA sc0 0) (aA sc0 1) (aA sc0 2) (aA sc0 3) (aA sc0 4) (aA sc0 5) a1 a2 a3 a4 (atF (nOf sn0 sc0) (aA sc0 0) (aA sc0 1) (aA sc0 2) (aA sc0 3) (aA sc0 4) (aA sc0 5) a1 a2 a3 a4 hp rfl)
 . cases h

end
end Go.Proofs.YtbcegholicnflaaGreat
