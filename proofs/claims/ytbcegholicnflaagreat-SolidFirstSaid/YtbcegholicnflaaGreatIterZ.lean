import Derived.Test.YtbcegholicnflaaGreatBgV
import Derived.Test.YtbcegholicnflaaGreatTabB
import Derived.RangeFuncBox
import Derived.RangeFuncLeaves
import Derived.Shelf.Abstract
import Derived.WalkKit
import Derived.OwnWalkIn
import Derived.TacticsInMore
import Derived.LoopNIn
import Derived.LoopIn
set_option linter.unusedVariables false
set_option linter.unusedSimpArgs false
namespace Go.Proofs.YtbcegholicnflaaGreat
open Go.RowKit Go.Ag
theorem iV {w : World} {a : Addr} {v : Value} (h : w.cell? a = some v) (o : Obj) : (w.alloc o).cell? a = some v := by
  have hlt : a.block < w.heap.size := by
    unfold World.cell? at h
    rcases Nat.lt_or_ge a.block w.heap.size with hb | hb
    . exact hb
    . rw [Array.getElem?_eq_none hb] at h
      cases h
  rw [World.cell?_of_block (Below.heap_alloc w o a.block hlt)]
  exact h
set_option maxRecDepth 100000 in
set_option maxHeartbeats 4000000 in
theorem Z5 (n m l B o N cp b off:Nat) (f g:Nat -> Int) (hN : N <= 1000000) (J : Nat -> World -> Prop) (Jx : World -> Prop)
    (hR : ∀ k W, J k W -> W.cell? ⟨B, o, none⟩ = some (.slice (some ⟨b, off, none⟩) N cp) /\ ∀ j, j < N -> W.cell? ⟨b, off + j * 2, none⟩ = some (.int .i64 (f j)) /\ W.cell? ⟨b, off + j * 2 + 1, none⟩ = some (.int .i64 (g j)))
    (hK : ∀ k W W', J k W -> Keep (fun i => W.heap.size <= i) W W' -> J k W')
    (hY : ∀ k W, k < N -> J k W -> YieldAt Fence.wide (m - 1) Tryz.prog l #[.agg #[.int .i64 (f k), .int .i64 (g k)], .agg #[.int .i64 (f (nxE N k)), .int .i64 (g (nxE N k))]] W fun e W' =>
      (e = .returned (.bool true) /\ J (k + 1) W') \/ (e = .returned (.bool false) /\ Jx W'))
    (W : World) (h0 : J 0 W) :
    CallsIn Fence.wide m Tryz.prog 225 #[.func (.yield l) #[] #[], .pointer (some ⟨B, o, none⟩)] W fun e W' => (∃ v, e = .returned v) /\ (J N W' \/ Jx W') := by
  refine callsIn_of_wp Tryz.func225 rfl trivial ?_ rfl
  obtain ⟨hc, hcs⟩ := hR 0 W h0
  simp only [Tryz.ntmps225, List.size_toArray, List.length_cons, List.length_nil, Nat.reduceAdd, Nat.reduceSub, Array.replicate_succ, Array.replicate_zero, List.push_toArray, List.append_toArray, List.nil_append, List.cons_append]
  gi_wp2
  gi_loopw [14] (fun i wr => ∃ k : Nat, k <= N /\ i = .int .i64 k /\ J k wr)
    (fun i _ => N - (intOf i).toNat)
  case atStart => exact ⟨0, Nat.zero_le _, rfl, h0⟩
  case round =>
    obtain ⟨k, hk, rfl, hJs⟩ := hrel
    obtain ⟨hc', hcs'⟩ := hR k wr hJs
    by_cases hlt : k < N
    . obtain ⟨hx, hy⟩ := hcs' k hlt
      obtain ⟨hx0, hy0⟩ := hcs' 0 (by omega)
      rw [Nat.zero_mul, Nat.add_zero] at hx0 hy0
      by_cases hlast : k + 1 < N
      . obtain ⟨hx1, hy1⟩ := hcs' (k + 1) hlast
        have hnx : nxE N k = k + 1 := if_pos hlast
        have a1 := iV hc'
        have a2 := iV hx0
        have a3 := iV hy0
        have a4 := fun o1 o2 => iV (iV hc' o1) o2
        have a5 := fun o1 o2 => iV (iV hx1 o1) o2
        have a6 := fun o1 o2 => iV (iV hy1 o1) o2
        have hJ2 : J k ((wr.alloc (Obj.cells #[Value.int IntKind.i64 (f k), Value.int IntKind.i64 (g k)] 32)).alloc (Obj.cells #[Value.int IntKind.i64 (f (k + 1)), Value.int IntKind.i64 (g (k + 1))] 32)) :=
          hK _ _ _ hJs ((Keep.alloc _ wr _).trans ((Keep.alloc (fun _ => False) _ _).mono fun _ _ h => h.elim))
        obtain ⟨fn, tmps, assign, body, hyy, hRR⟩ := hY k _ hlt hJ2
        rw [hnx] at hyy
        clear hc hcs h0 hcs' hJs hJ2
        gi_wp2
        refine ⟨(fun h => by cases h), hRR.mono ?_⟩
        rintro e W3 (⟨rfl, hJ3⟩ | ⟨rfl, hJx3⟩)
        . gi_wp2
          go_roundw
          case rel => exact ⟨k + 1, by omega, by simp, hJ3⟩
          case measure => simp [RowKit.intOf]; omega
        . gi_wp2
          refine bodyPost_ret (results_none rfl _ _ _) rfl ?_
          exact ⟨⟨_, rfl⟩, .inr hJx3⟩
      . have hnx : nxE N k = 0 := if_neg hlast
        have a1 := iV hc'
        have a2 := iV hx0
        have a3 := iV hy0
        have a4 := fun o1 o2 => iV (iV hc' o1) o2
        have hJ2 : J k ((wr.alloc (Obj.cells #[Value.int IntKind.i64 (f k), Value.int IntKind.i64 (g k)] 32)).alloc (Obj.cells #[Value.int IntKind.i64 (f 0), Value.int IntKind.i64 (g 0)] 32)) :=
          hK _ _ _ hJs ((Keep.alloc _ wr _).trans ((Keep.alloc (fun _ => False) _ _).mono fun _ _ h => h.elim))
        obtain ⟨fn, tmps, assign, body, hyy, hRR⟩ := hY k _ hlt hJ2
        rw [hnx] at hyy
        clear hc hcs h0 hcs' hJs hJ2
        gi_wp2
        refine ⟨(fun h => by cases h), hRR.mono ?_⟩
        rintro e W3 (⟨rfl, hJ3⟩ | ⟨rfl, hJx3⟩)
        . gi_wp2
          go_roundw
          case rel => exact ⟨k + 1, by omega, by simp, hJ3⟩
          case measure => simp [RowKit.intOf]; omega
        . gi_wp2
          refine bodyPost_ret (results_none rfl _ _ _) rfl ?_
          exact ⟨⟨_, rfl⟩, .inr hJx3⟩
    . obtain rfl : k = N := by omega
      clear hc hcs h0 hcs'
      gi_wp2
      go_end0
      exact ⟨⟨_, rfl⟩, .inl hJs⟩
set_option maxRecDepth 100000 in
set_option maxHeartbeats 2000000 in
theorem Z7 (m l B o cp:Nat) (av : Option Addr) (J : Nat -> World -> Prop) (W : World) (hc : W.cell? ⟨B, o, none⟩ = some (.slice av 0 cp)) (h0 : J 0 W) :
    CallsIn Fence.wide m Tryz.prog 225 #[.func (.yield l) #[] #[], .pointer (some ⟨B, o, none⟩)] W fun e W' => (∃ v, e = .returned v) /\ J 0 W' := by
  refine callsIn_of_wp Tryz.func225 rfl trivial ?_ rfl
  simp only [Tryz.ntmps225, List.size_toArray, List.length_cons, List.length_nil, Nat.reduceAdd, Nat.reduceSub, Array.replicate_succ, Array.replicate_zero, List.push_toArray, List.append_toArray, List.nil_append, List.cons_append]
  gi_wp2
  gi_loopw [14] (fun i wr => i = .int .i64 0 /\ J 0 wr) (fun _ _ => 0)
  case atStart => exact ⟨rfl, h0⟩
  case round =>
    obtain ⟨rfl, hJs⟩ := hrel
    gi_wp2
    go_end0
    exact ⟨⟨_, rfl⟩, hJs⟩
def Gv : List AV -> Option (Prop × Nat × (Nat -> List AV))
  | [AV.rp [AV.rs q n c] 0] => cond (fG [KC.I .i64, KC.I .i64] c) (some (nOf n c <= 1000000, nOf n c, fun k => [AV.agg [AV.int .i64 (aA c 0 k), AV.int .i64 (aA c 1 k)], AV.agg [AV.int .i64 (aA c 0 (nxE (nOf n c) k)), AV.int .i64 (aA c 1 (nxE (nOf n c) k))]])) none
  | _ => none
theorem JC : BI Tryz.prog 225 Gv := by
  refine ⟨fun args w => rY (fn := Tryz.f225) (c := aF Tryz.f225) Tryz.func225 (by kernel_rfl) rfl, ?_⟩
  intro cap p N args h hp E lb hlb w0 hr
  unfold Gv at h
  split at h
  . rename_i q n c
    have hk : fG [KC.I .i64, KC.I .i64] c = true := by
      cases hh : fG [KC.I .i64, KC.I .i64] c with
      | true => rfl
      | false => rw [hh] at h; cases h
    rw [hk, cond_true] at h
    simp only [Option.some.injEq, Prod.mk.injEq] at h
    obtain ⟨rfl, rfl, rfl⟩ := h
    obtain ⟨f, hf⟩ : ∃ f, f = aA c 0 := ⟨_, rfl⟩
    obtain ⟨g, hg⟩ : ∃ g, g = aA c 1 := ⟨_, rfl⟩
    rw [<- hf, <- hg]
    obtain ⟨N, hN⟩ : ∃ N, N = nOf n c := ⟨_, rfl⟩
    rw [<- hN] at hp ⊢
    refine ⟨fun k => #[.agg #[.int .i64 (f k), .int .i64 (g k)], .agg #[.int .i64 (f (nxE N k)), .int .i64 (g (nxE N k))]], fun k hk => ?_, ?_⟩
    . unfold VRs
      refine ⟨_, _, rfl, by unfold VR; exact ⟨_, rfl, VRs.cons (by unfold VR; rfl) (VRs.cons (by unfold VR; rfl) (VRs.nil _))⟩, VRs.cons (by unfold VR; exact ⟨_, rfl, VRs.cons (by unfold VR; rfl) (VRs.cons (by unfold VR; rfl) (VRs.nil _))⟩) (VRs.nil _)⟩
    . intro m l J Jx W hJR hJk hJxk hY h0
      obtain ⟨v, rest, rfl, hv, hrest⟩ := hlb.cons_inv
      have := hrest.jO
      subst this
      unfold VR at hv
      obtain ⟨a, us, rfl, hsp, hus, hro⟩ := hv
      obtain ⟨u, us', rfl, hu, hus'⟩ := hus.cons_inv
      have := hus'.jO
      subst this
      have hu := AV.le.rs hk _ _ hu
      rw [<- hN] at hu
      have hcell : ∀ W, OJ E W -> W.cell? ⟨a.block, a.off, none⟩ = some u := fun W h => (h _ _ _ (hro 0 (by simp))).2
      obtain ⟨B, o, sp⟩ := a
      cases hsp
      have ha : (⟨B, o, none⟩ : Addr).add 0 = ⟨B, o, none⟩ := by unfold Addr.add; simp
      rw [ha]
      unfold VR at hu
      have nilcase : ∀ av cp, u = .slice av 0 cp -> N = 0 -> CallsIn Fence.wide m Tryz.prog 225 (#[.func (.yield l) #[] #[]] ++ [Value.pointer (some ⟨B, o, none⟩)].toArray) W fun e W' => (∃ v, e = .returned v) /\ (J N W' \/ Jx W') := by
        rintro av cp rfl rfl
        exact (Z7 m l B o cp av J W (hcell W (hJR 0 W h0)) h0).mono fun e W' ⟨h1, h2⟩ => ⟨h1, .inl h2⟩
      rcases hu with ⟨_, h1, h2⟩ | ⟨_, a2, cp, h1, h2, h3⟩
      . exact nilcase none 0 h2 h1
      . by_cases hz : N = 0
        . exact nilcase (some a2) cp (by rw [h1, hz]) hz
        . obtain ⟨b, off, sp2⟩ := a2
          have := (h3 0 (by omega)).1
          simp only at this
          subst this
          refine Z5 0 m l B o N cp b off f g hp J Jx (fun k W hJ => ⟨by rw [<- h1]; exact hcell W (hJR k W hJ), fun j hj => ?_⟩) hJk hY W h0
          obtain ⟨_, _, us, hcs, hrr⟩ := h3 j hj
          have hRW := hJR k W hJ
          obtain ⟨e1, e2⟩ : us = [.int .i64 (f j), .int .i64 (g j)] /\ True := by
            unfold Hg Hg Hg fD fD fD CFR at hcs
            obtain ⟨x, xs, rfl, hx, y, ys, rfl, hy, hys⟩ := hcs
            rw [hf, hg]
            exact ⟨by rw [hx, hy, hys], trivial⟩
          subst e1
          have r0 := (hRW _ _ _ (hrr 0 (by simp))).2
          have r1 := (hRW _ _ _ (hrr 1 (by simp))).2
          simp only [List.length_cons, List.length_nil, Nat.add_zero, Nat.zero_add, Nat.reduceAdd] at r0 r1
          exact ⟨r0, by rw [Nat.add_assoc]; exact r1⟩
  . cases h
end Go.Proofs.YtbcegholicnflaaGreat
