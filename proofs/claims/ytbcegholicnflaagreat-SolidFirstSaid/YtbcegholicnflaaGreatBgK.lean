import Derived.Test.YtbcegholicnflaaGreatBgJ
set_option linter.unusedVariables false
set_option linter.unusedSimpArgs false
namespace Go.Ag
open Go.RowKit
section
variable {X : Cx} {st : VS} {E : Env} {a : Act} {w : World} {n : Nat}
theorem P9 : ∀ (l : List Oper) (j:Nat), JM l j = (l[j]?).bind (·.dst)
  | [], j => by simp [JM]
  | o :: r, 0 => by simp [JM]
  | o :: r, j + 1 => by simp [JM, P9 r j]
theorem SR.slot (h : SR X.C E st a w) {t : Nat} {v : AV} (hv : aS .dead st.tmps t = v) (hd : v ≠ .dead) : ∃ u, a.tmps[t]? = some u /\ VR E v u := by
  have hlen := h.tmps.length
  have hlt : t < st.tmps.length := by
    rcases Nat.lt_or_ge t st.tmps.length with h | h
    . exact h
    . rw [kZ _ h] at hv; exact absurd hv.symm hd
  have hg := h.tmps.get t undef
  rw [hv] at hg
  rw [Array.length_toList] at hlen
  refine ⟨_, Array.getElem?_eq_getElem (by omega), ?_⟩
  simpa [List.getD, show t < a.tmps.size by omega] using hg
theorem SR.JO (h : SR X.C E st a w) {t : Tmp} {b : Bool} (hv : aS .dead st.tmps t = .bool b) {v : AV} (e : v = .bool b) : SR X.C E (st.JO t v) a w := by
  subst e
  have : setAt st.tmps t (.bool b) = st.tmps := by
    rw [pR]
    rw [gy] at hv
    apply List.ext_getElem?
    intro i
    rw [List.getElem?_set]
    split
    . rename_i hi
      subst hi
      split
      . rename_i hlt
        rw [<- hv]
        simp [List.getD, hlt]
      . rename_i hlt
        rw [List.getElem?_eq_none (by omega)]
    . rfl
  unfold VS.JO
  rw [this]
  exact h
theorem acI {ops : Array Oper} {o : Oper} {yes no : VS -> Prop} (hs : SR X.C E st a w) (h : KR ops.toList o st yes no) :
    ∃ st1, SR X.C E st1 a w /\ st1.mem = st.mem /\ ((Region.wanted o (yielded ops a.tmps) = true /\ yes st1) \/ (Region.wanted o (yielded ops a.tmps) = false /\ no st1)) := by
  unfold KR at h
  unfold Region.wanted
  split at h
  . rename_i hg
    rw [hg]
    exact ⟨st, hs, rfl, .inl ⟨rfl, h⟩⟩
  . rename_i j want hg
    rw [hg]
    simp only
    rw [P9] at h
    have hop : (ops.toList[j]?) = ops[j]? := by simp
    rw [hop] at h
    unfold yielded
    split at h
    . rename_i hd
      rw [hd]
      exact ⟨st, hs, rfl, .inr ⟨rfl, h⟩⟩
    . rename_i t hd
      rw [hd]
      split at h
      . rename_i b hb
        obtain ⟨u, hu, hv⟩ := hs.slot hb (by simp)
        have hv := hv.nU
        subst hv
        simp only [Option.bind_some, hu]
        cases b with
        | true =>
          refine ⟨st.JO t (.bool true), hs.JO hb rfl, rfl, ?_⟩
          cases want with
          | true => exact .inl ⟨rfl, h⟩
          | false => exact .inr ⟨rfl, h⟩
        | false =>
          refine ⟨st.JO t (.bool false), hs.JO hb rfl, rfl, ?_⟩
          cases want with
          | true => exact .inr ⟨rfl, h⟩
          | false => exact .inl ⟨rfl, h⟩
      . rename_i hb
        obtain ⟨u, hu, hv⟩ := hs.slot hb (by simp)
        unfold VR at hv
        obtain ⟨l, rfl, _⟩ := hv
        simp only [Option.bind_some, hu]
        exact ⟨st, hs, rfl, .inr ⟨rfl, h⟩⟩
      . exact h.elim
theorem SR.skip (hs : SR X.C E st a w) (d : Option Tmp) : SR X.C E (st.put d (.tup [])) (a.put d undef) w := hs.put VR.apE
theorem U8 (hX : X.OK) {ops : Array Oper} {K : VS -> Prop} {L : Nat} {Q : Exit -> Act -> World -> Prop} (hQ : ∀ E' st' a' w', K st' -> SR X.C E' st' a' w' -> Q .normal a' w') :
    ∀ (rest : List Oper) (k slot:Nat) (st : VS) (E : Env) (a : Act) (w : World), (∀ j, rest[j]? = ops[k + j]?) -> aea X.T X.Γ ops.toList slot rest st K -> SR X.C E st a w -> Res E slot L -> L <= st.mem.length -> slot + jV rest <= L ->
      wpOpsIn (FW X.ρ) n X.P ops Q (List.range' k rest.length) a w
  | [], k, slot, st, E, a, w, _, h, hs, _, _, _ => hQ E st a w h hs
  | o :: rest, k, slot, st, E, a, w, hops, h, hs, hres, hL, hal => by
    have h0 : ops[k]? = some o := by simpa using (hops 0).symm
    have hrest : ∀ j, rest[j]? = ops[k + 1 + j]? := fun j => by have := hops (j + 1); simpa [Nat.add_assoc, Nat.add_comm 1 j] using this
    simp only [aea] at h
    simp only [List.length_cons, List.range'_succ]
    unfold wpOpsIn
    simp only [h0]
    obtain ⟨st1, hs1, hm1, hw⟩ := acI hs h
    have hslot : (cond (allocs o.op) (slot + 1) slot) + jV rest <= L := by
      simp only [jV] at hal
      cases ha : allocs o.op <;> simp [ha] at hal ⊢ <;> omega
    have hres' : ∀ E', Res E' slot L -> Res E' (cond (allocs o.op) (slot + 1) slot) L := fun E' hr b hb1 hb2 => hr b (by cases ha : allocs o.op <;> simp [ha] at hb1 <;> omega) hb2
    rcases hw with ⟨hw, h⟩ | ⟨hw, h⟩
    . rw [if_pos hw]
      refine aes hX.tab hX.env hs1 hres (by rw [hm1]; exact hL) (fun ha => by simp only [jV, ha, cond_true] at hal; omega) h (fun E' st' u w' hK hs' hr' hL' => ?_)
      exact U8 hX hQ rest (k + 1) _ st' E' _ w' hrest hK hs' hr' hL' hslot
    . rw [hw]
      simp only [Bool.false_eq_true, if_false]
      refine ⟨fun f _ => aep _ f, ?_⟩
      exact U8 hX hQ rest (k + 1) _ _ E _ w hrest h (hs1.skip o.dst) (hres' E hres) (by cases o.dst <;> (show L <= st1.mem.length) <;> rw [hm1] <;> exact hL) hslot
theorem SR.aev (hs : SR X.C E st a w) (L:Nat) : Res E (jJ st.mem) L := fun b hb _ => by
  cases h : E.bl b with
  | none => rfl
  | some x => have := (hs.mem.dom b x h).1; rw [jE] at hb; omega
theorem Yx (hX : X.OK) {id : Nat} {ops : Array Oper} {K : VS -> Prop} (h : UY X.T X.Γ ops.toList st K) : Tr X (.region id ops false) st (fun e s => e = .normal /\ K s) := by
  intro n E a w hs
  refine wpIn_region ?_
  unfold UY at h
  have := U8 (n := n) (L := jJ st.mem + jV ops.toList) (Q := fun e a' w' => ∃ E' st', (e = .normal /\ K st') /\ SR X.C E' st' a' w') hX (fun E' st' a' w' hK hs' => ⟨E', st', ⟨rfl, hK⟩, hs'⟩)
    ops.toList 0 (jJ st.mem) _ E a w (by simp) h (hs.extend _) (hs.aev _) (by simp [Gy, jE]) (Nat.le_refl _)
  rw [List.range_eq_range', <- Array.length_toList]
  exact this
end
end Go.Ag
