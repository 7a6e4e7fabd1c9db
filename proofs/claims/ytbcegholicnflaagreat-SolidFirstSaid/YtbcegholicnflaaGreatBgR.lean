import Derived.Test.YtbcegholicnflaaGreatBgQ
set_option linter.unusedVariables false
namespace Go.Ag
open Go.RowKit
def mV : List Kd -> List Value -> List Value -> Bool -> Prop
  | [], _, _, _ => False
  | [.I k], l, l', r => ∃ a b, l = [.int k a] /\ l' = [.int k b] /\ r = (a == b)
  | [.B], l, l', r => ∃ a b, l = [.bool a] /\ l' = [.bool b] /\ r = (a == b)
  | .I k :: ks, l, l', r => ∃ a b t t' q, l = .int k a :: t /\ l' = .int k b :: t' /\ r = ((a == b) && q) /\ mV ks t t' q
  | .B :: ks, l, l', r => ∃ a b t t' q, l = .bool a :: t /\ l' = .bool b :: t' /\ r = ((a == b) && q) /\ mV ks t t' q
theorem Kd.Vg {k : IntKind} {x : AV} (h : Kd.is (.I k) x = true) : ∃ n, x = .int k n := by
  cases x <;> simp [Kd.is] at h
  subst h
  exact ⟨_, rfl⟩
theorem Kd.Po {x : AV} (h : Kd.is .B x = true) : ∃ n, x = .bool n := by
  cases x <;> simp [Kd.is] at h
  exact ⟨_, rfl⟩
theorem Xx {E : Env} : ∀ {ks : List Kd} {xs ys : List AV} {l l' : List Value} {r : Bool}, lY ks xs ys = some r -> VRs E xs l -> VRs E ys l' -> mV ks l l' r
  | [], xs, ys, l, l', r, h, _, _ => by simp [lY] at h
  | k :: ks, [], ys, l, l', r, h, _, _ => by cases ks <;> simp [lY] at h
  | k :: ks, x :: xs, [], l, l', r, h, _, _ => by cases ks <;> cases xs <;> simp [lY] at h
  | [k], [x], [y], l, l', r, h, hx, hy => by
    simp only [lY] at h
    cases hk : (k.is x && k.is y) with
    | false => rw [hk] at h; cases h
    | true =>
      rw [hk] at h
      rw [Bool.and_eq_true] at hk
      simp only [cond_true, Option.some.injEq] at h
      obtain ⟨u, us, rfl, h1, h2⟩ := hx.cons_inv
      obtain ⟨u', us', rfl, h1', h2'⟩ := hy.cons_inv
      have := h2.jO; subst this
      have := h2'.jO; subst this
      cases k with
      | I k =>
        obtain ⟨a, rfl⟩ := Kd.Vg hk.1
        obtain ⟨b, rfl⟩ := Kd.Vg hk.2
        have := h1.iP; subst this
        have := h1'.iP; subst this
        exact ⟨a, b, rfl, rfl, by rw [<- h]; simp [KQ, PN]⟩
      | B =>
        obtain ⟨a, rfl⟩ := Kd.Po hk.1
        obtain ⟨b, rfl⟩ := Kd.Po hk.2
        have := h1.nU; subst this
        have := h1'.nU; subst this
        exact ⟨a, b, rfl, rfl, by rw [<- h]; simp [KQ, jU]⟩
  | [k], x :: x2 :: xs, y :: ys, l, l', r, h, _, _ => by cases ys <;> simp [lY] at h
  | [k], [x], y :: y2 :: ys, l, l', r, h, _, _ => by simp [lY] at h
  | k :: k2 :: ks, x :: xs, y :: ys, l, l', r, h, hx, hy => by
    simp only [lY] at h
    cases hk : (k.is x && k.is y) with
    | false => rw [hk] at h; cases h
    | true =>
      rw [hk] at h
      rw [Bool.and_eq_true] at hk
      simp only [cond_true, Option.map_eq_some_iff] at h
      obtain ⟨q, hq, h⟩ := h
      obtain ⟨u, us, rfl, h1, h2⟩ := hx.cons_inv
      obtain ⟨u', us', rfl, h1', h2'⟩ := hy.cons_inv
      have ih := Xx hq h2 h2'
      cases k with
      | I k =>
        obtain ⟨a, rfl⟩ := Kd.Vg hk.1
        obtain ⟨b, rfl⟩ := Kd.Vg hk.2
        have := h1.iP; subst this
        have := h1'.iP; subst this
        exact ⟨a, b, us, us', q, rfl, rfl, by rw [<- h]; simp [KQ, PN], ih⟩
      | B =>
        obtain ⟨a, rfl⟩ := Kd.Po hk.1
        obtain ⟨b, rfl⟩ := Kd.Po hk.2
        have := h1.nU; subst this
        have := h1'.nU; subst this
        exact ⟨a, b, us, us', q, rfl, rfl, by rw [<- h]; simp [KQ, jU], ih⟩
end Go.Ag
