import Derived.Test.YtbcegholicnflaaGreatBgQ
set_option linter.unusedVariables false
namespace Go.Ag
open Go.RowKit
def ShapeL : List Kd -> List Value -> List Value -> Bool -> Prop
  | [], _, _, _ => False
  | [.I k], l, l', r => ∃ a b, l = [.int k a] /\ l' = [.int k b] /\ r = (a == b)
  | [.B], l, l', r => ∃ a b, l = [.bool a] /\ l' = [.bool b] /\ r = (a == b)
  | .I k :: ks, l, l', r => ∃ a b t t' q, l = .int k a :: t /\ l' = .int k b :: t' /\ r = ((a == b) && q) /\ ShapeL ks t t' q
  | .B :: ks, l, l', r => ∃ a b t t' q, l = .bool a :: t /\ l' = .bool b :: t' /\ r = ((a == b) && q) /\ ShapeL ks t t' q
theorem Kd.is_int {k : IntKind} {x : AV} (h : Kd.is (.I k) x = true) : ∃ n, x = .int k n := by
  cases x <;> simp [Kd.is] at h
  subst h
  exact ⟨_, rfl⟩
theorem Kd.is_bool {x : AV} (h : Kd.is .B x = true) : ∃ n, x = .bool n := by
  cases x <;> simp [Kd.is] at h
  exact ⟨_, rfl⟩
theorem shape_of {E : Env} : ∀ {ks : List Kd} {xs ys : List AV} {l l' : List Value} {r : Bool}, sameCells ks xs ys = some r -> VRs E xs l -> VRs E ys l' -> ShapeL ks l l' r
  | [], xs, ys, l, l', r, h, _, _ => by simp [sameCells] at h
  | k :: ks, [], ys, l, l', r, h, _, _ => by cases ks <;> simp [sameCells] at h
  | k :: ks, x :: xs, [], l, l', r, h, _, _ => by cases ks <;> cases xs <;> simp [sameCells] at h
  | [k], [x], [y], l, l', r, h, hx, hy => by
    simp only [sameCells] at h
    cases hk : (k.is x && k.is y) with
    | false => rw [hk] at h; cases h
    | true =>
      rw [hk] at h
      rw [Bool.and_eq_true] at hk
      simp only [cond_true, Option.some.injEq] at h
      obtain ⟨u, us, rfl, h1, h2⟩ := hx.cons_inv
      obtain ⟨u', us', rfl, h1', h2'⟩ := hy.cons_inv
      have := h2.nil_inv; subst this
      have := h2'.nil_inv; subst this
      cases k with
      | I k =>
        obtain ⟨a, rfl⟩ := Kd.is_int hk.1
        obtain ⟨b, rfl⟩ := Kd.is_int hk.2
        have := h1.int_inv; subst this
        have := h1'.int_inv; subst this
        exact ⟨a, b, rfl, rfl, by rw [← h]; simp [cellEq, ieq_eq]⟩
      | B =>
        obtain ⟨a, rfl⟩ := Kd.is_bool hk.1
        obtain ⟨b, rfl⟩ := Kd.is_bool hk.2
        have := h1.bool_inv; subst this
        have := h1'.bool_inv; subst this
        exact ⟨a, b, rfl, rfl, by rw [← h]; simp [cellEq, beqB_eq]⟩
  | [k], x :: x2 :: xs, y :: ys, l, l', r, h, _, _ => by cases ys <;> simp [sameCells] at h
  | [k], [x], y :: y2 :: ys, l, l', r, h, _, _ => by simp [sameCells] at h
  | k :: k2 :: ks, x :: xs, y :: ys, l, l', r, h, hx, hy => by
    simp only [sameCells] at h
    cases hk : (k.is x && k.is y) with
    | false => rw [hk] at h; cases h
    | true =>
      rw [hk] at h
      rw [Bool.and_eq_true] at hk
      simp only [cond_true, Option.map_eq_some_iff] at h
      obtain ⟨q, hq, h⟩ := h
      obtain ⟨u, us, rfl, h1, h2⟩ := hx.cons_inv
      obtain ⟨u', us', rfl, h1', h2'⟩ := hy.cons_inv
      have ih := shape_of hq h2 h2'
      cases k with
      | I k =>
        obtain ⟨a, rfl⟩ := Kd.is_int hk.1
        obtain ⟨b, rfl⟩ := Kd.is_int hk.2
        have := h1.int_inv; subst this
        have := h1'.int_inv; subst this
        exact ⟨a, b, us, us', q, rfl, rfl, by rw [← h]; simp [cellEq, ieq_eq], ih⟩
      | B =>
        obtain ⟨a, rfl⟩ := Kd.is_bool hk.1
        obtain ⟨b, rfl⟩ := Kd.is_bool hk.2
        have := h1.bool_inv; subst this
        have := h1'.bool_inv; subst this
        exact ⟨a, b, us, us', q, rfl, rfl, by rw [← h]; simp [cellEq, beqB_eq], ih⟩
end Go.Ag
