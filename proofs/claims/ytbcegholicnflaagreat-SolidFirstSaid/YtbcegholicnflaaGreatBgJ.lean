import Derived.Test.YtbcegholicnflaaGreatBgI
set_option linter.unusedVariables false
set_option linter.unusedSimpArgs false
namespace Go.Ag
open Go.RowKit
structure Cx where
  P : Program
  T : Tab
  Γ : wK
  C : Ctx
  ρ : Option Nat
structure Cx.OK (X : Cx) : Prop where
  tab : kP X.P X.T
  env : J5 X.P X.Γ
def Tr (X : Cx) (c : Code) (st : VS) (Q : Exit -> VS -> Prop) : Prop :=
  ∀ n E a w, SR X.C E st a w -> c.wpIn (FW X.ρ) n X.P (fun e a' w' => ∃ E' st', Q e st' /\ SR X.C E' st' a' w') a w
def Ref (C : Ctx) (st st2 : VS) : Prop := ∀ E a w, SR C E st a w -> ∃ E2, SR C E2 st2 a w
theorem Ref.refl (C : Ctx) (st : VS) : Ref C st st := fun E _ _ h => ⟨E, h⟩
theorem Ref.trans {C : Ctx} {a b c : VS} (h : Ref C a b) (k : Ref C b c) : Ref C a c := fun E x w hs => let ⟨E2, h2⟩ := h E x w hs; k E2 x w h2
section
variable {X : Cx} {c : Code} {st st2 : VS} {Q Q' : Exit -> VS -> Prop}
theorem Tr.mono (h : Tr X c st Q) (hq : ∀ e s, Q e s -> Q' e s) : Tr X c st Q' := fun n E a w hs =>
  wpIn_mono (h n E a w hs) fun e a' w' ⟨E', st', q, r⟩ => ⟨E', st', hq _ _ q, r⟩
theorem Tr.ref (hr : Ref X.C st st2) (h : Tr X c st2 Q) : Tr X c st Q := fun n E a w hs =>
  let ⟨E2, h2⟩ := hr E a w hs; h n E2 a w h2
theorem Tr.post (h : Tr X c st (fun e s => ∃ s2, Ref X.C s s2 /\ Q e s2)) : Tr X c st Q := fun n E a w hs =>
  wpIn_mono (h n E a w hs) fun e a' w' ⟨E', st', ⟨s2, hr, q⟩, r⟩ => let ⟨E2, h2⟩ := hr E' a' w' r; ⟨E2, s2, q, h2⟩
theorem Yw {F : Fence} {n : Nat} {P : Program} {Q : Exit -> Act -> World -> Prop} {a : Act} {w : World} {c : Code} {ι : Type} (I : ι -> Act -> World -> Prop) (μ : ι -> Nat) (i₀ : ι) (h₀ : I i₀ a w)
    (round : ∀ i a w, I i a w -> c.wpIn F n P (Exit.then (fun a' w' => ∃ j, I j a' w' /\ μ j < μ i) Q) a w) : (Code.loop c).wpIn F n P Q a w := by
  intro b k cs hro hb hr
  have key : ∀ j i a w, μ i = j -> I i a w ->
      ∃ e a' w', Q e a' w' /\ ArrivesIn (Machine.fenced P F) P (lone (b.atR a (.code c :: .inLoop c :: k)) cs w) b k cs e a' w' := by
    intro j
    induction j using Nat.strongRecOn with
    | _ j ih =>
      intro i a w hn hI
      obtain ⟨e, a₁, w₁, hq, harr⟩ := round i a w hI b (.inLoop c :: k) cs hro hb hr
      cases e with
      | normal =>
        obtain ⟨i₁, hI₁, hlt⟩ := hq
        obtain ⟨e₂, a₂, w₂, hq₂, harr₂⟩ := ih (μ i₁) (hn ▸ hlt) i₁ a₁ w₁ rfl hI₁
        exact ⟨e₂, a₂, w₂, hq₂, .of_steps (StepsIn.trans harr (.one (fenced_calm hb hr rfl) stepR_inLoop)) harr₂⟩
      | exit id => exact ⟨_, a₁, w₁, hq, .pass (x := .inLoop c) rfl (fun _ _ => .inl (by simp)) harr⟩
      | goto l => exact ⟨_, a₁, w₁, hq, .pass (x := .inLoop c) rfl (fun _ _ => .inl (by simp)) harr⟩
      | ret => exact ⟨_, a₁, w₁, hq, .pass (x := .inLoop c) rfl (fun _ _ => .inl (by simp)) harr⟩
      | panic ch => exact ⟨_, a₁, w₁, hq, .pass (x := .inLoop c) rfl (fun _ _ => .inl (by simp)) harr⟩
      | outgrown => exact ⟨_, a₁, w₁, hq, .pass (x := .inLoop c) rfl (fun _ _ => .inl (by simp)) harr⟩
  obtain ⟨e, a', w', hq, harr⟩ := key _ i₀ a w rfl h₀
  exact ⟨e, a', w', hq, .of_steps (.one (fenced_calm hb hr rfl) stepR_loop) harr⟩
def aeu {ι : Type} (C : Ctx) (S : ι -> VS) (μ : ι -> Nat) (i : ι) (Q : Exit -> VS -> Prop) : Exit -> VS -> Prop
  | .normal, s => ∃ j, μ j < μ i /\ Ref C s (S j)
  | e, s => Q e s
theorem Tr.loop {ι : Type} (S : ι -> VS) (μ : ι -> Nat) (i₀ : ι) (h₀ : Ref X.C st (S i₀)) (h : ∀ i, Tr X c (S i) (aeu X.C S μ i Q)) : Tr X (.loop c) st Q := by
  intro n E a w hs
  obtain ⟨E0, h0⟩ := h₀ E a w hs
  refine Yw (fun i a w => ∃ E, SR X.C E (S i) a w) μ i₀ ⟨E0, h0⟩ (fun i a w ⟨E1, h1⟩ => ?_)
  refine wpIn_mono (h i n E1 a w h1) fun e a' w' ⟨E', st', q, r⟩ => ?_
  cases e with
  | normal =>
    obtain ⟨j, hj, hr⟩ := q
    obtain ⟨E2, h2⟩ := hr E' a' w' r
    exact ⟨j, ⟨E2, h2⟩, hj⟩
  | exit id => exact ⟨E', st', q, r⟩
  | goto l => exact ⟨E', st', q, r⟩
  | ret => exact ⟨E', st', q, r⟩
  | panic ch => exact ⟨E', st', q, r⟩
  | outgrown => exact ⟨E', st', q, r⟩
end
end Go.Ag
