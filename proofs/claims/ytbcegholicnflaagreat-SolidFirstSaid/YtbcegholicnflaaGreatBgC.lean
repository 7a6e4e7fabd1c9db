import Derived.Test.YtbcegholicnflaaGreatBgB
set_option linter.unusedVariables false
set_option linter.unusedSimpArgs false
namespace Go.Ag
open Go.RowKit
def AB.own : AB -> Bool
  | .gone => false
  | .one o _ _ => o
  | .many o _ _ _ => o
def AB.ty : AB -> TypeId
  | .gone => 0
  | .one _ t _ => t
  | .many _ t _ _ => t
def AB.sz : AB -> Nat
  | .gone => 0
  | .one _ _ cs => cs.length
  | .many _ _ _ c => c.length
def AB.n : AB -> Nat
  | .gone => 0
  | .one _ _ _ => 1
  | .many _ _ n _ => n
def AB.get : AB -> Nat -> List AV
  | .gone => fun _ => []
  | .one _ _ cs => fun _ => cs
  | .many _ _ _ c => rowOf c
def AB.env (E : Env) : AB -> Env
  | .many .. => E.bare
  | _ => E
theorem AB.aei {E E' : Env} (h : E.le E') (ab : AB) : (ab.env E).le (ab.env E') := by
  cases ab
  . exact h
  . exact h
  . exact h.bare
def U1 (E : Env) (x : Bl) (ab : AB) (w : World) : Prop :=
  ∀ i, i < ab.n -> ∃ l : List Value, VRs (ab.env E) (ab.get i) l /\ l.length = ab.sz /\ (∀ c ∈ l, c.oneCell' = true) /\ ∀ j, j < ab.sz -> w.cell? (x.addr i j) = l[j]?
def apD (W : Nat -> Prop) (x : Bl) (ab : AB) (w : World) : Prop :=
  W x.blk /\ ∃ C : Array Value, w.heap[x.blk]? = some (.cells C ab.ty (0, 0)) /\ C.size = x.cap * ab.sz
def Ad (W : Nat -> Prop) (E : Env) (x : Bl) (ab : AB) (w : World) : Prop :=
  ab = .gone \/ (x.sz = ab.sz /\ x.len = ab.n /\ ab.n <= x.cap /\ U1 E x ab w /\ (ab.own = true -> apD W x ab w))
structure bD (W : Nat -> Prop) (E : Env) (m : Mem) (w : World) : Prop where
  dom : ∀ b x, E.bl b = some x -> b < m.length /\ x.blk < w.heap.size /\ Ad W E x (aS .gone m b) w
  inj : ∀ b b' x x', b ≠ b' -> E.bl b = some x -> E.bl b' = some x' -> (aS .gone m b).own = true -> aS .gone m b' ≠ .gone -> x.blk ≠ x'.blk
  ro : ∀ b o v, E.ro b o = some v -> b < w.heap.size /\ w.cell? ⟨b, o, none⟩ = some v
  apart : ∀ b x, E.bl b = some x -> (aS .gone m b).own = true -> ∀ o, E.ro x.blk o = none
structure Keep (W : Nat -> Prop) (w w' : World) : Prop where
  os : w'.os = w.os
  tape : w'.tape = w.tape
  output : w'.output = w.output
  size : w.heap.size <= w'.heap.size
  block : ∀ i, i < w.heap.size -> ¬ W i -> w'.heap[i]? = w.heap[i]?
theorem Keep.refl (W : Nat -> Prop) (w : World) : Keep W w w := ⟨rfl, rfl, rfl, Nat.le_refl _, fun _ _ _ => rfl⟩
theorem Keep.trans {W : Nat -> Prop} {a b c : World} (h : Keep W a b) (k : Keep W b c) : Keep W a c :=
  ⟨k.os.trans h.os, k.tape.trans h.tape, k.output.trans h.output, Nat.le_trans h.size k.size, fun i hi hw => (k.block i (Nat.lt_of_lt_of_le hi h.size) hw).trans (h.block i hi hw)⟩
theorem Keep.mono {W W' : Nat -> Prop} {a b : World} (h : Keep W a b) (hw : ∀ i, i < a.heap.size -> W i -> W' i) : Keep W' a b :=
  ⟨h.os, h.tape, h.output, h.size, fun i hi hn => h.block i hi (fun hw' => hn (hw i hi hw'))⟩
theorem Keep.alloc (W : Nat -> Prop) (w : World) (o : Obj) : Keep W w (w.alloc o) :=
  ⟨rfl, rfl, rfl, by simp, fun i hi _ => Below.heap_alloc w o i hi⟩
theorem Keep.drew (W : Nat -> Prop) (w : World) : Keep W w w.drew := ⟨rfl, rfl, rfl, Nat.le_refl _, fun _ _ _ => rfl⟩
theorem rM {w w' : World} {a : Addr} (h : w'.heap[a.block]? = w.heap[a.block]?) : w'.cell? a = w.cell? a := by
  unfold World.cell?; rw [h]
theorem U1.same {E E' : Env} {x : Bl} {ab : AB} {w w' : World} (h : U1 E x ab w) (he : E.le E') (hb : w'.heap[x.blk]? = w.heap[x.blk]?) : U1 E' x ab w' := by
  intro i hi
  obtain ⟨l, h1, h2, ho, h3⟩ := h i hi
  exact ⟨l, VRs.mono (AB.aei he ab) _ h1, h2, ho, fun j hj => (rM (a := x.addr i j) hb).trans (h3 j hj)⟩
theorem Ad.same {W : Nat -> Prop} {E E' : Env} {x : Bl} {ab : AB} {w w' : World} (h : Ad W E x ab w) (he : E.le E') (hb : w'.heap[x.blk]? = w.heap[x.blk]?) : Ad W E' x ab w' := by
  rcases h with h | ⟨h1, h2, h3, h4, h5⟩
  . exact .inl h
  . refine .inr ⟨h1, h2, h3, h4.same he hb, fun ho => ?_⟩
    obtain ⟨a, C, d, e⟩ := h5 ho
    exact ⟨a, C, hb.trans d, e⟩
theorem bD.same {W : Nat -> Prop} {E : Env} {m : Mem} {w w' : World} (h : bD W E m w) (hs : w.heap.size <= w'.heap.size) (hb : ∀ b x, E.bl b = some x -> aS .gone m b ≠ .gone -> w'.heap[x.blk]? = w.heap[x.blk]?)
    (hr : ∀ b o v, E.ro b o = some v -> w'.heap[b]? = w.heap[b]?) : bD W E m w' :=
  ⟨fun b x e => ⟨(h.dom b x e).1, Nat.lt_of_lt_of_le (h.dom b x e).2.1 hs, by
    by_cases hg : aS .gone m b = .gone
    . exact .inl hg
    . exact (h.dom b x e).2.2.same (Env.le.refl _) (hb b x e hg)⟩, h.inj,
    fun b o v e => ⟨Nat.lt_of_lt_of_le (h.ro b o v e).1 hs, (rM (a := ⟨b, o, none⟩) (hr b o v e)).trans (h.ro b o v e).2⟩, h.apart⟩
theorem bD.drew {W : Nat -> Prop} {E : Env} {m : Mem} {w : World} (h : bD W E m w) : bD W E m w.drew := h.same (Nat.le_refl _) (fun _ _ _ _ => rfl) (fun _ _ _ _ => rfl)
theorem bD.alloc {W : Nat -> Prop} {E : Env} {m : Mem} {w : World} (h : bD W E m w) (o : Obj) : bD W E m (w.alloc o) :=
  h.same (by simp) (fun b x e _ => Below.heap_alloc w o x.blk (h.dom b x e).2.1) (fun b _ v e => Below.heap_alloc w o b (h.ro b _ v e).1)
theorem bD.grown {W : Nat -> Prop} {E : Env} {m : Mem} {w w' : World} (h : bD W E m w) (hk : Keep (fun i => w.heap.size <= i) w w') : bD W E m w' :=
  h.same hk.size (fun b x e _ => hk.block _ (h.dom b x e).2.1 (by have := (h.dom b x e).2.1; omega)) (fun b o v e => hk.block _ (h.ro b o v e).1 (by have := (h.ro b o v e).1; omega))
def Env.add (E : Env) (b:Nat) (x : Bl) : Env := ⟨fun b' => if b' = b then some x else E.bl b', E.ro⟩
theorem Env.PV {E : Env} {b : Nat} (x : Bl) (h : E.bl b = none) : E.le (E.add b x) :=
  ⟨fun b' y e => by
    unfold Env.add
    by_cases hb : b' = b
    . subst hb; rw [h] at e; cases e
    . simp [hb, e], fun _ _ _ h => h⟩
theorem Env.aaB {E : Env} (b:Nat) (x : Bl) : E.leX b (E.add b x) :=
  ⟨fun b' y hne e => by unfold Env.add; simp [hne, e], fun _ _ _ h => h⟩
theorem Env.add_same (E : Env) (b:Nat) (x : Bl) : (E.add b x).bl b = some x := by simp [Env.add]
theorem Env.qJ (E : Env) {b b' : Nat} (x : Bl) (h : b' ≠ b) : (E.add b x).bl b' = E.bl b' := by simp [Env.add, h]
theorem bD.new {W : Nat -> Prop} {E : Env} {m : Mem} {w : World} {slot : Nat} {ab : AB} {x : Bl} (h : bD W E m w) (hs : slot < m.length) (hE : E.bl slot = none)
    (hx : ∀ b y, E.bl b = some y -> aS .gone m b ≠ .gone -> y.blk ≠ x.blk) (hr : ∀ o, E.ro x.blk o = none) (hlt : x.blk < w.heap.size) (hok : Ad W (E.add slot x) x ab w) : bD W (E.add slot x) (setAt m slot ab) w := by
  refine ⟨fun b y e => ?_, fun b b' y y' hne e e' ho hg => ?_, h.ro, fun b y e ho o => ?_⟩
  . by_cases hb : b = slot
    . subst hb
      rw [Env.add_same] at e
      cases e
      exact ⟨by rw [cu]; exact hs, hlt, by rw [bV _ _ hs]; exact hok⟩
    . rw [Env.qJ _ _ hb] at e
      obtain ⟨h1, h2, h3⟩ := h.dom b y e
      exact ⟨by rw [cu]; exact h1, h2, by rw [aP _ _ _ (Ne.symm hb)]; exact h3.same (Env.PV x hE) rfl⟩
  . by_cases hb : b = slot
    . subst hb
      rw [Env.add_same] at e
      cases e
      rw [Env.qJ _ _ (Ne.symm hne)] at e'
      rw [aP _ _ _ hne] at hg
      exact fun e2 => hx b' y' e' hg e2.symm
    . rw [Env.qJ _ _ hb] at e
      rw [aP _ _ _ (Ne.symm hb)] at ho
      by_cases hb' : b' = slot
      . subst hb'
        rw [Env.add_same] at e'
        cases e'
        exact hx b y e (fun hg' => by rw [hg'] at ho; cases ho)
      . rw [Env.qJ _ _ hb'] at e'
        rw [aP _ _ _ (Ne.symm hb')] at hg
        exact h.inj b b' y y' hne e e' ho hg
  . by_cases hb : b = slot
    . subst hb
      rw [Env.add_same] at e
      cases e
      exact hr o
    . rw [Env.qJ _ _ hb] at e
      rw [aP _ _ _ (Ne.symm hb)] at ho
      exact h.apart b y e ho o
theorem bD.turn {W : Nat -> Prop} {E : Env} {m : Mem} {w w' : World} {b : Nat} {x : Bl} {ab : AB} (h : bD W E m w) (hE : E.bl b = some x) (ho : (aS .gone m b).own = true)
    (hs : w.heap.size <= w'.heap.size) (hb : ∀ i, i < w.heap.size -> i ≠ x.blk -> w'.heap[i]? = w.heap[i]?) (hok : Ad W E x ab w') : bD W E (setAt m b ab) w' := by
  have hbl := (h.dom b x hE).1
  refine ⟨fun b' y e => ?_, fun b1 b2 y y' hne e e' ho' hg => ?_, fun b' o v e => ?_, fun b' y e ho' o => ?_⟩
  . obtain ⟨h1, h2, h3⟩ := h.dom b' y e
    refine ⟨by rw [cu]; exact h1, Nat.lt_of_lt_of_le h2 hs, ?_⟩
    by_cases hbb : b' = b
    . subst hbb
      rw [hE] at e
      cases e
      rw [bV _ _ hbl]
      exact hok
    . rw [aP _ _ _ (Ne.symm hbb)]
      by_cases hg : aS .gone m b' = .gone
      . exact .inl hg
      . exact h3.same (Env.le.refl _) (hb _ h2 (Ne.symm (h.inj b b' x y (Ne.symm hbb) hE e ho hg)))
  . by_cases hb1 : b1 = b
    . subst hb1
      rw [hE] at e
      cases e
      rw [aP _ _ _ hne] at hg
      exact h.inj b1 b2 x y' hne hE e' ho hg
    . rw [aP _ _ _ (Ne.symm hb1)] at ho'
      by_cases hb2 : b2 = b
      . subst hb2
        rw [hE] at e'
        cases e'
        refine h.inj b1 b2 y x hne e hE ho' ?_
        intro hg'
        rw [hg'] at ho
        cases ho
      . rw [aP _ _ _ (Ne.symm hb2)] at hg
        exact h.inj b1 b2 y y' hne e e' ho' hg
  . obtain ⟨h1, h2⟩ := h.ro b' o v e
    have hne : b' ≠ x.blk := fun e2 => by subst e2; rw [h.apart b x hE ho o] at e; cases e
    exact ⟨Nat.lt_of_lt_of_le h1 hs, (rM (a := ⟨b', o, none⟩) (hb b' h1 hne)).trans h2⟩
  . by_cases hbb : b' = b
    . subst hbb
      rw [hE] at e
      cases e
      exact h.apart b' x hE ho o
    . rw [aP _ _ _ (Ne.symm hbb)] at ho'
      exact h.apart b' y e ho' o
theorem bD.forget {W : Nat -> Prop} {E : Env} {m : Mem} {w : World} (h : bD W E m w) (b:Nat) : bD W E (setAt m b .gone) w := by
  refine ⟨fun b' y e => ?_, fun b1 b2 y y' hne e e' ho' hg => ?_, h.ro, fun b' y e ho' o => ?_⟩
  . obtain ⟨h1, h2, h3⟩ := h.dom b' y e
    refine ⟨by rw [cu]; exact h1, h2, ?_⟩
    by_cases hbb : b' = b
    . subst hbb; rw [bV _ _ h1]; exact .inl rfl
    . rw [aP _ _ _ (Ne.symm hbb)]; exact h3
  . by_cases hb1 : b1 = b
    . subst hb1; rw [bV _ _ (h.dom b1 y e).1] at ho'; cases ho'
    . rw [aP _ _ _ (Ne.symm hb1)] at ho'
      by_cases hb2 : b2 = b
      . subst hb2; rw [bV _ _ (h.dom b2 y' e').1] at hg; exact absurd rfl hg
      . rw [aP _ _ _ (Ne.symm hb2)] at hg; exact h.inj b1 b2 y y' hne e e' ho' hg
  . by_cases hbb : b' = b
    . subst hbb; rw [bV _ _ (h.dom b' y e).1] at ho'; cases ho'
    . rw [aP _ _ _ (Ne.symm hbb)] at ho'
      exact h.apart b' y e ho' o
theorem bD.U2 {W : Nat -> Prop} {E : Env} {m : Mem} {w : World} (h : bD W E m w) {b : Nat} (hb : E.bl b = none) (ab : AB) : bD W E (setAt m b ab) w := by
  have hne : ∀ b' x, E.bl b' = some x -> b ≠ b' := fun b' x e e2 => by subst e2; rw [hb] at e; cases e
  refine ⟨fun b' y e => ?_, fun b1 b2 y y' hn e e' ho' hg => ?_, h.ro, fun b' y e ho' o => ?_⟩
  . obtain ⟨h1, h2, h3⟩ := h.dom b' y e
    exact ⟨by rw [cu]; exact h1, h2, by rw [aP _ _ _ (hne b' y e)]; exact h3⟩
  . rw [aP _ _ _ (hne b1 y e)] at ho'
    rw [aP _ _ _ (hne b2 y' e')] at hg
    exact h.inj b1 b2 y y' hn e e' ho' hg
  . rw [aP _ _ _ (hne b' y e)] at ho'
    exact h.apart b' y e ho' o
theorem bD.congr {W : Nat -> Prop} {E : Env} {m m' : Mem} {w : World} (h : bD W E m w) (hl : ∀ b x, E.bl b = some x -> b < m'.length /\ aS .gone m' b = aS .gone m b) : bD W E m' w := by
  refine ⟨fun b x e => ?_, fun b b' x x' hne e e' ho hgo => ?_, h.ro, fun b x e ho o => ?_⟩
  . obtain ⟨h1, h2, h3⟩ := h.dom b x e
    exact ⟨(hl b x e).1, h2, by rw [(hl b x e).2]; exact h3⟩
  . rw [(hl b x e).2] at ho
    rw [(hl b' x' e').2] at hgo
    exact h.inj b b' x x' hne e e' ho hgo
  . rw [(hl b x e).2] at ho
    exact h.apart b x e ho o
theorem U3 {α : Type} (d : α) (l l' : List α) {b : Nat} (h : b < l.length) : aS d (l ++ l') b = aS d l b := by
  rw [gy, gy]
  simp [List.getD, List.getElem?_append_left h]
theorem bD.more {W : Nat -> Prop} {E : Env} {m : Mem} {w : World} (h : bD W E m w) (l : Mem) : bD W E (m ++ l) w :=
  h.congr fun b x e => ⟨by have := (h.dom b x e).1; simp; omega, U3 _ _ _ (h.dom b x e).1⟩
theorem bD.extend {W : Nat -> Prop} {E : Env} {m : Mem} {w : World} (h : bD W E m w) (k:Nat) : bD W E (Ag.extend m k) w := by
  rw [Gy]
  exact h.more _
def Env.froze (E : Env) (x : Bl) (w : World) : Env := ⟨E.bl, fun b o => if b = x.blk then w.cell? ⟨b, o, none⟩ else E.ro b o⟩
theorem Env.PX {W : Nat -> Prop} {E : Env} {m : Mem} {w : World} (h : bD W E m w) (x : Bl) : E.le (E.froze x w) :=
  ⟨fun _ _ e => e, fun b o v e => by
    unfold Env.froze
    simp only
    split
    . exact (h.ro b o v e).2
    . exact e⟩
theorem AB.PY (ab : AB) : ab.disown.own = false := by cases ab <;> rfl
theorem AB.N9 (ab : AB) : ab.disown = .gone ↔ ab = .gone := by cases ab <;> simp [AB.disown]
theorem Ad.disown {W : Nat -> Prop} {E : Env} {x : Bl} {ab : AB} {w : World} (h : Ad W E x ab w) : Ad W E x ab.disown w := by
  rcases h with rfl | ⟨h1, h2, h3, h4, h5⟩
  . exact .inl rfl
  . cases ab with
    | gone => exact .inl rfl
    | one o t cs => exact .inr ⟨h1, h2, h3, h4, fun h => by cases h⟩
    | many o t n g => exact .inr ⟨h1, h2, h3, h4, fun h => by cases h⟩
theorem aej {w : World} {a : Addr} {v : Value} (h : w.cell? a = some v) : a.block < w.heap.size := by
  rcases Nat.lt_or_ge a.block w.heap.size with h' | h'
  . exact h'
  . unfold World.cell? at h
    rw [Array.getElem?_eq_none h'] at h
    cases h
theorem bD.froze {W : Nat -> Prop} {E : Env} {m : Mem} {w : World} (h : bD W E m w) {b : Nat} {x : Bl} (hx : E.bl b = some x) (hg : aS .gone m b ≠ .gone) :
    bD W (E.froze x w) (setAt m b (aS .gone m b).disown) w := by
  have hbl := (h.dom b x hx).1
  refine ⟨fun b' y e => ?_, fun b1 b2 y y' hne e e' ho' hg' => ?_, fun b' o v e => ?_, fun b' y e ho' o => ?_⟩
  . obtain ⟨h1, h2, h3⟩ := h.dom b' y e
    refine ⟨by rw [cu]; exact h1, h2, ?_⟩
    by_cases hbb : b' = b
    . subst hbb; rw [bV _ _ h1]; exact (h3.same (Env.PX h x) rfl).disown
    . rw [aP _ _ _ (Ne.symm hbb)]; exact h3.same (Env.PX h x) rfl
  . by_cases hb1 : b1 = b
    . subst hb1; rw [bV _ _ hbl, AB.PY] at ho'; cases ho'
    . rw [aP _ _ _ (Ne.symm hb1)] at ho'
      by_cases hb2 : b2 = b
      . subst hb2
        rw [bV _ _ hbl, ne_eq, AB.N9] at hg'
        exact h.inj b1 b2 y y' hne e e' ho' hg'
      . rw [aP _ _ _ (Ne.symm hb2)] at hg'; exact h.inj b1 b2 y y' hne e e' ho' hg'
  . unfold Env.froze at e
    simp only at e
    split at e
    . rename_i hb
      subst hb
      exact ⟨aej e, e⟩
    . exact h.ro b' o v e
  . have hb1 : b' ≠ b := fun e2 => by subst e2; rw [bV _ _ hbl, AB.PY] at ho'; cases ho'
    rw [aP _ _ _ (Ne.symm hb1)] at ho'
    have hne := h.inj b' b y x hb1 e hx ho' hg
    unfold Env.froze
    simp only [if_neg hne]
    exact h.apart b' y e ho' o
theorem zl (k:Nat) : ∀ (m : Mem) (b:Nat), aS .gone (tX k m) b = (aS .gone m b).kill k
  | [], b => by simp [tX, aS, AB.kill]
  | x :: xs, 0 => by simp [tX, aS]
  | x :: xs, b + 1 => by simp [tX, aS, zl k xs b]
theorem rU (k:Nat) : ∀ (m : Mem), (tX k m).length = m.length
  | [] => rfl
  | x :: xs => by simp [tX, rU k xs]
theorem AB.JW (k:Nat) (ab : AB) : (ab.kill k).own = ab.own := by cases ab <;> rfl
theorem AB.KX (k:Nat) (ab : AB) : ab.kill k = .gone ↔ ab = .gone := by cases ab <;> simp [AB.kill]
theorem rV (k:Nat) : ∀ (l : List AV), (AV.kills k l).length = l.length
  | [] => by unfold AV.kills; rfl
  | x :: xs => by unfold AV.kills; simp [rV k xs]
theorem Ad.kill {W : Nat -> Prop} {E E' : Env} {x : Bl} {ab : AB} {w w' : World} {k : Nat} (h : Ad W E x ab w) (he : E.leX k E') (hb : w'.heap[x.blk]? = w.heap[x.blk]?) : Ad W E' x (ab.kill k) w' := by
  rcases h with rfl | ⟨h1, h2, h3, h4, h5⟩
  . exact .inl rfl
  . cases ab with
    | gone => exact .inl rfl
    | one o t cs =>
      refine .inr ⟨by rw [h1]; simp [AB.kill, AB.sz, rV], h2, h3, fun i hi => ?_, fun ho => ?_⟩
      . obtain ⟨l, a1, a2, a3, a4⟩ := h4 i hi
        simp only [AB.sz, AB.env, AB.get] at a1 a2 a4
        refine ⟨l, VRs.kill he _ a1, by simp only [AB.kill, AB.sz, rV]; exact a2, a3, fun j hj => ?_⟩
        simp only [AB.kill, AB.sz, rV] at hj
        exact (rM (a := x.addr i j) hb).trans (a4 j hj)
      . obtain ⟨a, C, d, e⟩ := h5 ho
        exact ⟨a, C, hb.trans d, by simp only [AB.kill, AB.sz, rV]; exact e⟩
    | many o t n g =>
      refine .inr ⟨h1, h2, h3, fun i hi => ?_, fun ho => ?_⟩
      . obtain ⟨l, a1, a2, a3, a4⟩ := h4 i hi
        exact ⟨l, VRs.mono (Env.aaw he.ro) _ a1, a2, a3, fun j hj => (rM (a := x.addr i j) hb).trans (a4 j hj)⟩
      . obtain ⟨a, C, d, e⟩ := h5 ho
        exact ⟨a, C, hb.trans d, e⟩
theorem bD.replace {W : Nat -> Prop} {E : Env} {m : Mem} {w w' : World} {b : Nat} {x : Bl} {ab : AB} (h : bD W E m w) (hb : b < m.length) (hab : ab.kill b = ab)
    (hs : w.heap.size <= w'.heap.size) (hx : ∀ b' y, b' ≠ b -> E.bl b' = some y -> aS .gone m b' ≠ .gone -> y.blk ≠ x.blk /\ w'.heap[y.blk]? = w.heap[y.blk]?)
    (hr : ∀ b o v, E.ro b o = some v -> w'.heap[b]? = w.heap[b]?) (hrx : ∀ o, E.ro x.blk o = none) (hlt : x.blk < w'.heap.size) (hok : Ad W (E.add b x) x ab w') :
    bD W (E.add b x) (tX b (setAt m b ab)) w' := by
  have hsame : ∀ b', b' ≠ b -> aS .gone (tX b (setAt m b ab)) b' = (aS .gone m b').kill b := fun b' hne => by rw [zl, aP _ _ _ (Ne.symm hne)]
  have hthis : aS .gone (tX b (setAt m b ab)) b = ab := by rw [zl, bV _ _ hb, hab]
  refine ⟨fun b' y e => ?_, fun b1 b2 y y' hne e e' ho' hg => ?_, fun b' o v e => ?_, fun b' y e ho' o => ?_⟩
  . by_cases hbb : b' = b
    . subst hbb
      rw [Env.add_same] at e
      cases e
      exact ⟨by rw [rU, cu]; exact hb, hlt, by rw [hthis]; exact hok⟩
    . rw [Env.qJ _ _ hbb] at e
      obtain ⟨h1, h2, h3⟩ := h.dom b' y e
      refine ⟨by rw [rU, cu]; exact h1, Nat.lt_of_lt_of_le h2 hs, ?_⟩
      rw [hsame b' hbb]
      by_cases hg : aS .gone m b' = .gone
      . rw [hg]; exact .inl rfl
      . exact h3.kill (Env.aaB b x) (hx b' y hbb e hg).2
  . by_cases hb1 : b1 = b
    . subst hb1
      rw [Env.add_same] at e
      cases e
      rw [Env.qJ _ _ (Ne.symm hne)] at e'
      rw [hsame b2 (Ne.symm hne), ne_eq, AB.KX] at hg
      exact fun e2 => (hx b2 y' (Ne.symm hne) e' hg).1 e2.symm
    . rw [Env.qJ _ _ hb1] at e
      rw [hsame b1 hb1, AB.JW] at ho'
      by_cases hb2 : b2 = b
      . subst hb2
        rw [Env.add_same] at e'
        cases e'
        exact (hx b1 y hb1 e (fun hg' => by rw [hg'] at ho'; cases ho')).1
      . rw [Env.qJ _ _ hb2] at e'
        rw [hsame b2 hb2, ne_eq, AB.KX] at hg
        exact h.inj b1 b2 y y' hne e e' ho' hg
  . obtain ⟨h1, h2⟩ := h.ro b' o v e
    exact ⟨Nat.lt_of_lt_of_le h1 hs, (rM (a := ⟨b', o, none⟩) (hr b' o v e)).trans h2⟩
  . by_cases hbb : b' = b
    . subst hbb
      rw [Env.add_same] at e
      cases e
      exact hrx o
    . rw [Env.qJ _ _ hbb] at e
      rw [hsame b' hbb, AB.JW] at ho'
      exact h.apart b' y e ho' o
def Env.Hr (E : Env) (k:Nat) (l : List Value) : Env := ⟨E.bl, fun b o => if b = k then l[o]? else E.ro b o⟩
theorem bD.Hr {W : Nat -> Prop} {E : Env} {m : Mem} {w : World} (h : bD W E m w) (l : List Value) (e : TypeId) : bD W (E.Hr w.heap.size l) m (w.alloc (.cells l.toArray e)) /\ E.le (E.Hr w.heap.size l) := by
  have hle : E.le (E.Hr w.heap.size l) := ⟨fun _ _ e => e, fun b o v e => by
    have := (h.ro b o v e).1
    unfold Env.Hr
    simp only
    rw [if_neg (by omega)]
    exact e⟩
  have ha := h.alloc (.cells l.toArray e)
  refine ⟨⟨fun b x e => ?_, ha.inj, fun b o v e => ?_, fun b x e ho o => ?_⟩, hle⟩
  . obtain ⟨h1, h2, h3⟩ := ha.dom b x e
    exact ⟨h1, h2, h3.same hle rfl⟩
  . unfold Env.Hr at e
    simp only at e
    split at e
    . rename_i hb
      subst hb
      refine ⟨by simp, ?_⟩
      rw [World.cell?_alloc_new]
      simpa using e
    . exact ha.ro b o v e
  . unfold Env.Hr
    simp only
    have := (h.dom b x e).2.1
    rw [if_neg (by omega)]
    exact h.apart b x e ho o
end Go.Ag
