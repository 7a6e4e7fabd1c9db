import Derived.Test.YtbcegholicnflaaGreatBgL
set_option linter.unusedVariables false
set_option linter.unusedSimpArgs false
namespace Go.Ag
open Go.RowKit
theorem setCells_len : ∀ (vs cells : List AV) (j : Nat), lenN (setCells cells j vs) = lenN cells := fun vs cells j => by rw [lenN_eq, lenN_eq, setCells_length]
theorem getAt_setCells (d : AV) : ∀ (vs cells : List AV) (j k : Nat), (k < j ∨ j + lenN vs <= k) -> getAt d (setCells cells j vs) k = getAt d cells k
  | [], cells, j, k, _ => rfl
  | v :: vs, cells, j, k, h => by
    simp only [lenN] at h
    rw [setCells, getAt_setCells d vs _ (j + 1) k (by omega), getAt_setAt_ne _ _ _ (by omega)]
theorem ext_getAt {l l' : List AV} (h : l.length = l'.length) (hg : ∀ k, getAt .dead l k = getAt .dead l' k) : l = l' := by
  apply List.ext_getElem h
  intro i h1 h2
  have := hg i
  rw [getAt_eq, getAt_eq] at this
  simpa [List.getD, h1, h2] using this
theorem getAt_setCells_in (d : AV) : ∀ (vs cells : List AV) (j k : Nat), j <= k -> k < j + lenN vs -> k < cells.length -> getAt d (setCells cells j vs) k = getAt d vs (k - j)
  | [], cells, j, k, h, h', _ => by simp [lenN] at h'; omega
  | v :: vs, cells, j, k, h, h', hl => by
    simp only [lenN] at h'
    rw [setCells]
    by_cases hk : k = j
    · subst hk
      rw [getAt_setCells d vs _ (k + 1) k (by omega), getAt_setAt_same _ _ hl, Nat.sub_self]
      rfl
    · rw [getAt_setCells_in d vs _ (j + 1) k (by omega) (by omega) (by rw [setAt_length]; exact hl)]
      have : k - j = (k - (j + 1)) + 1 := by omega
      rw [this]
      rfl
theorem setCells_comm {vs vs' cells : List AV} {j j' : Nat} (h : j + lenN vs <= j' ∨ j' + lenN vs' <= j) : setCells (setCells cells j vs) j' vs' = setCells (setCells cells j' vs') j vs := by
  apply ext_getAt
  · simp only [setCells_length]
  · intro k
    by_cases hl : k < cells.length
    · by_cases h1 : j <= k /\ k < j + lenN vs
      · rw [getAt_setCells _ vs' _ _ _ (by omega), getAt_setCells_in _ _ _ _ _ h1.1 h1.2 hl, getAt_setCells_in _ _ _ _ _ h1.1 h1.2 (by rw [setCells_length]; exact hl)]
      · rw [getAt_setCells _ vs (setCells cells j' vs') _ _ (by omega)]
        by_cases h2 : j' <= k /\ k < j' + lenN vs'
        · rw [getAt_setCells_in _ _ _ _ _ h2.1 h2.2 hl, getAt_setCells_in _ _ _ _ _ h2.1 h2.2 (by rw [setCells_length]; exact hl)]
        · rw [getAt_setCells _ vs' _ _ _ (by omega), getAt_setCells _ vs _ _ _ (by omega), getAt_setCells _ vs' _ _ _ (by omega)]
    · rw [getAt_ge _ (by simp only [setCells_length]; omega), getAt_ge _ (by simp only [setCells_length]; omega)]
theorem readAt_setCells {agg : Bool} {size n j j' : Nat} {vs cells : List AV} (hs : size <= n) (h : j + n <= j' ∨ j' + lenN vs <= j) (hn : 0 < n) : readAt agg size j (setCells cells j' vs) = readAt agg size j cells := by
  unfold readAt
  rw [setCells_len]
  cases agg with
  | true =>
    simp only [if_true]
    split
    · congr 2
      apply ext_getAt
      · simp only [takeN_eq, dropN_eq, List.length_take, List.length_drop, setCells_length]
      · intro k
        rw [takeN_eq, takeN_eq, dropN_eq, dropN_eq, getAt_eq, getAt_eq]
        simp only [List.getD, List.getElem?_take, List.getElem?_drop]
        split
        · have := getAt_setCells .dead vs cells j' (j + k) (by omega)
          rw [getAt_eq, getAt_eq] at this
          exact this
        · rfl
    · rfl
  | false =>
    simp only [Bool.false_eq_true, if_false]
    rw [getAt_setCells _ _ _ _ _ (by omega)]
theorem kindB_updB (i j : Nat) (vs : List AV) (ab : AB) : kindB (updB i j vs ab) = kindB ab := by
  cases ab <;> simp [updB, kindB, setCells_len]
theorem beq_of_ne {n m : Nat} (h : n ≠ m) : Nat.beq n m = false := by
  cases h' : Nat.beq n m
  · rfl
  · exact absurd (Nat.eq_of_beq_eq_true h') h
theorem apartCells_spec {b i j n b' i' j' n' : Nat} (h : apartCells b i j n b' i' j' n' = true) : b ≠ b' ∨ (i = i' /\ (j + n <= j' ∨ j' + n' <= j)) := by
  unfold apartCells at h
  simp only [Bool.or_eq_true, Bool.not_eq_true', Bool.and_eq_true] at h
  rcases h with h | ⟨h1, h2⟩
  · exact .inl fun e => by subst e; rw [Nat.beq_refl] at h; cases h
  · exact .inr ⟨Nat.eq_of_beq_eq_true h1, h2.imp Nat.le_of_ble_eq_true Nat.le_of_ble_eq_true⟩
theorem not_beq_spec {a b : Nat} (h : (!(Nat.beq a b)) = true) : a ≠ b := fun e => by subst e; rw [Nat.beq_refl] at h; cases h
theorem memN_spec {n : Nat} : ∀ {l : List Nat}, memN n l = false -> ∀ x ∈ l, n ≠ x
  | [], _, x, hx => by cases hx
  | y :: ys, h, x, hx => by
    simp only [memN, Bool.or_eq_false_iff] at h
    rcases List.mem_cons.1 hx with rfl | hx
    · exact fun e => by subst e; rw [Nat.beq_refl] at h; cases h.1
    · exact memN_spec h.2 x hx
def Micro.big : Micro -> Prop
  | .load _ _ _ n => 0 < n
  | _ => True
theorem SameFor.refl (mi : Micro) (m : Mem) : SameFor mi m m := by
  cases mi <;> simp [SameFor]
theorem SameFor.symm {mi : Micro} {m m' : Mem} (h : SameFor mi m m') : SameFor mi m' m := by
  cases mi with
  | load b i j n => exact fun agg n' hn => Eq.symm (h agg n' hn)
  | store b i j n => exact Eq.symm h
  | bar => exact Eq.symm h
  | loadM b => exact Eq.symm h
  | storeM b => exact Eq.symm h
  | app b s => exact Eq.symm h
  | quiet => trivial
  | alloc => trivial
theorem SameFor.trans {mi : Micro} {m m' m'' : Mem} (h : SameFor mi m m') (h' : SameFor mi m' m'') : SameFor mi m m'' := by
  cases mi with
  | load b i j n => exact fun agg n' hn => (h agg n' hn).trans (h' agg n' hn)
  | store b i j n => exact Eq.trans h h'
  | bar => exact Eq.trans h h'
  | loadM b => exact Eq.trans h h'
  | storeM b => exact Eq.trans h h'
  | app b s => exact Eq.trans h h'
  | quiet => trivial
  | alloc => trivial
theorem same_of_indep {mx my : Micro} {ex : Eff} {m : Mem} (hx : Eff.Of mx ex) (hb : my.big) (h : indep mx my = true ∨ indep my mx = true) : SameFor my (ex.run m) m := by
  have far : ∀ {m : Mem} {b : Nat} {ab : AB}, (∀ b', my = .loadM b' -> b ≠ b') -> (∀ b', my = .storeM b' -> b ≠ b') -> (∀ b' i j n, my = .load b' i j n -> b ≠ b') -> (∀ b' i j n, my = .store b' i j n -> b ≠ b') -> (∀ b' s', my = .app b' s' -> b ≠ b') -> my ≠ .bar -> SameFor my (setAt m b ab) m := by
    intro m b ab h1 h2 h3 h4 h6 h5
    cases my with
    | quiet => trivial
    | alloc => trivial
    | bar => exact absurd rfl h5
    | load b' i j n => intro agg n' _; rw [getAt_setAt_ne _ _ _ (h3 _ _ _ _ rfl)]
    | store b' i j n => simp only [SameFor]; rw [getAt_setAt_ne _ _ _ (h4 _ _ _ _ rfl)]
    | loadM b' => simp only [SameFor]; rw [getAt_setAt_ne _ _ _ (h1 _ rfl)]
    | storeM b' => simp only [SameFor]; rw [getAt_setAt_ne _ _ _ (h2 _ rfl)]
    | app b' s' => simp only [SameFor]; rw [getAt_setAt_ne _ _ _ (h6 _ _ rfl)]
  cases mx <;> cases ex <;> simp only [Eff.Of] at hx <;> first
    | exact SameFor.refl _ _
    | skip
  case alloc.alloc s s' ab =>
    subst hx
    simp only [Eff.run]
    refine far ?_ ?_ ?_ ?_ ?_ ?_ <;> intros <;> subst_vars <;> simp only [indep, Bool.false_eq_true, or_self, false_or, or_false, Bool.and_eq_true] at h <;>
      first | exact (not_beq_spec h).symm | (rcases h with h | h <;> exact (not_beq_spec h).symm) | exact (not_beq_spec h.1).symm | (intro e; subst e; simp [indep] at h)
  case storeM.setB s s' ab =>
    subst hx
    simp only [Eff.run]
    refine far ?_ ?_ ?_ ?_ ?_ ?_ <;> intros <;> subst_vars <;> simp only [indep, Bool.false_eq_true, or_self, false_or, or_false, Bool.and_eq_true] at h <;>
      first | exact not_beq_spec h | exact (not_beq_spec h).symm | (rcases h with h | h <;> first | exact not_beq_spec h | exact (not_beq_spec h).symm) | exact (not_beq_spec h.1).symm | (intro e; subst e; simp [indep] at h)
  case app.app b s b' s' ab =>
    obtain ⟨rfl, rfl⟩ := hx
    simp only [Eff.run]
    have h1 : SameFor my (setAt m b .gone) m := by
      refine far ?_ ?_ ?_ ?_ ?_ ?_ <;> intros <;> subst_vars <;> simp only [indep, Bool.false_eq_true, or_self, false_or, or_false, Bool.and_eq_true] at h <;>
        first | exact not_beq_spec h.1 | exact not_beq_spec h.1.1 | (rcases h with h | h <;> first | exact not_beq_spec h.1.1 | exact (not_beq_spec h.1.1).symm) | (intro e; subst e; simp [indep] at h)
    have h2 : SameFor my (setAt (setAt m b .gone) s ab) (setAt m b .gone) := by
      refine far ?_ ?_ ?_ ?_ ?_ ?_ <;> intros <;> subst_vars <;> simp only [indep, Bool.false_eq_true, or_self, false_or, or_false, Bool.and_eq_true] at h <;>
        first | exact not_beq_spec h.2 | (rcases h with h | h <;> first | exact not_beq_spec h.1.2 | exact (not_beq_spec h.2.1).symm) | (intro e; subst e; simp [indep] at h)
    exact h2.trans h1
  case store.store b i j n b' i' j' vs =>
    obtain ⟨rfl, rfl, rfl, rfl⟩ := hx
    cases my <;> simp only [SameFor, indep, Bool.false_eq_true, or_self, false_or, or_false] at h ⊢
    case app b' s' =>
      simp only [Bool.and_eq_true] at h
      have : b ≠ b' := by first | exact (not_beq_spec h.1).symm | (rcases h with h | h <;> exact (not_beq_spec h.1).symm)
      simp only [Eff.run, getAt_setAt_ne _ _ _ this]
    case loadM b' =>
      have : b ≠ b' := by first | exact (not_beq_spec h).symm | (rcases h with h | h <;> exact (not_beq_spec h).symm)
      simp only [Eff.run, getAt_setAt_ne _ _ _ this]
    case storeM b' =>
      have : b ≠ b' := by first | exact (not_beq_spec h).symm | (rcases h with h | h <;> exact (not_beq_spec h).symm)
      simp only [Eff.run, getAt_setAt_ne _ _ _ this]
    case load b' i' j' n' =>
      intro agg n'' hn''
      have : b ≠ b' ∨ (i = i' /\ (j + lenN vs <= j' ∨ j' + n' <= j)) := by
        rcases h with h | h
        · exact apartCells_spec h
        · rcases apartCells_spec h with h | ⟨h1, h2⟩
          · exact .inl (Ne.symm h)
          · exact .inr ⟨h1.symm, h2.symm⟩
      by_cases hbb : b = b'
      · subst hbb
        rcases this with h | ⟨rfl, h2⟩
        · exact absurd rfl h
        · simp only [Eff.run]
          by_cases hl : b < m.length
          · rw [getAt_setAt_same _ _ hl]
            have hb : 0 < n' := hb
            cases getAt .gone m b with
            | gone => rfl
            | one o ty cells => simp only [updB, loadB, readAt_setCells (agg := agg) (cells := cells) hn'' (show j' + n' <= j ∨ j + lenN vs <= j' by omega) hb]
            | many o ty n cols => rfl
          · rw [getAt_ge _ (by rw [setAt_length]; omega), getAt_ge _ (by omega)]
      · simp only [Eff.run, getAt_setAt_ne _ _ _ hbb]
    case store b' i' j' n' =>
      simp only [Eff.run]
      by_cases hbb : b = b'
      · subst hbb
        by_cases hl : b < m.length
        · rw [getAt_setAt_same _ _ hl, kindB_updB]
        · rw [getAt_ge _ (by rw [setAt_length]; omega), getAt_ge _ (by omega)]
      · rw [getAt_setAt_ne _ _ _ hbb]
  case bar.bar m1 =>
    cases my <;> simp [SameFor, indep] at h ⊢
theorem setAt_comm {α : Type} (l : List α) {i j : Nat} (h : i ≠ j) (x y : α) : setAt (setAt l i x) j y = setAt (setAt l j y) i x := by
  simp only [setAt_eq]
  exact List.set_comm _ _ h
theorem eff_comm {mx my : Micro} {ex ey : Eff} {m : Mem} (hx : Eff.Of mx ex) (hy : Eff.Of my ey) (h : indep mx my = true) : ey.run (ex.run m) = ex.run (ey.run m) := by
  cases mx <;> cases ex <;> simp only [Eff.Of] at hx <;> first
    | rfl
    | skip
  all_goals cases my <;> cases ey <;> simp only [Eff.Of] at hy <;> first
    | rfl
    | (simp only [indep, Bool.false_eq_true] at h; done)
    | skip
  case alloc.alloc.alloc.alloc s s' ab t t' ab' =>
    subst hx hy
    exact setAt_comm _ (not_beq_spec h) _ _
  case alloc.alloc.store.store s s' ab b i j n b' i' j' vs =>
    subst hx
    obtain ⟨rfl, rfl, rfl, rfl⟩ := hy
    have := not_beq_spec h
    simp only [Eff.run]
    rw [getAt_setAt_ne _ _ _ (Ne.symm this), setAt_comm _ (Ne.symm this)]
  case store.store.alloc.alloc b i j n b' i' j' vs s s' ab =>
    subst hy
    obtain ⟨rfl, rfl, rfl, rfl⟩ := hx
    have := not_beq_spec h
    simp only [Eff.run]
    rw [getAt_setAt_ne _ _ _ (Ne.symm this), setAt_comm _ (Ne.symm this)]
  case store.store.store.store b i j n b1 i1 j1 vs b' i' j' n' b2 i2 j2 vs' =>
    obtain ⟨rfl, rfl, rfl, rfl⟩ := hx
    obtain ⟨rfl, rfl, rfl, rfl⟩ := hy
    simp only [Eff.run]
    by_cases hbb : b = b'
    · subst hbb
      rcases apartCells_spec h with h | ⟨rfl, h2⟩
      · exact absurd rfl h
      · by_cases hl : b < m.length
        · rw [getAt_setAt_same _ _ hl, getAt_setAt_same _ _ hl, setAt_setAt, setAt_setAt]
          congr 1
          cases getAt .gone m b with
          | gone => rfl
          | one o ty cells => simp only [updB, setCells_comm h2]
          | many o ty n cols => rfl
        · simp only [setAt_eq]
          rw [List.set_eq_of_length_le (by simp; omega), List.set_eq_of_length_le (by omega), List.set_eq_of_length_le (by simp; omega), List.set_eq_of_length_le (by omega)]
    · rw [getAt_setAt_ne _ _ _ hbb, getAt_setAt_ne _ _ _ (Ne.symm hbb), setAt_comm _ hbb]
  case alloc.alloc.storeM.setB s s' ab b b' ab' =>
    subst hx hy
    exact setAt_comm _ (not_beq_spec h).symm _ _
  case storeM.setB.alloc.alloc b b' ab' s s' ab =>
    subst hx hy
    exact setAt_comm _ (not_beq_spec h) _ _
  case storeM.setB.storeM.setB b b' ab s s' ab' =>
    subst hx hy
    exact setAt_comm _ (not_beq_spec h) _ _
  case store.store.storeM.setB b i j n b' i' j' vs s s' ab =>
    subst hy
    obtain ⟨rfl, rfl, rfl, rfl⟩ := hx
    have := not_beq_spec h
    simp only [Eff.run]
    rw [getAt_setAt_ne _ _ _ this, setAt_comm _ this]
  case storeM.setB.store.store s s' ab b i j n b' i' j' vs =>
    subst hx
    obtain ⟨rfl, rfl, rfl, rfl⟩ := hy
    have := not_beq_spec h
    simp only [Eff.run]
    rw [getAt_setAt_ne _ _ _ this, setAt_comm _ this]
  case app.app.alloc.alloc b s b' s' ab t t' ab' =>
    obtain ⟨rfl, rfl⟩ := hx
    subst hy
    simp only [indep, Bool.and_eq_true] at h
    simp only [Eff.run]
    rw [setAt_comm _ (not_beq_spec h.2), setAt_comm _ (not_beq_spec h.1)]
  case app.app.storeM.setB b s b' s' ab t t' ab' =>
    obtain ⟨rfl, rfl⟩ := hx
    subst hy
    simp only [indep, Bool.and_eq_true] at h
    simp only [Eff.run]
    rw [setAt_comm _ (not_beq_spec h.2), setAt_comm _ (not_beq_spec h.1)]
  case alloc.alloc.app.app t t' ab' b s b' s' ab =>
    obtain ⟨rfl, rfl⟩ := hy
    subst hx
    simp only [indep, Bool.and_eq_true] at h
    simp only [Eff.run]
    rw [setAt_comm _ (not_beq_spec h.1).symm, setAt_comm _ (not_beq_spec h.2).symm]
  case storeM.setB.app.app t t' ab' b s b' s' ab =>
    obtain ⟨rfl, rfl⟩ := hy
    subst hx
    simp only [indep, Bool.and_eq_true] at h
    simp only [Eff.run]
    rw [setAt_comm _ (not_beq_spec h.1).symm, setAt_comm _ (not_beq_spec h.2).symm]
  case app.app.app.app b s b' s' ab c t c' t' ab' =>
    obtain ⟨rfl, rfl⟩ := hx
    obtain ⟨rfl, rfl⟩ := hy
    simp only [indep, Bool.and_eq_true] at h
    simp only [Eff.run]
    rw [setAt_comm (setAt m b .gone) (not_beq_spec h.1.2), setAt_comm m (not_beq_spec h.1.1), setAt_comm _ (not_beq_spec h.2.2), setAt_comm _ (not_beq_spec h.2.1)]
  case app.app.store.store b s b1 s1 ab c i j n c' i' j' vs =>
    obtain ⟨rfl, rfl⟩ := hx
    obtain ⟨rfl, rfl, rfl, rfl⟩ := hy
    simp only [indep, Bool.and_eq_true] at h
    simp only [Eff.run]
    rw [getAt_setAt_ne _ _ _ (not_beq_spec h.2), getAt_setAt_ne _ _ _ (not_beq_spec h.1), setAt_comm _ (not_beq_spec h.2), setAt_comm _ (not_beq_spec h.1)]
  case store.store.app.app c i j n c' i' j' vs b s b1 s1 ab =>
    obtain ⟨rfl, rfl⟩ := hy
    obtain ⟨rfl, rfl, rfl, rfl⟩ := hx
    simp only [indep, Bool.and_eq_true] at h
    simp only [Eff.run]
    rw [getAt_setAt_ne _ _ _ (not_beq_spec h.2), getAt_setAt_ne _ _ _ (not_beq_spec h.1), setAt_comm _ (not_beq_spec h.1).symm, setAt_comm _ (not_beq_spec h.2).symm]
def wantA (all : List Oper) (o : Oper) (st : VS) : Option Bool :=
  match o.guard with
  | none => some true
  | some (j, want) => match dstOf all j with
    | none => some false
    | some t => match getAt .dead st.tmps t with
      | .bool b => some (b == want)
      | .tup [] => some false
      | _ => none
inductive DStep (T : Tab) (Γ : Env0) (all : List Oper) (o : Oper) (slot : Nat) (st : VS) : VS -> Micro -> Prop
  | skip : wantA all o st = some false -> DStep T Γ all o slot st (st.put o.dst (.tup [])) .quiet
  | val {p : Prop} {v : AV} {m : Mem} : wantA all o st = some true -> vopD T o st slot = .val p v m -> p -> DStep T Γ all o slot st (({ st with mem := m } : VS).put o.dst v) (microOf T o st slot)
  | call {f : FuncId} {args : List AV} {g : List AV -> Option (Prop × RT)} {p : Prop} {r : RT} : wantA all o st = some true -> vopA T o st slot = .call f args -> Γ f = .pure g -> nilN (AV.slbs args) = true -> g (AV.frzs [] args) = some (p, r) -> p ->
      DStep T Γ all o slot st (st.put o.dst r.val) (microOf T o st slot)
section
variable {P : Program} {T : Tab} {Γ : Env0} {all : List Oper} {x y o : Oper} {sx sy slot : Nat} {st st1 st2 : VS} {mx my mi : Micro}
theorem looks_eval {st' : VS} (h : ∀ t ∈ looks all o, getAt .dead st.tmps t = getAt .dead st'.tmps t) : (∀ x ∈ o.op.operands.toList, st.eval x = st'.eval x) /\ wantA all o st = wantA all o st' := by
  constructor
  · intro x hx
    cases x with
    | tmp t => exact h t (List.mem_append_left _ (List.mem_filterMap.2 ⟨.tmp t, hx, rfl⟩))
    | _ => rfl
  · unfold wantA
    unfold looks at h
    cases hg : o.guard with
    | none => rfl
    | some jw =>
      obtain ⟨j, want⟩ := jw
      simp only [hg] at h ⊢
      cases hd : dstOf all j with
      | none => rfl
      | some t =>
        simp only
        rw [h t (List.mem_append_right _ (by simp [hd]))]
theorem vopD_congr {st st' : VS} (h : ∀ x ∈ o.op.operands.toList, st.eval x = st'.eval x) (hm : st.mem = st'.mem) (hpn : st.pin = st'.pin) : vopD T o st slot = vopD T o st' slot := by
  unfold vopD
  rw [(vopA_congr h hm hpn).1]
theorem pos1 (n : Nat) : 0 < (if Nat.beq n 0 then 1 else n) := by
  split
  · omega
  · rename_i h
    rcases Nat.eq_zero_or_pos n with h0 | h0
    · subst h0; exact absurd rfl h
    · exact h0
theorem microApp_big : ∀ {l : List AV}, (microApp slot l).big := by
  intro l
  unfold microApp
  (repeat' split) <;> first
    | trivial
    | (generalize nilN _ = b; cases b <;> trivial)
theorem microOf_big : (microOf T o st slot).big := by
  unfold microOf
  (repeat' split) <;> first
    | trivial
    | exact microApp_big
    | (generalize Nat.beq _ 0 = b; cases b <;> trivial)
    | exact Nat.lt_of_lt_of_eq (pos1 _) (if_pos (by assumption))
    | exact Nat.lt_of_lt_of_eq (pos1 _) (if_neg (by assumption))
theorem DStep.nf (hΓ : EnvOK P Γ) (h : DStep T Γ all o slot st st1 mi) : ∃ (e : Eff) (v : AV), Eff.Of mi e /\ mi.big /\ st1 = (({ st with mem := e.run st.mem } : VS).put o.dst v) /\
    ∀ st' : VS, (∀ t ∈ looks all o, getAt .dead st.tmps t = getAt .dead st'.tmps t) -> SameFor mi st.mem st'.mem -> st.pin = st'.pin -> DStep T Γ all o slot st' (({ st' with mem := e.run st'.mem } : VS).put o.dst v) mi := by
  cases h with
  | skip hw =>
    exact ⟨.id, .tup [], trivial, trivial, rfl, fun st' hl _ _ => .skip (by rw [← (looks_eval hl).2]; exact hw)⟩
  | @val p v m hw hv hp =>
    obtain ⟨e, h1, h2, h3⟩ := vopD_mem hv
    refine ⟨e, v, h1, microOf_big, by rw [h2], fun st' hl hs hpn => ?_⟩
    obtain ⟨hl1, hl2⟩ := looks_eval hl
    have h4 := h3 st'.mem hs
    obtain ⟨_, hc2⟩ := vopA_congr (T := T) (o := o) (st := { st with mem := st'.mem }) (st' := st') (slot := slot) (fun x hx => by rw [eval_mem]; exact hl1 x hx) rfl hpn
    have hc1 := vopD_congr (T := T) (o := o) (st := { st with mem := st'.mem }) (st' := st') (slot := slot) (fun x hx => by rw [eval_mem]; exact hl1 x hx) rfl hpn
    rw [hc1] at h4
    rw [microOf_mem] at hc2
    rw [hc2]
    exact .val (by rw [← hl2]; exact hw) h4 hp
  | @call f args g p r hw hv hg hn hgr hp =>
    obtain ⟨h1, h2⟩ := vopA_call_mem hv
    refine ⟨.id, r.val, by rw [h1]; trivial, microOf_big, rfl, fun st' hl hs hpn => ?_⟩
    obtain ⟨hl1, hl2⟩ := looks_eval hl
    have h4 := h2 st'.mem
    obtain ⟨hc1, hc2⟩ := vopA_congr (T := T) (o := o) (st := { st with mem := st'.mem }) (st' := st') (slot := slot) (fun x hx => by rw [eval_mem]; exact hl1 x hx) rfl hpn
    rw [hc1] at h4
    rw [microOf_mem] at hc2
    rw [hc2]
    exact .call (by rw [← hl2]; exact hw) h4 hg hn hgr hp
theorem put_tmps_ne {d : Option Tmp} {v : AV} {t : Nat} (h : ∀ e, d = some e -> e ≠ t) : getAt .dead (st.put d v).tmps t = getAt .dead st.tmps t := by
  cases d with
  | none => rfl
  | some e => exact getAt_setAt_ne _ _ _ (h e rfl)
theorem put_pin {d : Option Tmp} {v : AV} : (st.put d v).pin = st.pin := by cases d <;> rfl
theorem put_mem {d : Option Tmp} {v : AV} : (st.put d v).mem = st.mem := by cases d <;> rfl
theorem put_put {d d' : Option Tmp} {v v' : AV} {m m' m'' m0 : Mem} (h : ∀ e e', d = some e -> d' = some e' -> e ≠ e') (hm : m' = m'') :
    ({ (({ st with mem := m } : VS).put d v) with mem := m' } : VS).put d' v' = ({ (({ st with mem := m0 } : VS).put d' v') with mem := m'' } : VS).put d v := by
  subst hm
  cases d <;> cases d' <;> simp only [VS.put]
  rename_i e e'
  rw [setAt_comm _ (h e e' rfl rfl)]
theorem apartOps_spec (h : apartOps all x y = true) : (∀ d, x.dst = some d -> ∀ t ∈ looks all y, d ≠ t) /\ (∀ d, y.dst = some d -> ∀ t ∈ looks all x, d ≠ t) /\ (∀ e e', x.dst = some e -> y.dst = some e' -> e ≠ e') := by
  unfold apartOps at h
  rw [Bool.and_eq_true] at h
  obtain ⟨h1, h2⟩ := h
  refine ⟨fun d e => ?_, fun d e => ?_, fun a b e e' => ?_⟩
  · rw [e] at h1
    simp only [Bool.and_eq_true, Bool.not_eq_true'] at h1
    exact memN_spec h1.1
  · rw [e] at h2
    simp only [Bool.not_eq_true'] at h2
    exact memN_spec h2
  · rw [e, e'] at h1
    simp only [Bool.and_eq_true] at h1
    exact not_beq_spec h1.2
theorem DStep.swap (hΓ : EnvOK P Γ) (hx : DStep T Γ all x sx st st1 mx) (hy : DStep T Γ all y sy st1 st2 my) (ha : apartOps all x y = true) (hi : indep mx my = true) :
    ∃ st1', DStep T Γ all y sy st st1' my /\ DStep T Γ all x sx st1' st2 mx := by
  obtain ⟨a1, a2, a3⟩ := apartOps_spec ha
  obtain ⟨ex, vx, x1, x2, rfl, x4⟩ := hx.nf hΓ
  obtain ⟨ey, vy, y1, y2, rfl, y4⟩ := hy.nf hΓ
  have hsy : SameFor my (({ st with mem := ex.run st.mem } : VS).put x.dst vx).mem st.mem := by rw [put_mem]; exact same_of_indep x1 y2 (.inl hi)
  have hy' := y4 st (fun t ht => put_tmps_ne (st := { st with mem := ex.run st.mem }) (fun e he => a1 e he t ht)) hsy (by rw [put_pin])
  refine ⟨_, hy', ?_⟩
  have hsx : SameFor mx st.mem (({ st with mem := ey.run st.mem } : VS).put y.dst vy).mem := by
    rw [put_mem]
    have := same_of_indep (m := st.mem) y1 x2 (.inr hi)
    exact this.symm
  have hx' := x4 (({ st with mem := ey.run st.mem } : VS).put y.dst vy) (fun t ht => (put_tmps_ne (st := { st with mem := ey.run st.mem }) (fun e he => a2 e he t ht)).symm) hsx (by rw [put_pin])
  rw [put_put (st := st) (m0 := ey.run st.mem) (fun e e' h h' => a3 e e' h h') (m'' := ex.run (({ st with mem := ey.run st.mem } : VS).put y.dst vy).mem) (by rw [put_mem, put_mem]; exact eff_comm x1 y1 hi)]
  exact hx'
end
end Go.Ag
