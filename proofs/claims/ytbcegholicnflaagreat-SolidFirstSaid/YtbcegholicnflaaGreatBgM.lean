import Derived.Test.YtbcegholicnflaaGreatBgL
set_option linter.unusedVariables false
set_option linter.unusedSimpArgs false
namespace Go.Ag
open Go.RowKit
theorem J6 : ∀ (vs cells : List AV) (j:Nat), jJ (setCells cells j vs) = jJ cells := fun vs cells j => by rw [jE, jE, gU]
theorem iQ (d : AV) : ∀ (vs cells : List AV) (j k:Nat), (k < j \/ j + jJ vs <= k) -> aS d (setCells cells j vs) k = aS d cells k
  | [], cells, j, k, _ => rfl
  | v :: vs, cells, j, k, h => by
    simp only [jJ] at h
    rw [setCells, iQ d vs _ (j + 1) k (by omega), aP _ _ _ (by omega)]
theorem Uj {l l' : List AV} (h : l.length = l'.length) (hg : ∀ k, aS .dead l k = aS .dead l' k) : l = l' := by
  apply List.ext_getElem h
  intro i h1 h2
  have := hg i
  rw [gy, gy] at this
  simpa [List.getD, h1, h2] using this
theorem lD (d : AV) : ∀ (vs cells : List AV) (j k:Nat), j <= k -> k < j + jJ vs -> k < cells.length -> aS d (setCells cells j vs) k = aS d vs (k - j)
  | [], cells, j, k, h, h', _ => by simp [jJ] at h'; omega
  | v :: vs, cells, j, k, h, h', hl => by
    simp only [jJ] at h'
    rw [setCells]
    by_cases hk : k = j
    . subst hk
      rw [iQ d vs _ (k + 1) k (by omega), bV _ _ hl, Nat.sub_self]
      rfl
    . rw [lD d vs _ (j + 1) k (by omega) (by omega) (by rw [cu]; exact hl)]
      have : k - j = (k - (j + 1)) + 1 := by omega
      rw [this]
      rfl
theorem TB {vs vs' cells : List AV} {j j' : Nat} (h : j + jJ vs <= j' \/ j' + jJ vs' <= j) : setCells (setCells cells j vs) j' vs' = setCells (setCells cells j' vs') j vs := by
  apply Uj
  . simp only [gU]
  . intro k
    by_cases hl : k < cells.length
    . by_cases h1 : j <= k /\ k < j + jJ vs
      . rw [iQ _ vs' _ _ _ (by omega), lD _ _ _ _ _ h1.1 h1.2 hl, lD _ _ _ _ _ h1.1 h1.2 (by rw [gU]; exact hl)]
      . rw [iQ _ vs (setCells cells j' vs') _ _ (by omega)]
        by_cases h2 : j' <= k /\ k < j' + jJ vs'
        . rw [lD _ _ _ _ _ h2.1 h2.2 hl, lD _ _ _ _ _ h2.1 h2.2 (by rw [gU]; exact hl)]
        . rw [iQ _ vs' _ _ _ (by omega), iQ _ vs _ _ _ (by omega), iQ _ vs' _ _ _ (by omega)]
    . rw [kZ _ (by simp only [gU]; omega), kZ _ (by simp only [gU]; omega)]
theorem OM {agg : Bool} {size n j j' : Nat} {vs cells : List AV} (hs : size <= n) (h : j + n <= j' \/ j' + jJ vs <= j) (hn : 0 < n) : vO agg size j (setCells cells j' vs) = vO agg size j cells := by
  unfold vO
  rw [J6]
  cases agg with
  | true =>
    simp only [if_true]
    split
    . congr 2
      apply Uj
      . simp only [JR, JU, List.length_take, List.length_drop, gU]
      . intro k
        rw [JR, JR, JU, JU, gy, gy]
        simp only [List.getD, List.getElem?_take, List.getElem?_drop]
        split
        . have := iQ .dead vs cells j' (j + k) (by omega)
          rw [gy, gy] at this
          exact this
        . rfl
    . rfl
  | false =>
    simp only [Bool.false_eq_true, if_false]
    rw [iQ _ _ _ _ _ (by omega)]
theorem YA (i j:Nat) (vs : List AV) (ab : AB) : Hw (updB i j vs ab) = Hw ab := by
  cases ab <;> simp [updB, Hw, J6]
theorem acJ {n m : Nat} (h : n ≠ m) : Nat.beq n m = false := by
  cases h' : Nat.beq n m
  . rfl
  . exact absurd (Nat.eq_of_beq_eq_true h') h
theorem vP {b i j n b' i' j' n' : Nat} (h : xZ b i j n b' i' j' n' = true) : b ≠ b' \/ (i = i' /\ (j + n <= j' \/ j' + n' <= j)) := by
  unfold xZ at h
  simp only [Bool.or_eq_true, Bool.not_eq_true', Bool.and_eq_true] at h
  rcases h with h | ⟨h1, h2⟩
  . exact .inl fun e => by subst e; rw [Nat.beq_refl] at h; cases h
  . exact .inr ⟨Nat.eq_of_beq_eq_true h1, h2.imp Nat.le_of_ble_eq_true Nat.le_of_ble_eq_true⟩
theorem aY {a b : Nat} (h : (!(Nat.beq a b)) = true) : a ≠ b := fun e => by subst e; rw [Nat.beq_refl] at h; cases h
theorem Ld {n : Nat} : ∀ {l : List Nat}, Fe n l = false -> ∀ x ∈ l, n ≠ x
  | [], _, x, hx => by cases hx
  | y :: ys, h, x, hx => by
    simp only [Fe, Bool.or_eq_false_iff] at h
    rcases List.mem_cons.1 hx with rfl | hx
    . exact fun e => by subst e; rw [Nat.beq_refl] at h; cases h.1
    . exact Ld h.2 x hx
def iG.big : iG -> Prop
  | .load _ _ _ n => 0 < n
  | _ => True
theorem gu.refl (mi : iG) (m : Mem) : gu mi m m := by
  cases mi <;> simp [gu]
theorem gu.symm {mi : iG} {m m' : Mem} (h : gu mi m m') : gu mi m' m := by
  cases mi with
  | load b i j n => exact fun agg n' hn => Eq.symm (h agg n' hn)
  | store b i j n => exact Eq.symm h
  | bar => exact Eq.symm h
  | loadM b => exact Eq.symm h
  | storeM b => exact Eq.symm h
  | app b s => exact Eq.symm h
  | quiet => trivial
  | alloc => trivial
theorem gu.trans {mi : iG} {m m' m'' : Mem} (h : gu mi m m') (h' : gu mi m' m'') : gu mi m m'' := by
  cases mi with
  | load b i j n => exact fun agg n' hn => (h agg n' hn).trans (h' agg n' hn)
  | store b i j n => exact Eq.trans h h'
  | bar => exact Eq.trans h h'
  | loadM b => exact Eq.trans h h'
  | storeM b => exact Eq.trans h h'
  | app b s => exact Eq.trans h h'
  | quiet => trivial
  | alloc => trivial
theorem Hy {mx my : iG} {ex : Eff} {m : Mem} (hx : Eff.Of mx ex) (hb : my.big) (h : indep mx my = true \/ indep my mx = true) : gu my (ex.run m) m := by
  have far : ∀ {m : Mem} {b : Nat} {ab : AB}, (∀ b', my = .loadM b' -> b ≠ b') -> (∀ b', my = .storeM b' -> b ≠ b') -> (∀ b' i j n, my = .load b' i j n -> b ≠ b') -> (∀ b' i j n, my = .store b' i j n -> b ≠ b') -> (∀ b' s', my = .app b' s' -> b ≠ b') -> my ≠ .bar -> gu my (setAt m b ab) m := by
    intro m b ab h1 h2 h3 h4 h6 h5
    cases my with
    | quiet => trivial
    | alloc => trivial
    | bar => exact absurd rfl h5
    | load b' i j n => intro agg n' _; rw [aP _ _ _ (h3 _ _ _ _ rfl)]
    | store b' i j n => simp only [gu]; rw [aP _ _ _ (h4 _ _ _ _ rfl)]
    | loadM b' => simp only [gu]; rw [aP _ _ _ (h1 _ rfl)]
    | storeM b' => simp only [gu]; rw [aP _ _ _ (h2 _ rfl)]
    | app b' s' => simp only [gu]; rw [aP _ _ _ (h6 _ _ rfl)]
  cases mx <;> cases ex <;> simp only [Eff.Of] at hx <;> first
    | exact gu.refl _ _
    | skip
  case alloc.alloc s s' ab =>
    subst hx
    simp only [Eff.run]
    refine far ?_ ?_ ?_ ?_ ?_ ?_ <;> intros <;> subst_vars <;> simp only [indep, Bool.false_eq_true, or_self, false_or, or_false, Bool.and_eq_true] at h <;>
      first | exact (aY h).symm | (rcases h with h | h <;> exact (aY h).symm) | exact (aY h.1).symm | (intro e; subst e; simp [indep] at h)
  case storeM.setB s s' ab =>
    subst hx
    simp only [Eff.run]
    refine far ?_ ?_ ?_ ?_ ?_ ?_ <;> intros <;> subst_vars <;> simp only [indep, Bool.false_eq_true, or_self, false_or, or_false, Bool.and_eq_true] at h <;>
      first | exact aY h | exact (aY h).symm | (rcases h with h | h <;> first | exact aY h | exact (aY h).symm) | exact (aY h.1).symm | (intro e; subst e; simp [indep] at h)
  case app.app b s b' s' ab =>
    obtain ⟨rfl, rfl⟩ := hx
    simp only [Eff.run]
    have h1 : gu my (setAt m b .gone) m := by
      refine far ?_ ?_ ?_ ?_ ?_ ?_ <;> intros <;> subst_vars <;> simp only [indep, Bool.false_eq_true, or_self, false_or, or_false, Bool.and_eq_true] at h <;>
        first | exact aY h.1 | exact aY h.1.1 | (rcases h with h | h <;> first | exact aY h.1.1 | exact (aY h.1.1).symm) | (intro e; subst e; simp [indep] at h)
    have h2 : gu my (setAt (setAt m b .gone) s ab) (setAt m b .gone) := by
      refine far ?_ ?_ ?_ ?_ ?_ ?_ <;> intros <;> subst_vars <;> simp only [indep, Bool.false_eq_true, or_self, false_or, or_false, Bool.and_eq_true] at h <;>
        first | exact aY h.2 | (rcases h with h | h <;> first | exact aY h.1.2 | exact (aY h.2.1).symm) | (intro e; subst e; simp [indep] at h)
    exact h2.trans h1
  case store.store b i j n b' i' j' vs =>
    obtain ⟨rfl, rfl, rfl, rfl⟩ := hx
    cases my <;> simp only [gu, indep, Bool.false_eq_true, or_self, false_or, or_false] at h ⊢
    case app b' s' =>
      simp only [Bool.and_eq_true] at h
      have : b ≠ b' := by first | exact (aY h.1).symm | (rcases h with h | h <;> exact (aY h.1).symm)
      simp only [Eff.run, aP _ _ _ this]
    case loadM b' =>
      have : b ≠ b' := by first | exact (aY h).symm | (rcases h with h | h <;> exact (aY h).symm)
      simp only [Eff.run, aP _ _ _ this]
    case storeM b' =>
      have : b ≠ b' := by first | exact (aY h).symm | (rcases h with h | h <;> exact (aY h).symm)
      simp only [Eff.run, aP _ _ _ this]
    case load b' i' j' n' =>
      intro agg n'' hn''
      have : b ≠ b' \/ (i = i' /\ (j + jJ vs <= j' \/ j' + n' <= j)) := by
        rcases h with h | h
        . exact vP h
        . rcases vP h with h | ⟨h1, h2⟩
          . exact .inl (Ne.symm h)
          . exact .inr ⟨h1.symm, h2.symm⟩
      by_cases hbb : b = b'
      . subst hbb
        rcases this with h | ⟨rfl, h2⟩
        . exact absurd rfl h
        . simp only [Eff.run]
          by_cases hl : b < m.length
          . rw [bV _ _ hl]
            have hb : 0 < n' := hb
            cases aS .gone m b with
            | gone => rfl
            | one o ty cells => simp only [updB, Xq, OM (agg := agg) (cells := cells) hn'' (show j' + n' <= j \/ j + jJ vs <= j' by omega) hb]
            | many o ty n cols => rfl
          . rw [kZ _ (by rw [cu]; omega), kZ _ (by omega)]
      . simp only [Eff.run, aP _ _ _ hbb]
    case store b' i' j' n' =>
      simp only [Eff.run]
      by_cases hbb : b = b'
      . subst hbb
        by_cases hl : b < m.length
        . rw [bV _ _ hl, YA]
        . rw [kZ _ (by rw [cu]; omega), kZ _ (by omega)]
      . rw [aP _ _ _ hbb]
  case bar.bar m1 =>
    cases my <;> simp [gu, indep] at h ⊢
theorem eu {α : Type} (l : List α) {i j : Nat} (h : i ≠ j) (x y : α) : setAt (setAt l i x) j y = setAt (setAt l j y) i x := by
  simp only [pR]
  exact List.set_comm _ _ h
theorem aeA {mx my : iG} {ex ey : Eff} {m : Mem} (hx : Eff.Of mx ex) (hy : Eff.Of my ey) (h : indep mx my = true) : ey.run (ex.run m) = ex.run (ey.run m) := by
  cases mx <;> cases ex <;> simp only [Eff.Of] at hx <;> first
    | rfl
    | skip
  all_goals cases my <;> cases ey <;> simp only [Eff.Of] at hy <;> first
    | rfl
    | (simp only [indep, Bool.false_eq_true] at h; done)
    | skip
  case alloc.alloc.alloc.alloc s s' ab t t' ab' =>
    subst hx hy
    exact eu _ (aY h) _ _
  case alloc.alloc.store.store s s' ab b i j n b' i' j' vs =>
    subst hx
    obtain ⟨rfl, rfl, rfl, rfl⟩ := hy
    have := aY h
    simp only [Eff.run]
    rw [aP _ _ _ (Ne.symm this), eu _ (Ne.symm this)]
  case store.store.alloc.alloc b i j n b' i' j' vs s s' ab =>
    subst hy
    obtain ⟨rfl, rfl, rfl, rfl⟩ := hx
    have := aY h
    simp only [Eff.run]
    rw [aP _ _ _ (Ne.symm this), eu _ (Ne.symm this)]
  case store.store.store.store b i j n b1 i1 j1 vs b' i' j' n' b2 i2 j2 vs' =>
    obtain ⟨rfl, rfl, rfl, rfl⟩ := hx
    obtain ⟨rfl, rfl, rfl, rfl⟩ := hy
    simp only [Eff.run]
    by_cases hbb : b = b'
    . subst hbb
      rcases vP h with h | ⟨rfl, h2⟩
      . exact absurd rfl h
      . by_cases hl : b < m.length
        . rw [bV _ _ hl, bV _ _ hl, zn, zn]
          congr 1
          cases aS .gone m b with
          | gone => rfl
          | one o ty cells => simp only [updB, TB h2]
          | many o ty n cols => rfl
        . simp only [pR]
          rw [List.set_eq_of_length_le (by simp; omega), List.set_eq_of_length_le (by omega), List.set_eq_of_length_le (by simp; omega), List.set_eq_of_length_le (by omega)]
    . rw [aP _ _ _ hbb, aP _ _ _ (Ne.symm hbb), eu _ hbb]
  case alloc.alloc.storeM.setB s s' ab b b' ab' =>
    subst hx hy
    exact eu _ (aY h).symm _ _
  case storeM.setB.alloc.alloc b b' ab' s s' ab =>
    subst hx hy
    exact eu _ (aY h) _ _
  case storeM.setB.storeM.setB b b' ab s s' ab' =>
    subst hx hy
    exact eu _ (aY h) _ _
  case store.store.storeM.setB b i j n b' i' j' vs s s' ab =>
    subst hy
    obtain ⟨rfl, rfl, rfl, rfl⟩ := hx
    have := aY h
    simp only [Eff.run]
    rw [aP _ _ _ this, eu _ this]
  case storeM.setB.store.store s s' ab b i j n b' i' j' vs =>
    subst hx
    obtain ⟨rfl, rfl, rfl, rfl⟩ := hy
    have := aY h
    simp only [Eff.run]
    rw [aP _ _ _ this, eu _ this]
  case app.app.alloc.alloc b s b' s' ab t t' ab' =>
    obtain ⟨rfl, rfl⟩ := hx
    subst hy
    simp only [indep, Bool.and_eq_true] at h
    simp only [Eff.run]
    rw [eu _ (aY h.2), eu _ (aY h.1)]
  case app.app.storeM.setB b s b' s' ab t t' ab' =>
    obtain ⟨rfl, rfl⟩ := hx
    subst hy
    simp only [indep, Bool.and_eq_true] at h
    simp only [Eff.run]
    rw [eu _ (aY h.2), eu _ (aY h.1)]
  case alloc.alloc.app.app t t' ab' b s b' s' ab =>
    obtain ⟨rfl, rfl⟩ := hy
    subst hx
    simp only [indep, Bool.and_eq_true] at h
    simp only [Eff.run]
    rw [eu _ (aY h.1).symm, eu _ (aY h.2).symm]
  case storeM.setB.app.app t t' ab' b s b' s' ab =>
    obtain ⟨rfl, rfl⟩ := hy
    subst hx
    simp only [indep, Bool.and_eq_true] at h
    simp only [Eff.run]
    rw [eu _ (aY h.1).symm, eu _ (aY h.2).symm]
  case app.app.app.app b s b' s' ab c t c' t' ab' =>
    obtain ⟨rfl, rfl⟩ := hx
    obtain ⟨rfl, rfl⟩ := hy
    simp only [indep, Bool.and_eq_true] at h
    simp only [Eff.run]
    rw [eu (setAt m b .gone) (aY h.1.2), eu m (aY h.1.1), eu _ (aY h.2.2), eu _ (aY h.2.1)]
  case app.app.store.store b s b1 s1 ab c i j n c' i' j' vs =>
    obtain ⟨rfl, rfl⟩ := hx
    obtain ⟨rfl, rfl, rfl, rfl⟩ := hy
    simp only [indep, Bool.and_eq_true] at h
    simp only [Eff.run]
    rw [aP _ _ _ (aY h.2), aP _ _ _ (aY h.1), eu _ (aY h.2), eu _ (aY h.1)]
  case store.store.app.app c i j n c' i' j' vs b s b1 s1 ab =>
    obtain ⟨rfl, rfl⟩ := hy
    obtain ⟨rfl, rfl, rfl, rfl⟩ := hx
    simp only [indep, Bool.and_eq_true] at h
    simp only [Eff.run]
    rw [aP _ _ _ (aY h.2), aP _ _ _ (aY h.1), eu _ (aY h.1).symm, eu _ (aY h.2).symm]
def FK (all : List Oper) (o : Oper) (st : VS) : Option Bool :=
  match o.guard with
  | none => some true
  | some (j, want) => match JM all j with
    | none => some false
    | some t => match aS .dead st.tmps t with
      | .bool b => some (b == want)
      | .tup [] => some false
      | _ => none
inductive DStep (T : Tab) (Γ : wK) (all : List Oper) (o : Oper) (slot:Nat) (st : VS) : VS -> iG -> Prop
  | skip : FK all o st = some false -> DStep T Γ all o slot st (st.put o.dst (.tup [])) .quiet
  | val {p : Prop} {v : AV} {m : Mem} : FK all o st = some true -> JQ T o st slot = .val p v m -> p -> DStep T Γ all o slot st (({ st with mem := m } : VS).put o.dst v) (dw T o st slot)
  | call {f : FuncId} {args : List AV} {g : List AV -> Option (Prop × RT)} {p : Prop} {r : RT} : FK all o st = some true -> gZ T o st slot = .call f args -> Γ f = .pure g -> KT (AV.slbs args) = true -> g (AV.Hf [] args) = some (p, r) -> p ->
      DStep T Γ all o slot st (st.put o.dst r.val) (dw T o st slot)
section
variable {P : Program} {T : Tab} {Γ : wK} {all : List Oper} {x y o : Oper} {sx sy slot : Nat} {st st1 st2 : VS} {mx my mi : iG}
theorem Ie {st' : VS} (h : ∀ t ∈ looks all o, aS .dead st.tmps t = aS .dead st'.tmps t) : (∀ x ∈ o.op.operands.toList, st.eval x = st'.eval x) /\ FK all o st = FK all o st' := by
  constructor
  . intro x hx
    cases x with
    | tmp t => exact h t (List.mem_append_left _ (List.mem_filterMap.2 ⟨.tmp t, hx, rfl⟩))
    | _ => rfl
  . unfold FK
    unfold looks at h
    cases hg : o.guard with
    | none => rfl
    | some jw =>
      obtain ⟨j, want⟩ := jw
      simp only [hg] at h ⊢
      cases hd : JM all j with
      | none => rfl
      | some t =>
        simp only
        rw [h t (List.mem_append_right _ (by simp [hd]))]
theorem YB {st st' : VS} (h : ∀ x ∈ o.op.operands.toList, st.eval x = st'.eval x) (hm : st.mem = st'.mem) (hpn : st.pin = st'.pin) : JQ T o st slot = JQ T o st' slot := by
  unfold JQ
  rw [(Ic h hm hpn).1]
theorem pos1 (n:Nat) : 0 < (if Nat.beq n 0 then 1 else n) := by
  split
  . omega
  . rename_i h
    rcases Nat.eq_zero_or_pos n with h0 | h0
    . subst h0; exact absurd rfl h
    . exact h0
theorem Va : ∀ {l : List AV}, (vF slot l).big := by
  intro l
  unfold vF
  (repeat' split) <;> first
    | trivial
    | (generalize KT _ = b; cases b <;> trivial)
theorem Oi : (dw T o st slot).big := by
  unfold dw
  (repeat' split) <;> first
    | trivial
    | exact Va
    | (generalize Nat.beq _ 0 = b; cases b <;> trivial)
    | exact Nat.lt_of_lt_of_eq (pos1 _) (if_pos (by assumption))
    | exact Nat.lt_of_lt_of_eq (pos1 _) (if_neg (by assumption))
theorem DStep.nf (hΓ : J5 P Γ) (h : DStep T Γ all o slot st st1 mi) : ∃ (e : Eff) (v : AV), Eff.Of mi e /\ mi.big /\ st1 = (({ st with mem := e.run st.mem } : VS).put o.dst v) /\
    ∀ st' : VS, (∀ t ∈ looks all o, aS .dead st.tmps t = aS .dead st'.tmps t) -> gu mi st.mem st'.mem -> st.pin = st'.pin -> DStep T Γ all o slot st' (({ st' with mem := e.run st'.mem } : VS).put o.dst v) mi := by
  cases h with
  | skip hw =>
    exact ⟨.id, .tup [], trivial, trivial, rfl, fun st' hl _ _ => .skip (by rw [<- (Ie hl).2]; exact hw)⟩
  | @val p v m hw hv hp =>
    obtain ⟨e, h1, h2, h3⟩ := aez hv
    refine ⟨e, v, h1, Oi, by rw [h2], fun st' hl hs hpn => ?_⟩
    obtain ⟨hl1, hl2⟩ := Ie hl
    have h4 := h3 st'.mem hs
    obtain ⟨_, hc2⟩ := Ic (T := T) (o := o) (st := { st with mem := st'.mem }) (st' := st') (slot := slot) (fun x hx => by rw [jB]; exact hl1 x hx) rfl hpn
    have hc1 := YB (T := T) (o := o) (st := { st with mem := st'.mem }) (st' := st') (slot := slot) (fun x hx => by rw [jB]; exact hl1 x hx) rfl hpn
    rw [hc1] at h4
    rw [Oh] at hc2
    rw [hc2]
    exact .val (by rw [<- hl2]; exact hw) h4 hp
  | @call f args g p r hw hv hg hn hgr hp =>
    obtain ⟨h1, h2⟩ := TA hv
    refine ⟨.id, r.val, by rw [h1]; trivial, Oi, rfl, fun st' hl hs hpn => ?_⟩
    obtain ⟨hl1, hl2⟩ := Ie hl
    have h4 := h2 st'.mem
    obtain ⟨hc1, hc2⟩ := Ic (T := T) (o := o) (st := { st with mem := st'.mem }) (st' := st') (slot := slot) (fun x hx => by rw [jB]; exact hl1 x hx) rfl hpn
    rw [hc1] at h4
    rw [Oh] at hc2
    rw [hc2]
    exact .call (by rw [<- hl2]; exact hw) h4 hg hn hgr hp
theorem Oj {d : Option Tmp} {v : AV} {t : Nat} (h : ∀ e, d = some e -> e ≠ t) : aS .dead (st.put d v).tmps t = aS .dead st.tmps t := by
  cases d with
  | none => rfl
  | some e => exact aP _ _ _ (h e rfl)
theorem aaF {d : Option Tmp} {v : AV} : (st.put d v).pin = st.pin := by cases d <;> rfl
theorem put_mem {d : Option Tmp} {v : AV} : (st.put d v).mem = st.mem := by cases d <;> rfl
theorem ahp {d d' : Option Tmp} {v v' : AV} {m m' m'' m0 : Mem} (h : ∀ e e', d = some e -> d' = some e' -> e ≠ e') (hm : m' = m'') :
    ({ (({ st with mem := m } : VS).put d v) with mem := m' } : VS).put d' v' = ({ (({ st with mem := m0 } : VS).put d' v') with mem := m'' } : VS).put d v := by
  subst hm
  cases d <;> cases d' <;> simp only [VS.put]
  rename_i e e'
  rw [eu _ (h e e' rfl rfl)]
theorem TD (h : yc all x y = true) : (∀ d, x.dst = some d -> ∀ t ∈ looks all y, d ≠ t) /\ (∀ d, y.dst = some d -> ∀ t ∈ looks all x, d ≠ t) /\ (∀ e e', x.dst = some e -> y.dst = some e' -> e ≠ e') := by
  unfold yc at h
  rw [Bool.and_eq_true] at h
  obtain ⟨h1, h2⟩ := h
  refine ⟨fun d e => ?_, fun d e => ?_, fun a b e e' => ?_⟩
  . rw [e] at h1
    simp only [Bool.and_eq_true, Bool.not_eq_true'] at h1
    exact Ld h1.1
  . rw [e] at h2
    simp only [Bool.not_eq_true'] at h2
    exact Ld h2
  . rw [e, e'] at h1
    simp only [Bool.and_eq_true] at h1
    exact aY h1.2
theorem DStep.swap (hΓ : J5 P Γ) (hx : DStep T Γ all x sx st st1 mx) (hy : DStep T Γ all y sy st1 st2 my) (ha : yc all x y = true) (hi : indep mx my = true) :
    ∃ st1', DStep T Γ all y sy st st1' my /\ DStep T Γ all x sx st1' st2 mx := by
  obtain ⟨a1, a2, a3⟩ := TD ha
  obtain ⟨ex, vx, x1, x2, rfl, x4⟩ := hx.nf hΓ
  obtain ⟨ey, vy, y1, y2, rfl, y4⟩ := hy.nf hΓ
  have hsy : gu my (({ st with mem := ex.run st.mem } : VS).put x.dst vx).mem st.mem := by rw [put_mem]; exact Hy x1 y2 (.inl hi)
  have hy' := y4 st (fun t ht => Oj (st := { st with mem := ex.run st.mem }) (fun e he => a1 e he t ht)) hsy (by rw [aaF])
  refine ⟨_, hy', ?_⟩
  have hsx : gu mx st.mem (({ st with mem := ey.run st.mem } : VS).put y.dst vy).mem := by
    rw [put_mem]
    have := Hy (m := st.mem) y1 x2 (.inr hi)
    exact this.symm
  have hx' := x4 (({ st with mem := ey.run st.mem } : VS).put y.dst vy) (fun t ht => (Oj (st := { st with mem := ey.run st.mem }) (fun e he => a2 e he t ht)).symm) hsx (by rw [aaF])
  rw [ahp (st := st) (m0 := ey.run st.mem) (fun e e' h h' => a3 e e' h h') (m'' := ex.run (({ st with mem := ey.run st.mem } : VS).put y.dst vy).mem) (by rw [put_mem, put_mem]; exact aeA x1 y1 hi)]
  exact hx'
end
end Go.Ag
