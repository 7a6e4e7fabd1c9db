import Derived.Test.YtbcegholicnflaaGreatBgK
set_option linter.unusedVariables false
set_option linter.unusedSimpArgs false
namespace Go.Ag
open Go.RowKit
inductive Eff where
  | id
  | alloc (s:Nat) (ab : AB)
  | store (b i j:Nat) (vs : List AV)
  | setB (b:Nat) (ab : AB)
  | app (b s:Nat) (ab : AB)
  | bar (m : Mem)
def updB (i j:Nat) (vs : List AV) : AB -> AB
  | .one o ty cells => .one o ty (setCells cells j vs)
  | ab => ab
def Eff.run : Eff -> Mem -> Mem
  | .id, m => m
  | .alloc s ab, m => setAt m s ab
  | .store b i j vs, m => setAt m b (updB i j vs (aS .gone m b))
  | .setB b ab, m => setAt m b ab
  | .app b s ab, m => setAt (setAt m b .gone) s ab
  | .bar m1, _ => m1
def Eff.Of : iG -> Eff -> Prop
  | .quiet, .id => True
  | .load .., .id => True
  | .loadM _, .id => True
  | .alloc s, .alloc s' _ => s = s'
  | .store b i j n, .store b' i' j' vs => b = b' /\ i = i' /\ j = j' /\ n = jJ vs
  | .storeM b, .setB b' _ => b = b'
  | .app b s, .app b' s' _ => b = b' /\ s = s'
  | .bar, .bar _ => True
  | _, _ => False
def Xq (agg:Bool) (size i j:Nat) : AB -> Option (Prop × AV)
  | .one _ _ cells => if Nat.beq i 0 then (vO agg size j cells).map fun v => (True, v) else none
  | _ => none
def Hw : AB -> Nat × Bool × Nat × Nat
  | .gone => (0, false, 0, 0)
  | .one o ty cells => (1, o, ty, jJ cells)
  | .many o ty n _ => (2, o, ty, n)
def gu : iG -> Mem -> Mem -> Prop
  | .quiet, _, _ => True
  | .alloc _, _, _ => True
  | .load b i j n, m, m' => ∀ agg n', n' <= n -> Xq agg n' i j (aS .gone m b) = Xq agg n' i j (aS .gone m' b)
  | .store b _ _ _, m, m' => Hw (aS .gone m b) = Hw (aS .gone m' b)
  | .loadM b, m, m' => aS .gone m b = aS .gone m' b
  | .storeM b, m, m' => aS .gone m b = aS .gone m' b
  | .app b _, m, m' => aS .gone m b = aS .gone m' b
  | .bar, m, m' => m = m'
theorem zn {α : Type} (l : List α) (i:Nat) (x y : α) : setAt (setAt l i x) i y = setAt l i y := by simp [pR]
theorem ahn (n:Nat) : n <= (if Nat.beq n 0 then 1 else n) := by
  split
  . rename_i hz
    rw [Nat.eq_of_beq_eq_true hz]
    exact Nat.zero_le _
  . exact Nat.le_refl _
theorem Xr (ti : TI) (b i j:Nat) (m : Mem) : xX ti (.ptr false b i j) m = match Xq (lH ti.desc) ti.size i j (aS .gone m b) with
    | some (p, v) => .val p v m
    | none => .no := by
  unfold xX Xq
  simp only
  cases aS .gone m b with
  | gone => rfl
  | one o ty cells =>
    simp only
    split
    . cases vO (lH ti.desc) ti.size j cells <;> rfl
    . rfl
  | many o ty n cols => rfl
theorem Og {ti : TI} {b i j : Nat} {x v : AV} {m m' m1 : Mem} {p : Prop} (h : qI ti (.ptr false b i j) x m = .val p v m1) :
    ∃ vs, x.cellsOf = some vs /\ jJ vs = ti.size /\ m1 = (Eff.store b i j vs).run m /\ (Hw (aS .gone m b) = Hw (aS .gone m' b) -> qI ti (.ptr false b i j) x m' = .val p v ((Eff.store b i j vs).run m')) := by
  unfold qI at h
  cases hx : x.cellsOf with
  | none => rw [hx] at h; cases h
  | some vs =>
    rw [hx] at h
    simp only at h
    refine ⟨vs, rfl, ?_⟩
    split at h
    . rename_i hl
      refine ⟨Nat.eq_of_beq_eq_true hl, ?_⟩
      unfold Eff.run updB qI
      rw [hx]
      simp only [hl, if_true]
      cases hg : aS .gone m b with
      | gone => rw [hg] at h; cases h
      | one o ty cells =>
        rw [hg] at h
        cases o with
        | false => simp at h
        | true =>
          simp only at h
          split at h
          . rename_i hc
            cases h
            refine ⟨rfl, fun hk => ?_⟩
            cases hg' : aS .gone m' b with
            | gone => rw [hg'] at hk; simp [Hw] at hk
            | one o' ty' cells' =>
              rw [hg'] at hk
              simp only [Hw, Prod.mk.injEq, true_and] at hk
              obtain ⟨rfl, rfl, hlen⟩ := hk
              simp only [<- hlen, hc, if_true]
            | many => rw [hg'] at hk; simp [Hw] at hk
          . cases h
      | many o ty n cols => rw [hg] at h; cases o <;> simp at h
    . cases h
theorem U9 {ti : TI} {b i j : Nat} {x v : AV} {m m1 : Mem} {p : Prop} (h : qI ti (.ptr true b i j) x m = .val p v m1) :
    ∃ ab, m1 = setAt m b ab /\ ∀ m', aS .gone m b = aS .gone m' b -> qI ti (.ptr true b i j) x m' = .val p v (setAt m' b ab) := by
  unfold qI at h ⊢
  cases hx : x.cellsOf with
  | none => rw [hx] at h; cases h
  | some vs =>
    rw [hx] at h
    simp only at h ⊢
    split at h
    . rename_i hl
      simp only [hl, if_true]
      cases hg : aS .gone m b with
      | gone => rw [hg] at h; cases h
      | one o ty cells => rw [hg] at h; cases o <;> simp at h
      | many o ty n cols =>
        rw [hg] at h
        cases o with
        | false => simp at h
        | true =>
          simp only at h
          split at h
          . rename_i hc
            split at h
            . rename_i cols' hu
              cases h
              exact ⟨_, rfl, fun m' hm' => by rw [<- hm']; simp [hc, hu]⟩
            . cases h
          . cases h
    . cases h
theorem jB (st : VS) (m : Mem) (x : Operand) : ({ st with mem := m } : VS).eval x = st.eval x := by cases x <;> rfl
theorem lZ (st : VS) (m : Mem) : ∀ xs, nT { st with mem := m } xs = nT st xs
  | [] => rfl
  | x :: xs => by simp only [nT, jB, lZ st m xs]
theorem BR (st : VS) (m : Mem) : ∀ xs, mQ { st with mem := m } xs = mQ st xs
  | [] => rfl
  | (i, x) :: xs => by simp only [mQ, jB, BR st m xs]
theorem aew {T : Tab} {op : BinOp} {t : TypeId} {c : Bool} {x y v : AV} {m m1 : Mem} {p : Prop} (h : Tt T op t c x y m = .val p v m1) : m1 = m /\ ∀ m', Tt T op t c x y m' = .val p v m' := by
  cases c <;> unfold Tt at h ⊢ <;> (try simp only [cond_true, cond_false] at h ⊢) <;>
  (repeat' split at h) <;> first | (cases h; done) | (simp only [R.val.injEq] at h; obtain ⟨rfl, rfl, rfl⟩ := h; exact ⟨rfl, fun m' => rfl⟩) | (simp only [R.val.injEq] at h; obtain ⟨rfl, rfl, rfl⟩ := h; refine ⟨rfl, fun m' => ?_⟩; simp_all)
theorem Yy {T : Tab} {t : TypeId} {x v : AV} {l u : Option AV} {m m1 : Mem} {p : Prop} (h : Ac T t x l u m = .val p v m1) : m1 = m /\ ∀ m', Ac T t x l u m' = .val p v m' := by
  unfold Ac at h ⊢
  (repeat' split at h) <;> first | (cases h; done) | (simp only [R.val.injEq] at h; obtain ⟨rfl, rfl, rfl⟩ := h; refine ⟨rfl, fun m' => ?_⟩; simp_all)
theorem aho {op : UnOp} {x v : AV} {m m1 : Mem} {p : Prop} (h : vun op x m = .val p v m1) : m1 = m /\ ∀ m', vun op x m' = .val p v m' := by
  unfold vun at h ⊢
  split at h <;> first | (cases h; done) | (simp only [R.val.injEq] at h; obtain ⟨rfl, rfl, rfl⟩ := h; exact ⟨rfl, fun m' => rfl⟩)
theorem Yz {T : Tab} {t : TypeId} {x y v : AV} {m m1 : Mem} {p : Prop} (h : mP T t x y m = .val p v m1) : m1 = m /\ ∀ m', mP T t x y m' = .val p v m' := by
  unfold mP at h ⊢
  (repeat' split at h) <;> first | (cases h; done) | (simp only [R.val.injEq] at h; obtain ⟨rfl, rfl, rfl⟩ := h; refine ⟨rfl, fun m' => ?_⟩; simp_all)
theorem aex {T : Tab} {t : TypeId} {x v : AV} {m m1 : Mem} {p : Prop} (h : Tv T t x m = .val p v m1) : m1 = m /\ ∀ m', Tv T t x m' = .val p v m' := by
  unfold Tv at h ⊢
  (repeat' split at h) <;> first | (cases h; done) | (simp only [R.val.injEq] at h; obtain ⟨rfl, rfl, rfl⟩ := h; refine ⟨rfl, fun m' => ?_⟩; simp_all)
theorem Xt {s : Nat} {m m' : Mem} {x : AV} (h : KT x.slb = true) : acC s m x = acC s m' x := by
  cases x <;> first | rfl | skip
  unfold AV.slb at h
  cases h
theorem aey {T : Tab} {o : Oper} {st : VS} {slot : Nat} {p : Prop} {v : AV} {m1 : Mem} (h : gZ T o st slot = .val p v m1) :
    ∃ e : Eff, Eff.Of (dw T o st slot) e /\ m1 = e.run st.mem /\ ∀ m', gu (dw T o st slot) st.mem m' -> gZ T o { st with mem := m' } slot = .val p v (e.run m') := by
  by_cases hb : dw T o st slot = .bar
  . rw [hb]
    exact ⟨.bar m1, trivial, rfl, fun m' e => by cases e; exact h⟩
  obtain ⟨dst, op, type, pos, after, guard⟩ := o
  cases op
  case load t a =>
    simp only [gZ, vop, dw, jB] at h hb ⊢
    cases ht : T.ty t with
    | none => rw [ht] at h; cases h
    | some ti =>
      cases ha : st.eval a with
      | ptr q b i j =>
        cases q
        rotate_left
        . simp only [ht, ha] at h ⊢
          unfold xX at h
          simp only at h
          cases hg : aS .gone st.mem b with
          | gone => rw [hg] at h; cases h
          | one o ty cells => rw [hg] at h; cases h
          | many o ty n cols =>
            rw [hg] at h
            simp only at h
            split at h
            . rename_i v' hr
              simp only [R.val.injEq] at h
              obtain ⟨rfl, rfl, rfl⟩ := h
              refine ⟨.id, trivial, rfl, fun m' hs => ?_⟩
              simp only [gu] at hs
              unfold xX
              simp only
              rw [<- hs, hg]
              simp only [hr]
              rfl
            . cases h
        simp only [ht, ha] at h ⊢
        rw [Xr] at h
        refine ⟨.id, trivial, ?_, fun m' hs => ?_⟩
        . split at h
          . simp only [R.val.injEq] at h; exact h.2.2.symm
          . cases h
        . simp only [gu] at hs
          rw [Xr, <- hs _ ti.size (ahn _)]
          split at h
          . rename_i p' v' hl
            simp only [R.val.injEq] at h
            obtain ⟨rfl, rfl, rfl⟩ := h
            rfl
          . cases h
      | rp cells j =>
        simp only [ht, ha, xX] at h ⊢
        refine ⟨.id, trivial, ?_, fun m' _ => ?_⟩
        . split at h
          . simp only [R.val.injEq] at h; exact h.2.2.symm
          . cases h
        . split at h
          . rename_i v' hl
            simp only [R.val.injEq] at h
            obtain ⟨rfl, rfl, rfl⟩ := h
            rfl
          . cases h
      | _ => simp [ht, ha, xX] at h
  case store t a x =>
    simp only [gZ, vop, dw, jB] at h hb ⊢
    cases ht : T.ty t with
    | none => rw [ht] at h; cases h
    | some ti =>
      cases ha : st.eval a with
      | ptr q b i j =>
        cases q
        rotate_left
        . simp only [ht, ha] at h ⊢
          obtain ⟨ab, h1, h2⟩ := U9 h
          exact ⟨.setB b ab, rfl, h1, fun m' hs => h2 m' hs⟩
        simp only [ht, ha] at h ⊢
        obtain ⟨vs, h0, h1, h2, h3⟩ := Og (m' := []) h
        refine ⟨.store b i j vs, ⟨rfl, rfl, rfl, h1.symm⟩, h2, fun m' hs => ?_⟩
        simp only [gu] at hs
        obtain ⟨vs', h0', h1', h2', h3'⟩ := Og (m' := m') h
        rw [h0] at h0'
        cases h0'
        exact h3' hs
      | _ => simp [ht, ha, qI] at h
  case alloc e =>
    simp only [gZ, vop, dw] at h hb ⊢
    split at h
    . simp only [R.val.injEq] at h
      obtain ⟨rfl, rfl, rfl⟩ := h
      exact ⟨.alloc slot _, rfl, rfl, fun m' _ => rfl⟩
    . cases h
  case box e x =>
    simp only [gZ, vop, dw, jB] at h hb ⊢
    split at h
    . simp only [R.val.injEq] at h
      obtain ⟨rfl, rfl, rfl⟩ := h
      exact ⟨.alloc slot _, rfl, rfl, fun m' _ => rfl⟩
    . cases h
  case buildSlice t len ps =>
    cases hl0 : Nat.beq len 0
    . simp only [gZ, vop, dw, BR, hl0, cond_false] at h hb ⊢
      (repeat' split at h) <;> first
        | (cases h; done)
        | (exfalso; simp at *; done)
        | (simp only [R.val.injEq] at h
           obtain ⟨rfl, rfl, rfl⟩ := h
           exact ⟨.id, trivial, rfl, fun m' _ => by simp_all [Eff.run]⟩)
    . simp only [gZ, vop, dw, BR, hl0, cond_true] at h hb ⊢
      (repeat' split at h) <;> first
        | (cases h; done)
        | (exfalso; simp at *; done)
        | (simp only [R.val.injEq] at h
           obtain ⟨rfl, rfl, rfl⟩ := h
           exact ⟨.alloc slot _, rfl, rfl, fun m' _ => by simp_all [Eff.run]⟩)
  case slice t x lo hi mx =>
    cases mx with
    | some _ => cases (show R.no = R.val p v m1 from h)
    | none =>
      have hl : ∀ (lo : Option Operand) (m' : Mem), lo.map ({ st with mem := m' } : VS).eval = lo.map st.eval := fun lo m' => by cases lo <;> simp [jB]
      simp only [gZ, vop, dw, jB, hl] at h hb ⊢
      obtain ⟨h1, h2⟩ := Yy h
      exact ⟨.id, trivial, h1, fun m' _ => h2 m'⟩
  case makeSlice t l c =>
    simp only [gZ, vop, dw, jB] at h hb ⊢
    (repeat' split at h) <;> first
      | (cases h; done)
      | (simp only [R.val.injEq] at h
         obtain ⟨rfl, rfl, rfl⟩ := h
         exact ⟨.alloc slot _, rfl, rfl, fun m' _ => by simp_all [Eff.run]⟩)
  case binOp op t x y yt =>
    simp only [gZ, vop, dw, jB] at h hb ⊢
    obtain ⟨h1, h2⟩ := aew h
    exact ⟨.id, trivial, h1, fun m' _ => h2 m'⟩
  case unOp op t x =>
    simp only [gZ, vop, dw, jB] at h hb ⊢
    obtain ⟨h1, h2⟩ := aho h
    exact ⟨.id, trivial, h1, fun m' _ => h2 m'⟩
  case indexAddr t x y =>
    simp only [gZ, vop, dw, jB] at h hb ⊢
    obtain ⟨h1, h2⟩ := Yz h
    exact ⟨.id, trivial, h1, fun m' _ => h2 m'⟩
  case call c =>
    obtain ⟨callee, args, argTypes⟩ := c
    cases callee with
    | value f =>
      simp only [gZ, vop] at h
      split at h <;> cases h
    | invoke r name =>
      simp only [gZ, vop] at h
      split at h
      . split at h <;> cases h
      . cases h
    | builtin b =>
      cases b
      case append =>
        simp only [gZ, vop, dw, lZ] at h hb ⊢
        split at h
        rotate_left
        . cases h
        rename_i e sz by' zv s x ht hg
        rw [hg] at hb ⊢
        split at h
        rotate_left
        . cases h
        rename_i te t1 t2 hte hat
        split at h
        rotate_left
        . cases h
        rename_i hcc
        have hx : KT x.slb = true := by
          cases hx : KT x.slb with
          | true => rfl
          | false => exfalso; apply hb; cases s <;> simp [vF, hx]
        cases s with
        | nils =>
          simp only [vF, hx, cond_true] at hb ⊢
          unfold jM at h
          split at h
          . cases h
          . rename_i nx gx hs
            simp only at h
            split at h
            . cases h
            . rename_i c cs
              simp only [R.val.injEq] at h
              obtain ⟨rfl, rfl, rfl⟩ := h
              refine ⟨.alloc slot _, rfl, rfl, fun m' _ => ?_⟩
              simp only [hte, hat, hcc, if_true]
              unfold jM
              rw [Xt hx (m' := st.mem), hs]
              rfl
        | sl q b n sz =>
          exfalso
          unfold jM at h
          (repeat' split at h) <;> first | (cases h; done) | contradiction
        | _ => exact absurd rfl hb
      case len =>
        simp only [gZ, vop, dw, lZ] at h hb ⊢
        split at h
        . obtain ⟨h1, h2⟩ := aex h
          exact ⟨.id, trivial, h1, fun m' _ => h2 m'⟩
        . cases h
      case max =>
        simp only [gZ, vop, dw, lZ] at h hb ⊢
        (repeat' split at h) <;> first
          | (cases h; done)
          | (simp only [R.val.injEq] at h
             obtain ⟨rfl, rfl, rfl⟩ := h
             exact ⟨.id, trivial, rfl, fun m' _ => rfl⟩)
      case min =>
        simp only [gZ, vop, dw, lZ] at h hb ⊢
        (repeat' split at h) <;> first
          | (cases h; done)
          | (simp only [R.val.injEq] at h
             obtain ⟨rfl, rfl, rfl⟩ := h
             exact ⟨.id, trivial, rfl, fun m' _ => rfl⟩)
      all_goals (simp only [gZ, vop] at h; cases h)
  case makeFunc fn first cap =>
    cases fn
    case func f =>
      simp only [gZ, vop, dw, lZ] at h hb ⊢
      split at h
      . rename_i hc
        simp only [R.val.injEq] at h
        obtain ⟨rfl, rfl, rfl⟩ := h
        exact ⟨.id, trivial, rfl, fun m' _ => by rw [if_pos hc]; rfl⟩
      . cases h
    all_goals (cases (show R.no = R.val p v m1 from h))
  all_goals first
    | (cases (show R.no = R.val p v m1 from h); done)
    | skip
  all_goals
    simp only [gZ, vop, dw, jB, lZ, BR] at h hb ⊢
    (repeat' split at h) <;> first
      | (cases h; done)
      | (simp only [R.val.injEq] at h
         obtain ⟨rfl, rfl, rfl⟩ := h
         exact ⟨.id, trivial, rfl, fun m' _ => rfl⟩)
      | (simp only [R.val.injEq] at h
         obtain ⟨rfl, rfl, rfl⟩ := h
         exact ⟨.id, trivial, rfl, fun m' _ => by simp_all [Eff.run]⟩)
theorem aez {T : Tab} {o : Oper} {st : VS} {slot : Nat} {p : Prop} {v : AV} {m1 : Mem} (h : JQ T o st slot = .val p v m1) :
    ∃ e : Eff, Eff.Of (dw T o st slot) e /\ m1 = e.run st.mem /\ ∀ m', gu (dw T o st slot) st.mem m' -> JQ T o { st with mem := m' } slot = .val p v (e.run m') := by
  by_cases hb : dw T o st slot = .bar
  . rw [hb]
    exact ⟨.bar m1, trivial, rfl, fun m' e => by cases e; exact h⟩
  unfold JQ at h
  split at h
  . rename_i p0 v0 m0 b0 hv
    split at h
    . rename_i q b1 n sz
      simp only [R.val.injEq] at h
      obtain ⟨rfl, rfl, rfl⟩ := h
      obtain ⟨c, hc1, hc2, e, te, t1, x1, x2, ⟨d, ht, hd⟩, hg, hte, hat, hpos, hpin, hv'⟩ := P7 hv
      have hm : dw T o st slot = vF slot [x1, x2] := by simp only [dw, hc1, hc2, hg]
      rw [hm] at hb ⊢
      have hx : KT x2.slb = true := by
        cases hx : KT x2.slb with
        | true => rfl
        | false => exfalso; apply hb; cases x1 <;> simp [vF, hx]
      unfold jM at hv'
      split at hv'
      . cases hv'
      rename_i nx gx hs
      split at hv'
      . split at hv' <;> cases hv'
      . rename_i q1 b2 n2 s2
        split at hv'
        rotate_left
        . cases hv'
        rename_i ty n3 cols hgm
        split at hv'
        rotate_left
        . cases hv'
        rename_i hcc
        split at hv'
        rotate_left
        . cases hv'
        rename_i cols' hcols
        simp only [R.app.injEq, AV.sl.injEq] at hv'
        obtain ⟨rfl, ⟨rfl, rfl, rfl, rfl⟩, rfl, rfl⟩ := hv'
        have hlt : ∀ m' : Mem, aS .gone m' b2 = .many true ty n3 cols -> b2 < m'.length := fun m' hg => by
          rcases Nat.lt_or_ge b2 m'.length with h | h
          . exact h
          . rw [kZ _ h] at hg; cases hg
        simp only [vF, hx, cond_true] at hb ⊢
        refine ⟨.app b2 slot (.many true e (n2 + nx) cols'), ⟨rfl, rfl⟩, ?_, fun m' hs' => ?_⟩
        . simp only [Eff.run]
          rw [bV _ _ (hlt _ hgm), zn]
        . simp only [gu] at hs'
          have hgm' := hgm
          rw [hs'] at hgm'
          have hvA : gZ T o { st with mem := m' } slot = .app ((n2 + nx) * te.bytes <= 1000000000000 /\ n2 + nx <= 1000000000000) (.sl (Tz q1 nx) b2 (n2 + nx) te.size) (setAt m' b2 (.many true e (n2 + nx) cols')) b2 := by
            obtain ⟨_, _, _, _⟩ := d
            simp only at hd
            subst hd
            have e1 : c.argTypes.getD 0 0 = t1 := by rw [hat]; rfl
            unfold gZ
            simp only [hc1, hc2, lZ, hg, e1, ht, hte]
            rw [hat]
            have hbl : Nat.blt 0 te.size = true := by rw [Nat.blt_eq]; exact hpos
            simp only [Nat.beq_refl, Bool.true_and, hbl, hpin, if_true]
            unfold jM
            rw [Xt hx (m' := st.mem), hs]
            simp only [hgm', hcc, if_true, hcols]
          unfold JQ
          rw [hvA]
          simp only [Eff.run]
          rw [bV _ _ (hlt _ hgm'), zn]
      . cases hv'
    . cases h
  . obtain ⟨e, h1, h2, h3⟩ := aey h
    refine ⟨e, h1, h2, fun m' hs => ?_⟩
    unfold JQ
    rw [h3 m' hs]
theorem Oh {T : Tab} {o : Oper} {st : VS} {slot : Nat} (m : Mem) : dw T o { st with mem := m } slot = dw T o st slot := by
  unfold dw
  simp only [jB, lZ]
theorem TA {T : Tab} {o : Oper} {st : VS} {slot : Nat} {f : FuncId} {args : List AV} (h : gZ T o st slot = .call f args) :
    dw T o st slot = .quiet /\ ∀ m', gZ T o { st with mem := m' } slot = .call f args := by
  obtain ⟨c, ho, hc⟩ := Ui (T := T) (st := st) (o := o) (slot := slot) f args h
  rcases hc with ⟨g, cap, hc, hg, rfl⟩ | ⟨r, name, t, v, hc, hg, hm, rfl⟩
  . refine ⟨by simp only [dw, ho, hc, hg], fun m' => ?_⟩
    simp only [gZ, vop, ho, hc, jB, lZ, hg]
  . refine ⟨by simp only [dw, ho, hc, hg], fun m' => ?_⟩
    simp only [gZ, vop, ho, hc, jB, lZ, hg, hm]
theorem FI {st st' : VS} : ∀ (xs : List Operand), (∀ x ∈ xs, st.eval x = st'.eval x) -> nT st xs = nT st' xs
  | [], _ => rfl
  | x :: xs, h => by simp only [nT]; rw [h x (by simp), FI xs (fun y hy => h y (by simp [hy]))]
theorem BU {st st' : VS} : ∀ (xs : List (Nat × Operand)), (∀ x ∈ xs, st.eval x.2 = st'.eval x.2) -> mQ st xs = mQ st' xs
  | [], _ => rfl
  | (i, x) :: xs, h => by simp only [mQ]; rw [h (i, x) (by simp), BU xs (fun y hy => h y (by simp [hy]))]
theorem Ic {T : Tab} {o : Oper} {st st' : VS} {slot : Nat} (h : ∀ x ∈ o.op.operands.toList, st.eval x = st'.eval x) (hm : st.mem = st'.mem) (hpn : st.pin = st'.pin) :
    gZ T o st slot = gZ T o st' slot /\ dw T o st slot = dw T o st' slot := by
  obtain ⟨dst, op, type, pos, after, guard⟩ := o
  cases op
  case call c =>
    obtain ⟨callee, args, argTypes⟩ := c
    have hargs : nT st args.toList = nT st' args.toList := FI _ (fun x hx => h x (by
      simp only [Op.operands, Call.operands, Array.toList_append, List.mem_append]; exact .inr hx))
    cases callee with
    | value f =>
      have hf : st.eval f = st'.eval f := h f (by simp [Op.operands, Call.operands])
      constructor <;> simp only [gZ, vop, dw, hargs, hf, hm]
    | invoke r name =>
      have hf : st.eval r = st'.eval r := h r (by simp [Op.operands, Call.operands])
      constructor <;> simp only [gZ, vop, dw, hargs, hf, hm]
    | builtin b =>
      cases b <;> constructor <;> first | rfl | simp only [gZ, vop, dw, hargs, hm, hpn]
  case build t ps =>
    have hps : mQ st ps.toList = mQ st' ps.toList := BU _ (fun x hx => h x.2 (by simp only [Op.operands, List.toList_toArray]; exact List.mem_map.2 ⟨x, hx, rfl⟩))
    constructor <;> simp only [gZ, vop, dw, hps, hm]
  case buildSlice t n ps =>
    have hps : mQ st ps.toList = mQ st' ps.toList := BU _ (fun x hx => h x.2 (by simp only [Op.operands, List.toList_toArray]; exact List.mem_map.2 ⟨x, hx, rfl⟩))
    constructor <;> simp only [gZ, vop, dw, hps, hm]
  case makeFunc fn first cap =>
    have hps : nT st cap.toList = nT st' cap.toList := FI _ (fun x hx => h x (by simp only [Op.operands, Array.toList_append, List.mem_append]; exact .inr hx))
    cases fn <;> constructor <;> first | rfl | simp only [gZ, vop, dw, hps, hm]
  case move x => have h1 := h x (by simp [Op.operands]); constructor <;> simp only [gZ, vop, dw, h1, hm]
  case assign x => have h1 := h x (by simp [Op.operands]); constructor <;> simp only [gZ, vop, dw, h1, hm]
  case pick c x y => have h1 := h c (by simp [Op.operands]); have h2 := h x (by simp [Op.operands]); have h3 := h y (by simp [Op.operands]); constructor <;> simp only [gZ, vop, dw, h1, h2, h3, hm]
  case box e x => have h1 := h x (by simp [Op.operands]); constructor <;> simp only [gZ, vop, dw, h1, hm]
  case load e x => have h1 := h x (by simp [Op.operands]); constructor <;> simp only [gZ, vop, dw, h1, hm]
  case store e x y => have h1 := h x (by simp [Op.operands]); have h2 := h y (by simp [Op.operands]); constructor <;> simp only [gZ, vop, dw, h1, h2, hm]
  case nilCheck x => have h1 := h x (by simp [Op.operands]); constructor <;> simp only [gZ, vop, dw, h1, hm]
  case binOp op t x y yt => have h1 := h x (by simp [Op.operands]); have h2 := h y (by simp [Op.operands]); constructor <;> simp only [gZ, vop, dw, h1, h2, hm]
  case unOp op t x => have h1 := h x (by simp [Op.operands]); constructor <;> simp only [gZ, vop, dw, h1, hm]
  case convert s d x => have h1 := h x (by simp [Op.operands]); constructor <;> simp only [gZ, vop, dw, h1, hm]
  case makeInterface t x => have h1 := h x (by simp [Op.operands]); constructor <;> simp only [gZ, vop, dw, h1, hm]
  case makeSlice t x y => have h1 := h x (by simp [Op.operands]); have h2 := h y (by simp [Op.operands]); constructor <;> simp only [gZ, vop, dw, h1, h2, hm]
  case fieldAddr t x f => have h1 := h x (by simp [Op.operands]); constructor <;> simp only [gZ, vop, dw, h1, hm]
  case field t x f => have h1 := h x (by simp [Op.operands]); constructor <;> simp only [gZ, vop, dw, h1, hm]
  case indexAddr t x y => have h1 := h x (by simp [Op.operands]); have h2 := h y (by simp [Op.operands]); constructor <;> simp only [gZ, vop, dw, h1, h2, hm]
  case index t x y => have h1 := h x (by simp [Op.operands]); have h2 := h y (by simp [Op.operands]); constructor <;> simp only [gZ, vop, dw, h1, h2, hm]
  case extract x i => have h1 := h x (by simp [Op.operands]); constructor <;> simp only [gZ, vop, dw, h1, hm]
  case typeAssert x t u ok => have h1 := h x (by simp [Op.operands]); constructor <;> simp only [gZ, vop, dw, h1, hm]
  case slice t x lo hi mx =>
    have h1 := h x (by simp [Op.operands])
    have h2 : lo.map st.eval = lo.map st'.eval := by
      cases lo with
      | none => rfl
      | some y => have := h y (by simp [Op.operands]); simp [this]
    have h3 : hi.map st.eval = hi.map st'.eval := by
      cases hi with
      | none => rfl
      | some y => have := h y (by simp [Op.operands]); simp [this]
    cases mx with
    | some _ => exact ⟨rfl, rfl⟩
    | none => constructor <;> simp only [gZ, vop, dw, h1, h2, h3, hm]
  case alloc e => constructor <;> simp only [gZ, vop, dw, hm]
  all_goals exact ⟨rfl, rfl⟩
end Go.Ag
