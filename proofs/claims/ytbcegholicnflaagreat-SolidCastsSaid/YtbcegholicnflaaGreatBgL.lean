import Derived.Test.YtbcegholicnflaaGreatBgK
set_option linter.unusedVariables false
set_option linter.unusedSimpArgs false
namespace Go.Ag
open Go.RowKit
inductive Eff where
  | id
  | alloc (s : Nat) (ab : AB)
  | store (b i j : Nat) (vs : List AV)
  | setB (b : Nat) (ab : AB)
  | app (b s : Nat) (ab : AB)
  | bar (m : Mem)
def updB (i j : Nat) (vs : List AV) : AB -> AB
  | .one o ty cells => .one o ty (setCells cells j vs)
  | ab => ab
def Eff.run : Eff -> Mem -> Mem
  | .id, m => m
  | .alloc s ab, m => setAt m s ab
  | .store b i j vs, m => setAt m b (updB i j vs (getAt .gone m b))
  | .setB b ab, m => setAt m b ab
  | .app b s ab, m => setAt (setAt m b .gone) s ab
  | .bar m1, _ => m1
def Eff.Of : Micro -> Eff -> Prop
  | .quiet, .id => True
  | .load .., .id => True
  | .loadM _, .id => True
  | .alloc s, .alloc s' _ => s = s'
  | .store b i j n, .store b' i' j' vs => b = b' /\ i = i' /\ j = j' /\ n = lenN vs
  | .storeM b, .setB b' _ => b = b'
  | .app b s, .app b' s' _ => b = b' /\ s = s'
  | .bar, .bar _ => True
  | _, _ => False
def loadB (agg : Bool) (size i j : Nat) : AB -> Option (Prop × AV)
  | .one _ _ cells => if Nat.beq i 0 then (readAt agg size j cells).map fun v => (True, v) else none
  | _ => none
def kindB : AB -> Nat × Bool × Nat × Nat
  | .gone => (0, false, 0, 0)
  | .one o ty cells => (1, o, ty, lenN cells)
  | .many o ty n _ => (2, o, ty, n)
def SameFor : Micro -> Mem -> Mem -> Prop
  | .quiet, _, _ => True
  | .alloc _, _, _ => True
  | .load b i j n, m, m' => ∀ agg n', n' <= n -> loadB agg n' i j (getAt .gone m b) = loadB agg n' i j (getAt .gone m' b)
  | .store b _ _ _, m, m' => kindB (getAt .gone m b) = kindB (getAt .gone m' b)
  | .loadM b, m, m' => getAt .gone m b = getAt .gone m' b
  | .storeM b, m, m' => getAt .gone m b = getAt .gone m' b
  | .app b _, m, m' => getAt .gone m b = getAt .gone m' b
  | .bar, m, m' => m = m'
theorem setAt_setAt {α : Type} (l : List α) (i : Nat) (x y : α) : setAt (setAt l i x) i y = setAt l i y := by simp [setAt_eq]
theorem le_pos1 (n : Nat) : n <= (if Nat.beq n 0 then 1 else n) := by
  split
  · rename_i hz
    rw [Nat.eq_of_beq_eq_true hz]
    exact Nat.zero_le _
  · exact Nat.le_refl _
theorem vload_eq (ti : TI) (b i j : Nat) (m : Mem) : vload ti (.ptr false b i j) m = match loadB (isAggD ti.desc) ti.size i j (getAt .gone m b) with
    | some (p, v) => .val p v m
    | none => .no := by
  unfold vload loadB
  simp only
  cases getAt .gone m b with
  | gone => rfl
  | one o ty cells =>
    simp only
    split
    · cases readAt (isAggD ti.desc) ti.size j cells <;> rfl
    · rfl
  | many o ty n cols => rfl
theorem vstore_same {ti : TI} {b i j : Nat} {x v : AV} {m m' m1 : Mem} {p : Prop} (h : vstore ti (.ptr false b i j) x m = .val p v m1) :
    ∃ vs, x.cellsOf = some vs /\ lenN vs = ti.size /\ m1 = (Eff.store b i j vs).run m /\ (kindB (getAt .gone m b) = kindB (getAt .gone m' b) -> vstore ti (.ptr false b i j) x m' = .val p v ((Eff.store b i j vs).run m')) := by
  unfold vstore at h
  cases hx : x.cellsOf with
  | none => rw [hx] at h; cases h
  | some vs =>
    rw [hx] at h
    simp only at h
    refine ⟨vs, rfl, ?_⟩
    split at h
    · rename_i hl
      refine ⟨Nat.eq_of_beq_eq_true hl, ?_⟩
      unfold Eff.run updB vstore
      rw [hx]
      simp only [hl, if_true]
      cases hg : getAt .gone m b with
      | gone => rw [hg] at h; cases h
      | one o ty cells =>
        rw [hg] at h
        cases o with
        | false => simp at h
        | true =>
          simp only at h
          split at h
          · rename_i hc
            cases h
            refine ⟨rfl, fun hk => ?_⟩
            cases hg' : getAt .gone m' b with
            | gone => rw [hg'] at hk; simp [kindB] at hk
            | one o' ty' cells' =>
              rw [hg'] at hk
              simp only [kindB, Prod.mk.injEq, true_and] at hk
              obtain ⟨rfl, rfl, hlen⟩ := hk
              simp only [← hlen, hc, if_true]
            | many => rw [hg'] at hk; simp [kindB] at hk
          · cases h
      | many o ty n cols => rw [hg] at h; cases o <;> simp at h
    · cases h
theorem vstoreM_same {ti : TI} {b i j : Nat} {x v : AV} {m m1 : Mem} {p : Prop} (h : vstore ti (.ptr true b i j) x m = .val p v m1) :
    ∃ ab, m1 = setAt m b ab /\ ∀ m', getAt .gone m b = getAt .gone m' b -> vstore ti (.ptr true b i j) x m' = .val p v (setAt m' b ab) := by
  unfold vstore at h ⊢
  cases hx : x.cellsOf with
  | none => rw [hx] at h; cases h
  | some vs =>
    rw [hx] at h
    simp only at h ⊢
    split at h
    · rename_i hl
      simp only [hl, if_true]
      cases hg : getAt .gone m b with
      | gone => rw [hg] at h; cases h
      | one o ty cells => rw [hg] at h; cases o <;> simp at h
      | many o ty n cols =>
        rw [hg] at h
        cases o with
        | false => simp at h
        | true =>
          simp only at h
          split at h
          · rename_i hc
            split at h
            · rename_i cols' hu
              cases h
              exact ⟨_, rfl, fun m' hm' => by rw [← hm']; simp [hc, hu]⟩
            · cases h
          · cases h
    · cases h
theorem eval_mem (st : VS) (m : Mem) (x : Operand) : ({ st with mem := m } : VS).eval x = st.eval x := by cases x <;> rfl
theorem evals_mem (st : VS) (m : Mem) : ∀ xs, evals { st with mem := m } xs = evals st xs
  | [] => rfl
  | x :: xs => by simp only [evals, eval_mem, evals_mem st m xs]
theorem evalps_mem (st : VS) (m : Mem) : ∀ xs, evalps { st with mem := m } xs = evalps st xs
  | [] => rfl
  | (i, x) :: xs => by simp only [evalps, eval_mem, evalps_mem st m xs]
theorem vbin_mem {T : Tab} {op : BinOp} {t : TypeId} {c : Bool} {x y v : AV} {m m1 : Mem} {p : Prop} (h : vbin T op t c x y m = .val p v m1) : m1 = m /\ ∀ m', vbin T op t c x y m' = .val p v m' := by
  cases c <;> unfold vbin at h ⊢ <;> (try simp only [cond_true, cond_false] at h ⊢) <;>
  (repeat' split at h) <;> first | (cases h; done) | (simp only [R.val.injEq] at h; obtain ⟨rfl, rfl, rfl⟩ := h; exact ⟨rfl, fun m' => rfl⟩) | (simp only [R.val.injEq] at h; obtain ⟨rfl, rfl, rfl⟩ := h; refine ⟨rfl, fun m' => ?_⟩; simp_all)
theorem vslice_mem {T : Tab} {t : TypeId} {x v : AV} {l u : Option AV} {m m1 : Mem} {p : Prop} (h : vslice T t x l u m = .val p v m1) : m1 = m /\ ∀ m', vslice T t x l u m' = .val p v m' := by
  unfold vslice at h ⊢
  (repeat' split at h) <;> first | (cases h; done) | (simp only [R.val.injEq] at h; obtain ⟨rfl, rfl, rfl⟩ := h; refine ⟨rfl, fun m' => ?_⟩; simp_all)
theorem vun_mem {op : UnOp} {x v : AV} {m m1 : Mem} {p : Prop} (h : vun op x m = .val p v m1) : m1 = m /\ ∀ m', vun op x m' = .val p v m' := by
  unfold vun at h ⊢
  split at h <;> first | (cases h; done) | (simp only [R.val.injEq] at h; obtain ⟨rfl, rfl, rfl⟩ := h; exact ⟨rfl, fun m' => rfl⟩)
theorem vindex_mem {T : Tab} {t : TypeId} {x y v : AV} {m m1 : Mem} {p : Prop} (h : vindexAddr T t x y m = .val p v m1) : m1 = m /\ ∀ m', vindexAddr T t x y m' = .val p v m' := by
  unfold vindexAddr at h ⊢
  (repeat' split at h) <;> first | (cases h; done) | (simp only [R.val.injEq] at h; obtain ⟨rfl, rfl, rfl⟩ := h; refine ⟨rfl, fun m' => ?_⟩; simp_all)
theorem vlen_mem {T : Tab} {t : TypeId} {x v : AV} {m m1 : Mem} {p : Prop} (h : vlen T t x m = .val p v m1) : m1 = m /\ ∀ m', vlen T t x m' = .val p v m' := by
  unfold vlen at h ⊢
  (repeat' split at h) <;> first | (cases h; done) | (simp only [R.val.injEq] at h; obtain ⟨rfl, rfl, rfl⟩ := h; refine ⟨rfl, fun m' => ?_⟩; simp_all)
theorem slOf_mem {s : Nat} {m m' : Mem} {x : AV} (h : nilN x.slb = true) : slOf s m x = slOf s m' x := by
  cases x <;> first | rfl | skip
  unfold AV.slb at h
  cases h
theorem vopA_mem {T : Tab} {o : Oper} {st : VS} {slot : Nat} {p : Prop} {v : AV} {m1 : Mem} (h : vopA T o st slot = .val p v m1) :
    ∃ e : Eff, Eff.Of (microOf T o st slot) e /\ m1 = e.run st.mem /\ ∀ m', SameFor (microOf T o st slot) st.mem m' -> vopA T o { st with mem := m' } slot = .val p v (e.run m') := by
  by_cases hb : microOf T o st slot = .bar
  · rw [hb]
    exact ⟨.bar m1, trivial, rfl, fun m' e => by cases e; exact h⟩
  obtain ⟨dst, op, type, pos, after, guard⟩ := o
  cases op
  case load t a =>
    simp only [vopA, vop, microOf, eval_mem] at h hb ⊢
    cases ht : T.ty t with
    | none => rw [ht] at h; cases h
    | some ti =>
      cases ha : st.eval a with
      | ptr q b i j =>
        cases q
        rotate_left
        · simp only [ht, ha] at h ⊢
          unfold vload at h
          simp only at h
          cases hg : getAt .gone st.mem b with
          | gone => rw [hg] at h; cases h
          | one o ty cells => rw [hg] at h; cases h
          | many o ty n cols =>
            rw [hg] at h
            simp only at h
            split at h
            · rename_i v' hr
              simp only [R.val.injEq] at h
              obtain ⟨rfl, rfl, rfl⟩ := h
              refine ⟨.id, trivial, rfl, fun m' hs => ?_⟩
              simp only [SameFor] at hs
              unfold vload
              simp only
              rw [← hs, hg]
              simp only [hr]
              rfl
            · cases h
        simp only [ht, ha] at h ⊢
        rw [vload_eq] at h
        refine ⟨.id, trivial, ?_, fun m' hs => ?_⟩
        · split at h
          · simp only [R.val.injEq] at h; exact h.2.2.symm
          · cases h
        · simp only [SameFor] at hs
          rw [vload_eq, ← hs _ ti.size (le_pos1 _)]
          split at h
          · rename_i p' v' hl
            simp only [R.val.injEq] at h
            obtain ⟨rfl, rfl, rfl⟩ := h
            rfl
          · cases h
      | rp cells j =>
        simp only [ht, ha, vload] at h ⊢
        refine ⟨.id, trivial, ?_, fun m' _ => ?_⟩
        · split at h
          · simp only [R.val.injEq] at h; exact h.2.2.symm
          · cases h
        · split at h
          · rename_i v' hl
            simp only [R.val.injEq] at h
            obtain ⟨rfl, rfl, rfl⟩ := h
            rfl
          · cases h
      | _ => simp [ht, ha, vload] at h
  case store t a x =>
    simp only [vopA, vop, microOf, eval_mem] at h hb ⊢
    cases ht : T.ty t with
    | none => rw [ht] at h; cases h
    | some ti =>
      cases ha : st.eval a with
      | ptr q b i j =>
        cases q
        rotate_left
        · simp only [ht, ha] at h ⊢
          obtain ⟨ab, h1, h2⟩ := vstoreM_same h
          exact ⟨.setB b ab, rfl, h1, fun m' hs => h2 m' hs⟩
        simp only [ht, ha] at h ⊢
        obtain ⟨vs, h0, h1, h2, h3⟩ := vstore_same (m' := []) h
        refine ⟨.store b i j vs, ⟨rfl, rfl, rfl, h1.symm⟩, h2, fun m' hs => ?_⟩
        simp only [SameFor] at hs
        obtain ⟨vs', h0', h1', h2', h3'⟩ := vstore_same (m' := m') h
        rw [h0] at h0'
        cases h0'
        exact h3' hs
      | _ => simp [ht, ha, vstore] at h
  case alloc e =>
    simp only [vopA, vop, microOf] at h hb ⊢
    split at h
    · simp only [R.val.injEq] at h
      obtain ⟨rfl, rfl, rfl⟩ := h
      exact ⟨.alloc slot _, rfl, rfl, fun m' _ => rfl⟩
    · cases h
  case box e x =>
    simp only [vopA, vop, microOf, eval_mem] at h hb ⊢
    split at h
    · simp only [R.val.injEq] at h
      obtain ⟨rfl, rfl, rfl⟩ := h
      exact ⟨.alloc slot _, rfl, rfl, fun m' _ => rfl⟩
    · cases h
  case buildSlice t len ps =>
    cases hl0 : Nat.beq len 0
    · simp only [vopA, vop, microOf, evalps_mem, hl0, cond_false] at h hb ⊢
      (repeat' split at h) <;> first
        | (cases h; done)
        | (exfalso; simp at *; done)
        | (simp only [R.val.injEq] at h
           obtain ⟨rfl, rfl, rfl⟩ := h
           exact ⟨.id, trivial, rfl, fun m' _ => by simp_all [Eff.run]⟩)
    · simp only [vopA, vop, microOf, evalps_mem, hl0, cond_true] at h hb ⊢
      (repeat' split at h) <;> first
        | (cases h; done)
        | (exfalso; simp at *; done)
        | (simp only [R.val.injEq] at h
           obtain ⟨rfl, rfl, rfl⟩ := h
           exact ⟨.alloc slot _, rfl, rfl, fun m' _ => by simp_all [Eff.run]⟩)
  case slice t x lo hi mx =>
    cases mx with
    | some _ => cases (show R.no = R.val p v m1 from h)
    | none =>
      have hl : ∀ (lo : Option Operand) (m' : Mem), lo.map ({ st with mem := m' } : VS).eval = lo.map st.eval := fun lo m' => by cases lo <;> simp [eval_mem]
      simp only [vopA, vop, microOf, eval_mem, hl] at h hb ⊢
      obtain ⟨h1, h2⟩ := vslice_mem h
      exact ⟨.id, trivial, h1, fun m' _ => h2 m'⟩
  case makeSlice t l c =>
    simp only [vopA, vop, microOf, eval_mem] at h hb ⊢
    (repeat' split at h) <;> first
      | (cases h; done)
      | (simp only [R.val.injEq] at h
         obtain ⟨rfl, rfl, rfl⟩ := h
         exact ⟨.alloc slot _, rfl, rfl, fun m' _ => by simp_all [Eff.run]⟩)
  case binOp op t x y yt =>
    simp only [vopA, vop, microOf, eval_mem] at h hb ⊢
    obtain ⟨h1, h2⟩ := vbin_mem h
    exact ⟨.id, trivial, h1, fun m' _ => h2 m'⟩
  case unOp op t x =>
    simp only [vopA, vop, microOf, eval_mem] at h hb ⊢
    obtain ⟨h1, h2⟩ := vun_mem h
    exact ⟨.id, trivial, h1, fun m' _ => h2 m'⟩
  case indexAddr t x y =>
    simp only [vopA, vop, microOf, eval_mem] at h hb ⊢
    obtain ⟨h1, h2⟩ := vindex_mem h
    exact ⟨.id, trivial, h1, fun m' _ => h2 m'⟩
  case call c =>
    obtain ⟨callee, args, argTypes⟩ := c
    cases callee with
    | value f =>
      simp only [vopA, vop] at h
      split at h <;> cases h
    | invoke r name =>
      simp only [vopA, vop] at h
      split at h
      · split at h <;> cases h
      · cases h
    | builtin b =>
      cases b
      case append =>
        simp only [vopA, vop, microOf, evals_mem] at h hb ⊢
        split at h
        rotate_left
        · cases h
        rename_i e sz by' zv s x ht hg
        rw [hg] at hb ⊢
        split at h
        rotate_left
        · cases h
        rename_i te t1 t2 hte hat
        split at h
        rotate_left
        · cases h
        rename_i hcc
        have hx : nilN x.slb = true := by
          cases hx : nilN x.slb with
          | true => rfl
          | false => exfalso; apply hb; cases s <;> simp [microApp, hx]
        cases s with
        | nils =>
          simp only [microApp, hx, cond_true] at hb ⊢
          unfold vappend at h
          split at h
          · cases h
          · rename_i nx gx hs
            simp only at h
            split at h
            · cases h
            · rename_i c cs
              simp only [R.val.injEq] at h
              obtain ⟨rfl, rfl, rfl⟩ := h
              refine ⟨.alloc slot _, rfl, rfl, fun m' _ => ?_⟩
              simp only [hte, hat, hcc, if_true]
              unfold vappend
              rw [slOf_mem hx (m' := st.mem), hs]
              rfl
        | sl q b n sz =>
          exfalso
          unfold vappend at h
          (repeat' split at h) <;> first | (cases h; done) | contradiction
        | _ => exact absurd rfl hb
      case len =>
        simp only [vopA, vop, microOf, evals_mem] at h hb ⊢
        split at h
        · obtain ⟨h1, h2⟩ := vlen_mem h
          exact ⟨.id, trivial, h1, fun m' _ => h2 m'⟩
        · cases h
      case max =>
        simp only [vopA, vop, microOf, evals_mem] at h hb ⊢
        (repeat' split at h) <;> first
          | (cases h; done)
          | (simp only [R.val.injEq] at h
             obtain ⟨rfl, rfl, rfl⟩ := h
             exact ⟨.id, trivial, rfl, fun m' _ => rfl⟩)
      case min =>
        simp only [vopA, vop, microOf, evals_mem] at h hb ⊢
        (repeat' split at h) <;> first
          | (cases h; done)
          | (simp only [R.val.injEq] at h
             obtain ⟨rfl, rfl, rfl⟩ := h
             exact ⟨.id, trivial, rfl, fun m' _ => rfl⟩)
      all_goals (simp only [vopA, vop] at h; cases h)
  case makeFunc fn first cap =>
    cases fn
    case func f =>
      simp only [vopA, vop, microOf, evals_mem] at h hb ⊢
      split at h
      · rename_i hc
        simp only [R.val.injEq] at h
        obtain ⟨rfl, rfl, rfl⟩ := h
        exact ⟨.id, trivial, rfl, fun m' _ => by rw [if_pos hc]; rfl⟩
      · cases h
    all_goals (cases (show R.no = R.val p v m1 from h))
  all_goals first
    | (cases (show R.no = R.val p v m1 from h); done)
    | skip
  all_goals
    simp only [vopA, vop, microOf, eval_mem, evals_mem, evalps_mem] at h hb ⊢
    (repeat' split at h) <;> first
      | (cases h; done)
      | (simp only [R.val.injEq] at h
         obtain ⟨rfl, rfl, rfl⟩ := h
         exact ⟨.id, trivial, rfl, fun m' _ => rfl⟩)
      | (simp only [R.val.injEq] at h
         obtain ⟨rfl, rfl, rfl⟩ := h
         exact ⟨.id, trivial, rfl, fun m' _ => by simp_all [Eff.run]⟩)
theorem vopD_mem {T : Tab} {o : Oper} {st : VS} {slot : Nat} {p : Prop} {v : AV} {m1 : Mem} (h : vopD T o st slot = .val p v m1) :
    ∃ e : Eff, Eff.Of (microOf T o st slot) e /\ m1 = e.run st.mem /\ ∀ m', SameFor (microOf T o st slot) st.mem m' -> vopD T o { st with mem := m' } slot = .val p v (e.run m') := by
  by_cases hb : microOf T o st slot = .bar
  · rw [hb]
    exact ⟨.bar m1, trivial, rfl, fun m' e => by cases e; exact h⟩
  unfold vopD at h
  split at h
  · rename_i p0 v0 m0 b0 hv
    split at h
    · rename_i q b1 n sz
      simp only [R.val.injEq] at h
      obtain ⟨rfl, rfl, rfl⟩ := h
      obtain ⟨c, hc1, hc2, e, te, t1, x1, x2, ⟨d, ht, hd⟩, hg, hte, hat, hpos, hpin, hv'⟩ := vopA_app hv
      have hm : microOf T o st slot = microApp slot [x1, x2] := by simp only [microOf, hc1, hc2, hg]
      rw [hm] at hb ⊢
      have hx : nilN x2.slb = true := by
        cases hx : nilN x2.slb with
        | true => rfl
        | false => exfalso; apply hb; cases x1 <;> simp [microApp, hx]
      unfold vappend at hv'
      split at hv'
      · cases hv'
      rename_i nx gx hs
      split at hv'
      · split at hv' <;> cases hv'
      · rename_i q1 b2 n2 s2
        split at hv'
        rotate_left
        · cases hv'
        rename_i ty n3 cols hgm
        split at hv'
        rotate_left
        · cases hv'
        rename_i hcc
        split at hv'
        rotate_left
        · cases hv'
        rename_i cols' hcols
        simp only [R.app.injEq, AV.sl.injEq] at hv'
        obtain ⟨rfl, ⟨rfl, rfl, rfl, rfl⟩, rfl, rfl⟩ := hv'
        have hlt : ∀ m' : Mem, getAt .gone m' b2 = .many true ty n3 cols -> b2 < m'.length := fun m' hg => by
          rcases Nat.lt_or_ge b2 m'.length with h | h
          · exact h
          · rw [getAt_ge _ h] at hg; cases hg
        simp only [microApp, hx, cond_true] at hb ⊢
        refine ⟨.app b2 slot (.many true e (n2 + nx) cols'), ⟨rfl, rfl⟩, ?_, fun m' hs' => ?_⟩
        · simp only [Eff.run]
          rw [getAt_setAt_same _ _ (hlt _ hgm), setAt_setAt]
        · simp only [SameFor] at hs'
          have hgm' := hgm
          rw [hs'] at hgm'
          have hvA : vopA T o { st with mem := m' } slot = .app ((n2 + nx) * te.bytes <= 1000000000000 /\ n2 + nx <= 1000000000000) (.sl (qapp q1 nx) b2 (n2 + nx) te.size) (setAt m' b2 (.many true e (n2 + nx) cols')) b2 := by
            obtain ⟨_, _, _, _⟩ := d
            simp only at hd
            subst hd
            have e1 : c.argTypes.getD 0 0 = t1 := by rw [hat]; rfl
            unfold vopA
            simp only [hc1, hc2, evals_mem, hg, e1, ht, hte]
            rw [hat]
            have hbl : Nat.blt 0 te.size = true := by rw [Nat.blt_eq]; exact hpos
            simp only [Nat.beq_refl, Bool.true_and, hbl, hpin, if_true]
            unfold vappend
            rw [slOf_mem hx (m' := st.mem), hs]
            simp only [hgm', hcc, if_true, hcols]
          unfold vopD
          rw [hvA]
          simp only [Eff.run]
          rw [getAt_setAt_same _ _ (hlt _ hgm'), setAt_setAt]
      · cases hv'
    · cases h
  · obtain ⟨e, h1, h2, h3⟩ := vopA_mem h
    refine ⟨e, h1, h2, fun m' hs => ?_⟩
    unfold vopD
    rw [h3 m' hs]
theorem microOf_mem {T : Tab} {o : Oper} {st : VS} {slot : Nat} (m : Mem) : microOf T o { st with mem := m } slot = microOf T o st slot := by
  unfold microOf
  simp only [eval_mem, evals_mem]
theorem vopA_call_mem {T : Tab} {o : Oper} {st : VS} {slot : Nat} {f : FuncId} {args : List AV} (h : vopA T o st slot = .call f args) :
    microOf T o st slot = .quiet /\ ∀ m', vopA T o { st with mem := m' } slot = .call f args := by
  obtain ⟨c, ho, hc⟩ := vop_calls (T := T) (st := st) (o := o) (slot := slot) f args h
  rcases hc with ⟨g, cap, hc, hg, rfl⟩ | ⟨r, name, t, v, hc, hg, hm, rfl⟩
  · refine ⟨by simp only [microOf, ho, hc, hg], fun m' => ?_⟩
    simp only [vopA, vop, ho, hc, eval_mem, evals_mem, hg]
  · refine ⟨by simp only [microOf, ho, hc, hg], fun m' => ?_⟩
    simp only [vopA, vop, ho, hc, eval_mem, evals_mem, hg, hm]
theorem evals_congr {st st' : VS} : ∀ (xs : List Operand), (∀ x ∈ xs, st.eval x = st'.eval x) -> evals st xs = evals st' xs
  | [], _ => rfl
  | x :: xs, h => by simp only [evals]; rw [h x (by simp), evals_congr xs (fun y hy => h y (by simp [hy]))]
theorem evalps_congr {st st' : VS} : ∀ (xs : List (Nat × Operand)), (∀ x ∈ xs, st.eval x.2 = st'.eval x.2) -> evalps st xs = evalps st' xs
  | [], _ => rfl
  | (i, x) :: xs, h => by simp only [evalps]; rw [h (i, x) (by simp), evalps_congr xs (fun y hy => h y (by simp [hy]))]
theorem vopA_congr {T : Tab} {o : Oper} {st st' : VS} {slot : Nat} (h : ∀ x ∈ o.op.operands.toList, st.eval x = st'.eval x) (hm : st.mem = st'.mem) (hpn : st.pin = st'.pin) :
    vopA T o st slot = vopA T o st' slot /\ microOf T o st slot = microOf T o st' slot := by
  obtain ⟨dst, op, type, pos, after, guard⟩ := o
  cases op
  case call c =>
    obtain ⟨callee, args, argTypes⟩ := c
    have hargs : evals st args.toList = evals st' args.toList := evals_congr _ (fun x hx => h x (by
      simp only [Op.operands, Call.operands, Array.toList_append, List.mem_append]; exact .inr hx))
    cases callee with
    | value f =>
      have hf : st.eval f = st'.eval f := h f (by simp [Op.operands, Call.operands])
      constructor <;> simp only [vopA, vop, microOf, hargs, hf, hm]
    | invoke r name =>
      have hf : st.eval r = st'.eval r := h r (by simp [Op.operands, Call.operands])
      constructor <;> simp only [vopA, vop, microOf, hargs, hf, hm]
    | builtin b =>
      cases b <;> constructor <;> first | rfl | simp only [vopA, vop, microOf, hargs, hm, hpn]
  case build t ps =>
    have hps : evalps st ps.toList = evalps st' ps.toList := evalps_congr _ (fun x hx => h x.2 (by simp only [Op.operands, List.toList_toArray]; exact List.mem_map.2 ⟨x, hx, rfl⟩))
    constructor <;> simp only [vopA, vop, microOf, hps, hm]
  case buildSlice t n ps =>
    have hps : evalps st ps.toList = evalps st' ps.toList := evalps_congr _ (fun x hx => h x.2 (by simp only [Op.operands, List.toList_toArray]; exact List.mem_map.2 ⟨x, hx, rfl⟩))
    constructor <;> simp only [vopA, vop, microOf, hps, hm]
  case makeFunc fn first cap =>
    have hps : evals st cap.toList = evals st' cap.toList := evals_congr _ (fun x hx => h x (by simp only [Op.operands, Array.toList_append, List.mem_append]; exact .inr hx))
    cases fn <;> constructor <;> first | rfl | simp only [vopA, vop, microOf, hps, hm]
  case move x => have h1 := h x (by simp [Op.operands]); constructor <;> simp only [vopA, vop, microOf, h1, hm]
  case assign x => have h1 := h x (by simp [Op.operands]); constructor <;> simp only [vopA, vop, microOf, h1, hm]
  case pick c x y => have h1 := h c (by simp [Op.operands]); have h2 := h x (by simp [Op.operands]); have h3 := h y (by simp [Op.operands]); constructor <;> simp only [vopA, vop, microOf, h1, h2, h3, hm]
  case box e x => have h1 := h x (by simp [Op.operands]); constructor <;> simp only [vopA, vop, microOf, h1, hm]
  case load e x => have h1 := h x (by simp [Op.operands]); constructor <;> simp only [vopA, vop, microOf, h1, hm]
  case store e x y => have h1 := h x (by simp [Op.operands]); have h2 := h y (by simp [Op.operands]); constructor <;> simp only [vopA, vop, microOf, h1, h2, hm]
  case nilCheck x => have h1 := h x (by simp [Op.operands]); constructor <;> simp only [vopA, vop, microOf, h1, hm]
  case binOp op t x y yt => have h1 := h x (by simp [Op.operands]); have h2 := h y (by simp [Op.operands]); constructor <;> simp only [vopA, vop, microOf, h1, h2, hm]
  case unOp op t x => have h1 := h x (by simp [Op.operands]); constructor <;> simp only [vopA, vop, microOf, h1, hm]
  case convert s d x => have h1 := h x (by simp [Op.operands]); constructor <;> simp only [vopA, vop, microOf, h1, hm]
  case makeInterface t x => have h1 := h x (by simp [Op.operands]); constructor <;> simp only [vopA, vop, microOf, h1, hm]
  case makeSlice t x y => have h1 := h x (by simp [Op.operands]); have h2 := h y (by simp [Op.operands]); constructor <;> simp only [vopA, vop, microOf, h1, h2, hm]
  case fieldAddr t x f => have h1 := h x (by simp [Op.operands]); constructor <;> simp only [vopA, vop, microOf, h1, hm]
  case field t x f => have h1 := h x (by simp [Op.operands]); constructor <;> simp only [vopA, vop, microOf, h1, hm]
  case indexAddr t x y => have h1 := h x (by simp [Op.operands]); have h2 := h y (by simp [Op.operands]); constructor <;> simp only [vopA, vop, microOf, h1, h2, hm]
  case index t x y => have h1 := h x (by simp [Op.operands]); have h2 := h y (by simp [Op.operands]); constructor <;> simp only [vopA, vop, microOf, h1, h2, hm]
  case extract x i => have h1 := h x (by simp [Op.operands]); constructor <;> simp only [vopA, vop, microOf, h1, hm]
  case typeAssert x t u ok => have h1 := h x (by simp [Op.operands]); constructor <;> simp only [vopA, vop, microOf, h1, hm]
  case slice t x lo hi mx =>
    have h1 := h x (by simp [Op.operands])
    have h2 : lo.map st.eval = lo.map st'.eval := by
      cases lo with
      | none => rfl
      | some y => have := h y (by simp [Op.operands]); simp [this]
    have h3 : hi.map st.eval = hi.map st'.eval := by
      cases hi with
      | none => rfl
      | some y => have := h y (by simp [Op.operands]); simp [this]
    cases mx with
    | some _ => exact ⟨rfl, rfl⟩
    | none => constructor <;> simp only [vopA, vop, microOf, h1, h2, h3, hm]
  case alloc e => constructor <;> simp only [vopA, vop, microOf, hm]
  all_goals exact ⟨rfl, rfl⟩
end Go.Ag
