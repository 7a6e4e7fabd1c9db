import Derived.Test.YtbcegholicnflaaGreatBgE
set_option linter.unusedVariables false
set_option linter.unusedSimpArgs false
namespace Go.Ag
open Go.RowKit
section
variable {P : Program} {T : Tab} {E : Env} {W : Nat -> Prop} {m : Mem} {w : World}
def PVs (E : Env) : List (Nat × AV) -> List (Nat × Value) -> Prop
  | [], l => l = []
  | (i, a) :: as, l => ∃ v vs, l = (i, v) :: vs /\ VR E a v /\ PVs E as vs
theorem Xk (us : List Value) (off:Nat) (l : List Value) :
    us.toArray.zipIdx.foldl (fun cs (x : Value × Nat) => cs.setIfInBounds (off + x.2) x.1) l.toArray = (us.zipIdx.foldl (fun cs (x : Value × Nat) => cs.set (off + x.2) x.1) l).toArray := by
  rw [<- Array.foldl_toList]
  have : us.toArray.zipIdx.toList = us.zipIdx := by simp
  rw [this]
  generalize us.zipIdx = z
  induction z generalizing l with
  | nil => rfl
  | cons x z ih => simp only [List.foldl_cons]; rw [<- ih]; simp
theorem JY {place place' : Nat -> Option (Nat × Nat)} (hp : ∀ i x, place i = some x -> place' i = some x) : ∀ {ps : List (Nat × AV)} {us : List (Nat × Value)} {z cs : List AV} {l : List Value},
    JG place z ps = some cs -> PVs E ps us -> VRs E z l -> ∃ l', Instr.fill place' l.toArray us = some l'.toArray /\ VRs E cs l' /\ l'.length = l.length /\ ((∀ c ∈ l, c.oneCell' = true) -> ∀ c ∈ l', c.oneCell' = true)
  | [], us, z, cs, l, h, hu, hz => by
    unfold PVs at hu
    subst hu
    simp only [JG, Option.some.injEq] at h
    subst h
    exact ⟨l, rfl, hz, rfl, id⟩
  | (i, a) :: ps, us, z, cs, l, h, hu, hz => by
    unfold PVs at hu
    obtain ⟨v, us, rfl, hv, hus⟩ := hu
    unfold JG at h
    split at h
    . rename_i off size vs hpl hcs
      split at h
      . rename_i hc
        simp only [Bool.and_eq_true, Nat.ble_eq, jE] at hc
        obtain ⟨h1, h2⟩ := hc
        have h1 := Nat.eq_of_beq_eq_true h1
        obtain ⟨hvs, hvo⟩ := lC hcs hv
        have hlen := hvs.length
        have hzl := hz.length
        have hset := hz.setCells off hvs
        obtain ⟨l', f1, f2, f3, f4⟩ := JY hp h hus hset
        refine ⟨l', ?_, f2, ?_, fun hl => f4 (Ob _ _ _ hl hvo)⟩
        . unfold Instr.fill
          rw [hp i _ hpl]
          simp only
          have hsz : v.cells.size = size := by rw [<- Array.length_toList, hlen, h1]
          rw [if_neg (by simp only [hsz, List.size_toArray, ne_eq, not_true_eq_false, decide_false, Bool.false_or, decide_eq_true_eq]; omega)]
          rw [<- f1, <- Xk]
        . rw [f3]
          have := hset.length
          rw [this, gU, hzl]
      . cases h
    . cases h
theorem Uc (hT : kP P T) : ∀ {fs : List Field} {pl : List (Nat × Nat)}, places T fs = some pl -> fs.mapM (fun f => (P.info? f.type).map fun i => (f.offset, i.size)) = some pl
  | [], pl, h => by simp only [places, Option.some.injEq] at h; subst h; rfl
  | f :: fs, pl, h => by
    unfold places at h
    split at h
    . rename_i ti r ht hr
      simp only [Option.some.injEq] at h
      subst h
      obtain ⟨_, info, h2, h3, _⟩ := hT.ty _ _ ht
      simp [List.mapM_cons, h2, Uc hT hr, h3]
    . cases h
theorem KZ {st : VS} {a : Act} (h : ∀ x, VR E (st.eval x) (a.eval x)) : ∀ (ps : List (Nat × Operand)), PVs E (mQ st ps) (ps.map fun (i, x) => (i, a.eval x))
  | [] => by unfold mQ PVs; rfl
  | (i, x) :: ps => by unfold mQ PVs; exact ⟨_, _, rfl, h x, KZ h ps⟩
theorem vG {st : VS} {a : Act} (h : ∀ x, VR E (st.eval x) (a.eval x)) : ∀ (xs : List Operand), VRs E (nT st xs) (xs.map a.eval)
  | [] => VRs.nil E
  | x :: xs => VRs.cons (h x) (vG h xs)
theorem Xl (hT : kP P T) {t : TypeId} {ti : TI} (ht : T.ty t = some ti) {ps : List (Nat × AV)} {us : Array (Nat × Value)} (hu : PVs E ps us.toList) {z cs : List AV} (hz : ti.zv = .agg z)
    (hcase : (∃ fs pl, ti.desc = .struct fs /\ places T fs.toList = some pl /\ JG (fun i => if Nat.blt i (jJ pl) then some (aS (0, 0) pl i) else none) z ps = some cs) ∨
      (∃ n e te, ti.desc = .array n e /\ T.ty e = some te /\ JG (fun i => some (i * te.size, te.size)) z ps = some cs)) :
    ∃ l : List Value, (Instr.build t us).run P w = .ok (.agg l.toArray) w /\ VRs E cs l := by
  obtain ⟨h1, info, h2, h3, h4, zv, h5, h6, h7, h8⟩ := hT.ty t ti ht
  have hzr := h6 E
  rw [hz] at hzr
  unfold VR at hzr
  obtain ⟨lz, rfl, hlz⟩ := hzr
  rcases hcase with ⟨fs, pl, hd, hpl, hf⟩ | ⟨n, e, te, hd, he, hf⟩
  . obtain ⟨l', f1, f2, f3, _⟩ := JY (place' := fun i => (pl.toArray)[i]?) (fun i x hx => by
      split at hx
      . rename_i hlt
        rw [Nat.blt_eq, jE] at hlt
        simp only [Option.some.injEq] at hx
        subst hx
        rw [gy]
        simp [hlt, List.getD]
      . cases hx) hf hu hlz
    refine ⟨l', ?_, f2⟩
    refine run_build w t us l'.toArray ?_
    unfold Program.built
    rw [h2, h1, hd]
    simp only [h5, Uc hT hpl]
    exact f1
  . obtain ⟨_, infoe, e2, e3, _⟩ := hT.ty e te he
    obtain ⟨l', f1, f2, f3, _⟩ := JY (place' := fun i => some (i * te.size, te.size)) (fun i x hx => hx) hf hu hlz
    refine ⟨l', ?_, f2⟩
    refine run_build w t us l'.toArray ?_
    unfold Program.built
    rw [h2, h1, hd]
    simp only [h5, e2, e3]
    exact f1
theorem akZ {op : UnOp} {x v : AV} {ux : Value} (hx : VR E x ux) {p : Prop} {m' : Mem} (h : vun op x m = .val p v m') : m' = m /\ ∃ u, (Op.unary op ux).run P w = .ok u w /\ VR E v u := by
  unfold vun at h
  simp only [Pj, ahh] at h
  split at h
  . simp only [R.val.injEq] at h
    obtain ⟨rfl, rfl, rfl⟩ := h
    unfold VR at hx
    subst hx
    exact ⟨rfl, _, rfl, by unfold VR; rfl⟩
  . simp only [R.val.injEq] at h
    obtain ⟨rfl, rfl, rfl⟩ := h
    unfold VR at hx
    subst hx
    exact ⟨rfl, _, rfl, by unfold VR; rfl⟩
  . simp only [R.val.injEq] at h
    obtain ⟨rfl, rfl, rfl⟩ := h
    unfold VR at hx
    subst hx
    exact ⟨rfl, _, rfl, by unfold VR; rfl⟩
  . cases h
theorem P5 : ∀ {r : List AV} {k : IntKind} {x z : Int} {l : List Value}, JJ k x r = some z -> VRs E r l -> (l.foldlM Builtin.max2 (.int k x)).run P w = .ok (.int k z) w
  | [], k, x, z, l, h, hl => by
    have := hl.jO; subst this
    simp only [JJ, Option.some.injEq] at h; subst h; rfl
  | .int k' y :: r, k, x, z, l, h, hl => by
    obtain ⟨v, vs, rfl, h1, h2⟩ := hl.cons_inv
    unfold VR at h1
    subst h1
    simp only [JJ, aar] at h
    have := P5 h h2
    simp only [List.foldlM_cons, Sem.run_bind, Builtin.max2, Sem.run_pure, Result.andThen_ok]
    exact this
  | .dead :: r, k, x, z, l, h, hl => by cases h
  | .bool _ :: r, k, x, z, l, h, hl => by cases h
  | .nilp :: r, k, x, z, l, h, hl => by cases h
  | .ptr .. :: r, k, x, z, l, h, hl => by cases h
  | .nils :: r, k, x, z, l, h, hl => by cases h
  | .sl .. :: r, k, x, z, l, h, hl => by cases h
  | .agg _ :: r, k, x, z, l, h, hl => by cases h
  | .tup _ :: r, k, x, z, l, h, hl => by cases h
  | .ifc .. :: r, k, x, z, l, h, hl => by cases h
  | .nili :: r, k, x, z, l, h, hl => by cases h
  | .fn .. :: r, k, x, z, l, h, hl => by cases h
  | .raw _ :: r, k, x, z, l, h, hl => by cases h
  | .rs .. :: r, k, x, z, l, h, hl => by cases h
  | .rp .. :: r, k, x, z, l, h, hl => by cases h
theorem P6 : ∀ {r : List AV} {k : IntKind} {x z : Int} {l : List Value}, JK k x r = some z -> VRs E r l -> (l.foldlM Builtin.min2 (.int k x)).run P w = .ok (.int k z) w
  | [], k, x, z, l, h, hl => by
    have := hl.jO; subst this
    simp only [JK, Option.some.injEq] at h; subst h; rfl
  | .int k' y :: r, k, x, z, l, h, hl => by
    obtain ⟨v, vs, rfl, h1, h2⟩ := hl.cons_inv
    unfold VR at h1
    subst h1
    simp only [JK, aat] at h
    have := P6 h h2
    simp only [List.foldlM_cons, Sem.run_bind, Builtin.min2, Sem.run_pure, Result.andThen_ok]
    exact this
  | .dead :: r, k, x, z, l, h, hl => by cases h
  | .bool _ :: r, k, x, z, l, h, hl => by cases h
  | .nilp :: r, k, x, z, l, h, hl => by cases h
  | .ptr .. :: r, k, x, z, l, h, hl => by cases h
  | .nils :: r, k, x, z, l, h, hl => by cases h
  | .sl .. :: r, k, x, z, l, h, hl => by cases h
  | .agg _ :: r, k, x, z, l, h, hl => by cases h
  | .tup _ :: r, k, x, z, l, h, hl => by cases h
  | .ifc .. :: r, k, x, z, l, h, hl => by cases h
  | .nili :: r, k, x, z, l, h, hl => by cases h
  | .fn .. :: r, k, x, z, l, h, hl => by cases h
  | .raw _ :: r, k, x, z, l, h, hl => by cases h
  | .rs .. :: r, k, x, z, l, h, hl => by cases h
  | .rp .. :: r, k, x, z, l, h, hl => by cases h
theorem VR.iP {k : IntKind} {n : Int} {v : Value} (h : VR E (.int k n) v) : v = .int k n := by unfold VR at h; exact h
theorem VR.nU {b : Bool} {v : Value} (h : VR E (.bool b) v) : v = .bool b := by unfold VR at h; exact h
theorem VR.int {k : IntKind} {n : Int} : VR E (.int k n) (.int k n) := by unfold VR; rfl
theorem VR.bool {b : Bool} : VR E (.bool b) (.bool b) := by unfold VR; rfl
theorem VR.apE : VR E (.tup []) undef := by unfold VR; exact ⟨[], rfl, VRs.nil E⟩
theorem kY {t e : TypeId} {a : Option Addr} {l c : Nat} (h : P.underlying t = some (.slice e)) : (Op.equal t (.slice a l c) (.slice none 0 0)).run P w = .ok a.isNone w := by
  have key : ∀ d, (Op.equalIn (d + 1) t (.slice a l c) (.slice none 0 0)).run P w = .ok a.isNone w := fun d => by
    unfold Op.equalIn
    rw [Sem.run_bind, fM h]
    cases a <;> simp
  exact key 9999
theorem EY {t : TypeId} {ms : Array (String × TypeId)} {u : TypeId} {z : Value} (h : P.underlying t = some (.interface ms)) : (Op.equal t (.iface u z) .nilIface).run P w = .ok false w := by
  have key : ∀ d, (Op.equalIn (d + 1) t (.iface u z) .nilIface).run P w = .ok false w := fun d => by
    unfold Op.equalIn
    rw [Sem.run_bind, fM h]
    simp
  exact key 9999
theorem Ht {t : TypeId} {ms : Array (String × TypeId)} (h : P.underlying t = some (.interface ms)) : (Op.equal t .nilIface .nilIface).run P w = .ok true w := by
  have key : ∀ d, (Op.equalIn (d + 1) t .nilIface .nilIface).run P w = .ok true w := fun d => by
    unfold Op.equalIn
    rw [Sem.run_bind, fM h]
    simp
  exact key 9999
theorem U5 {op : BinOp} {t : TypeId} {x y : Operand} (hc : (isC x || isC y) = true) : (eqGuard op t x y .nilIface .nilIface).run P w = .ok () w := by
  cases x <;> cases y <;> cases op <;> first | rfl | (simp [isC] at hc)
theorem ahj (hT : kP P T) {op : BinOp} {t : TypeId} {x y : Operand} {a b v : AV} {ua ub : Value} (ha : VR E a ua) (hb : VR E b ub) {p : Prop} {m' : Mem} (h : Tt T op t (isC x || isC y) a b m = .val p v m') (hp : p) :
    m' = m /\ (eqGuard op t x y ua ub).run P w = .ok () w /\ ∃ u, (binOp op t ua ub).run P w = .ok u w /\ VR E v u := by
  unfold Tt at h
  simp only [JH, O8, O9, Pg, rC, aai, Yk, ahg, Ph, aam, PN, Yl, Ym, Yn, Yo, Yp, jU] at h
  split at h
  . -- ints
    rename_i k n k' n'
    have ha := ha.iP
    have hb := hb.iP
    subst ha hb
    have hg : (eqGuard op t x y (.int k n) (.int k' n')).run P w = .ok () w := by cases op <;> rfl
    split at h
    . simp only [R.val.injEq] at h
      obtain ⟨rfl, rfl, rfl⟩ := h
      refine ⟨rfl, hg, _, ?_, VR.int⟩
      simp only [binOp, Op.shift]
      rw [if_neg (by omega)]
      rfl
    . simp only [R.val.injEq] at h
      obtain ⟨rfl, rfl, rfl⟩ := h
      refine ⟨rfl, hg, _, ?_, VR.int⟩
      simp only [binOp, Op.shift]
      rw [if_neg (by omega)]
      rfl
    . rename_i hs1 hs2
      split at h
      . rename_i hk
        subst hk
        split at h
        all_goals first
          | (cases h; done)
          | (simp only [R.val.injEq] at h
             obtain ⟨rfl, rfl, rfl⟩ := h
             refine ⟨rfl, hg, _, ?_, VR.int⟩
             simp only [binOp, ne_eq, not_true_eq_false, if_false, Op.intArith, Op.intBits]
             rfl)
          | (simp only [R.val.injEq] at h
             obtain ⟨rfl, rfl, rfl⟩ := h
             refine ⟨rfl, hg, _, ?_, VR.int⟩
             simp only [binOp, ne_eq, not_true_eq_false, if_false, Op.intDiv]
             rw [if_neg hp]
             rfl)
          | (simp only [R.val.injEq] at h
             obtain ⟨rfl, rfl, rfl⟩ := h
             refine ⟨rfl, hg, _, ?_, VR.bool⟩
             simp only [binOp, ne_eq, not_true_eq_false, if_false, Op.intCmp]
             rfl)
      . cases h
  . -- bools
    rename_i n n'
    have ha := ha.nU
    have hb := hb.nU
    subst ha hb
    split at h
    . rename_i hpl
      have heq := hT.plainB t hpl n n' w
      split at h
      . simp only [R.val.injEq] at h
        obtain ⟨rfl, rfl, rfl⟩ := h
        exact ⟨rfl, rfl, _, by simp only [binOp, Sem.run_bind, heq, Result.andThen_ok, Sem.run_pure], VR.bool⟩
      . simp only [R.val.injEq] at h
        obtain ⟨rfl, rfl, rfl⟩ := h
        exact ⟨rfl, rfl, _, by simp only [binOp, Sem.run_bind, heq, Result.andThen_ok, Sem.run_pure], VR.bool⟩
      . cases h
    . cases h
  . -- structs
    rename_i xs ys
    unfold VR at ha hb
    obtain ⟨l, rfl, hl⟩ := ha
    obtain ⟨l', rfl, hl'⟩ := hb
    split at h
    . rename_i k1 k2 s hpl
      have hg : (eqGuard op t x y (.agg l.toArray) (.agg l'.toArray)).run P w = .ok () w := by
        have := hT.plainG t _ hpl
        cases op <;> simp [eqGuard, this]
      split at h
      . rename_i r hs
        have heq := hT.plainA t k1 k2 s hpl xs ys r l l' E w hs hl hl'
        simp only [R.val.injEq] at h
        obtain ⟨rfl, rfl, rfl⟩ := h
        exact ⟨rfl, hg, _, by simp only [binOp, Sem.run_bind, heq, Result.andThen_ok, Sem.run_pure], VR.bool⟩
      . rename_i r hs
        have heq := hT.plainA t k1 k2 s hpl xs ys r l l' E w hs hl hl'
        simp only [R.val.injEq] at h
        obtain ⟨rfl, rfl, rfl⟩ := h
        exact ⟨rfl, hg, _, by simp only [binOp, Sem.run_bind, heq, Result.andThen_ok, Sem.run_pure], VR.bool⟩
      . cases h
    . cases h
  . -- a nil slice and nil
    unfold VR at ha hb
    subst ha hb
    split at h
    . rename_i e sz by' zv ht
      obtain ⟨h1, _⟩ := hT.ty t _ ht
      simp only [R.val.injEq] at h
      obtain ⟨rfl, rfl, rfl⟩ := h
      refine ⟨rfl, rfl, _, ?_, VR.bool⟩
      simp only [binOp, Sem.run_bind, kY h1, Result.andThen_ok, Sem.run_pure, Option.isNone, Bool.not_true, Bool.not_false]
    . rename_i e sz by' zv ht
      obtain ⟨h1, _⟩ := hT.ty t _ ht
      simp only [R.val.injEq] at h
      obtain ⟨rfl, rfl, rfl⟩ := h
      refine ⟨rfl, rfl, _, ?_, VR.bool⟩
      simp only [binOp, Sem.run_bind, kY h1, Result.andThen_ok, Sem.run_pure, Option.isNone, Bool.not_true, Bool.not_false]
    . cases h
  . -- a slice and nil
    rename_i qz _ _ _
    unfold VR at ha hb
    subst hb
    have hz : ∃ ad l c, ua = .slice ad l c /\ ad.isNone = qz := by
      rcases ha with ⟨hq, _, rfl⟩ | ⟨hq, z, hz, _, _, _, _, rfl⟩
      . exact ⟨_, _, _, rfl, by cases qz <;> simp at hq ⊢⟩
      . exact ⟨_, _, _, rfl, by cases qz <;> simp at hq ⊢⟩
    obtain ⟨ad, l, c, rfl, rfl⟩ := hz
    split at h
    . rename_i e sz by' zv ht
      obtain ⟨h1, _⟩ := hT.ty t _ ht
      simp only [R.val.injEq] at h
      obtain ⟨rfl, rfl, rfl⟩ := h
      refine ⟨rfl, rfl, _, ?_, VR.bool⟩
      simp only [binOp, Sem.run_bind, kY h1, Result.andThen_ok, Sem.run_pure]
    . rename_i e sz by' zv ht
      obtain ⟨h1, _⟩ := hT.ty t _ ht
      simp only [R.val.injEq] at h
      obtain ⟨rfl, rfl, rfl⟩ := h
      refine ⟨rfl, rfl, _, ?_, VR.bool⟩
      simp only [binOp, Sem.run_bind, kY h1, Result.andThen_ok, Sem.run_pure]
    . cases h
  . -- a slice that nobody writes, and nil
    rename_i qz _ _
    unfold VR at ha hb
    subst hb
    have hz : ∃ ad l c, ua = .slice ad l c /\ ad.isNone = qz := by
      rcases ha with ⟨hq, _, rfl⟩ | ⟨hq, z, hz, rfl, _⟩
      . exact ⟨_, _, _, rfl, by cases qz <;> simp at hq ⊢⟩
      . exact ⟨_, _, _, rfl, by cases qz <;> simp at hq ⊢⟩
    obtain ⟨ad, l, c, rfl, rfl⟩ := hz
    split at h
    . rename_i e sz by' zv ht
      obtain ⟨h1, _⟩ := hT.ty t _ ht
      simp only [R.val.injEq] at h
      obtain ⟨rfl, rfl, rfl⟩ := h
      refine ⟨rfl, rfl, _, ?_, VR.bool⟩
      simp only [binOp, Sem.run_bind, kY h1, Result.andThen_ok, Sem.run_pure]
    . rename_i e sz by' zv ht
      obtain ⟨h1, _⟩ := hT.ty t _ ht
      simp only [R.val.injEq] at h
      obtain ⟨rfl, rfl, rfl⟩ := h
      refine ⟨rfl, rfl, _, ?_, VR.bool⟩
      simp only [binOp, Sem.run_bind, kY h1, Result.andThen_ok, Sem.run_pure]
    . cases h
  . -- an interface value and nil
    unfold VR at ha hb
    obtain ⟨z, rfl, _⟩ := ha
    subst hb
    split at h
    . rename_i e sz by' zv ht
      obtain ⟨h1, _⟩ := hT.ty t _ ht
      simp only [R.val.injEq] at h
      obtain ⟨rfl, rfl, rfl⟩ := h
      refine ⟨rfl, rfl, _, ?_, VR.bool⟩
      simp only [binOp, Sem.run_bind, EY h1, Result.andThen_ok, Sem.run_pure, Bool.not_false]
    . rename_i e sz by' zv ht
      obtain ⟨h1, _⟩ := hT.ty t _ ht
      simp only [R.val.injEq] at h
      obtain ⟨rfl, rfl, rfl⟩ := h
      refine ⟨rfl, rfl, _, ?_, VR.bool⟩
      simp only [binOp, Sem.run_bind, EY h1, Result.andThen_ok, Sem.run_pure, Bool.not_false]
    . cases h
  . -- no interface value and nil
    unfold VR at ha hb
    subst ha hb
    cases hc : (isC x || isC y) with
    | false => rw [hc] at h; cases h
    | true =>
    rw [hc, cond_true] at h
    have hg := U5 (P := P) (w := w) (op := op) (t := t) hc
    split at h
    . rename_i e sz by' zv ht
      obtain ⟨h1, _⟩ := hT.ty t _ ht
      simp only [R.val.injEq] at h
      obtain ⟨rfl, rfl, rfl⟩ := h
      refine ⟨rfl, hg, _, ?_, VR.bool⟩
      simp only [binOp, Sem.run_bind, Ht h1, Result.andThen_ok, Sem.run_pure, Bool.not_true]
    . rename_i e sz by' zv ht
      obtain ⟨h1, _⟩ := hT.ty t _ ht
      simp only [R.val.injEq] at h
      obtain ⟨rfl, rfl, rfl⟩ := h
      refine ⟨rfl, hg, _, ?_, VR.bool⟩
      simp only [binOp, Sem.run_bind, Ht h1, Result.andThen_ok, Sem.run_pure, Bool.not_true]
    . cases h
  . cases h
end
end Go.Ag
