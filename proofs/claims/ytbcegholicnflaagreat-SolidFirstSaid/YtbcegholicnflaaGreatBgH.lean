import Derived.Test.YtbcegholicnflaaGreatBgG
import Derived.Laws.Strings
import Derived.IntWalk
set_option linter.unusedVariables false
set_option linter.unusedSimpArgs false
namespace Go.Ag
open Go.RowKit
section
variable {P : Program} {T : Tab} {E : Env} {W : Nat -> Prop} {w : World} {ty0 : TypeId}
structure Did (P : Program) (W : Nat -> Prop) (E : Env) (o : Oper) (a : Act) (w : World) (slot:Nat) (m : Mem) (v : AV) (m' : Mem) : Prop where
  out : ∃ E' w' r u, (execOp a.eval o).run P w = .ok r w' /\ (r = .value u \/ (r = .skip /\ u = undef)) /\ E.le E' /\ bD W E' m' w' /\ Keep W w w' /\ VR E' v u /\
    (∀ b, b ≠ slot -> E'.bl b = E.bl b) /\ (allocs o.op = false -> E'.bl = E.bl) /\ (∀ b o v, E'.ro b o = some v -> E.ro b o = some v \/ w.heap.size <= b) /\ (∀ b x, E'.bl b = some x -> (∃ b' y, E.bl b' = some y /\ y.blk = x.blk) \/ w.heap.size <= x.blk)
  len : m'.length = m.length
  nodefer : ∀ c, o.op ≠ .defer c
theorem Did.dZ {o : Oper} {a : Act} {slot : Nat} {m : Mem} {v : AV} {u : Value} (hm : bD W E m w) (hr : (execOp a.eval o).run P w = .ok (.value u) w) (hv : VR E v u) (hd : ∀ c, o.op ≠ .defer c) :
    Did P W E o a w slot m v m :=
  ⟨⟨E, w, _, u, hr, .inl rfl, Env.le.refl _, hm, Keep.refl _ _, hv, fun _ _ => rfl, fun _ => rfl, fun _ _ _ h => .inl h, fun _ x h => .inl ⟨_, x, h, rfl⟩⟩, rfl, hd⟩
theorem Oe {z : List AV} {lz : List Value} (h : VRs E z lz) : ∀ (n:Nat), VRs E (Fq z n) (List.replicate n lz).flatten
  | 0 => by simpa [Fq] using VRs.nil E
  | n + 1 => by
    simp only [Fq, List.replicate_succ, List.flatten_cons]
    exact h.append (Oe h n)
theorem chunk_ok (sz:Nat) : ∀ (n:Nat) (cs : List AV) (l : List Value), VRs E cs l -> ∀ k, k < n -> VRs E (aS [] (chunks sz n cs) k) ((l.drop (k * sz)).take sz)
  | 0, cs, l, h, k, hk => absurd hk (Nat.not_lt_zero _)
  | n + 1, cs, l, h, 0, hk => by
    simp only [chunks, aS, Nat.zero_mul, List.drop_zero]
    exact h.take sz
  | n + 1, cs, l, h, k + 1, hk => by
    simp only [chunks, aS]
    have := chunk_ok sz n (EW sz cs) (l.drop sz) (h.drop sz) k (by omega)
    rw [List.drop_drop] at this
    rw [Nat.add_mul, Nat.one_mul, Nat.add_comm]
    exact this
theorem Ue (z : Array Value) (n:Nat) (hz : 0 < z.size) : ((Array.range (n * z.size)).map (z[· % z.size]!)) = (List.replicate n z.toList).flatten.toArray := by
  apply Array.ext'
  simp only [Array.toList_map, Array.toList_range]
  apply List.ext_getElem?
  intro q
  have hl : ∀ n, ((List.replicate n z.toList).flatten).length = n * z.size := by
    intro n; induction n with
    | zero => simp
    | succ n ih => simp [List.replicate_succ, ih, Nat.add_mul, Nat.add_comm]
  have hg : ∀ n q, q < n * z.size -> ((List.replicate n z.toList).flatten)[q]? = some (z[q % z.size]!) := by
    intro n
    induction n with
    | zero => intro q hq; simp at hq
    | succ n ih =>
      intro q hq
      simp only [List.replicate_succ, List.flatten_cons]
      rw [Nat.add_mul, Nat.one_mul] at hq
      by_cases hlt : q < z.size
      . rw [List.getElem?_append_left (by simpa using hlt), Nat.mod_eq_of_lt hlt]
        simp [hlt, getElem!_pos]
      . rw [List.getElem?_append_right (by simp; omega)]
        simp only [Array.length_toList]
        rw [ih (q - z.size) (by omega)]
        have : (q - z.size) % z.size = q % z.size := (Nat.mod_eq_sub_mod (by omega)).symm
        rw [this]
  by_cases hq : q < n * z.size
  . simp [List.getElem?_map, List.getElem?_range hq, hg n q hq]
  . rw [List.getElem?_eq_none (by simp; omega), List.getElem?_eq_none (by show _ <= _; rw [hl]; omega)]
theorem Uf {slot : Nat} {e : TypeId} {vs : List AV} {u : Value} {m : Mem} (hm : bD W E m w) (hs : slot < m.length) (hE : E.bl slot = none) (hW : W w.heap.size) (hvs : VRs E vs u.cells.toList) (hone : ∀ c ∈ u.cells.toList, c.oneCell' = true) :
    ∃ E', (newVar e u).run P w = .ok ⟨w.heap.size, 0, none⟩ (w.alloc (.cells u.cells e)) /\ E.le E' /\ bD W E' (setAt m slot (.one true e vs)) (w.alloc (.cells u.cells e)) /\ Keep W w (w.alloc (.cells u.cells e)) /\ VR E' (.ptr false slot 0 0) (.pointer (some ⟨w.heap.size, 0, none⟩)) /\ (∀ b, b ≠ slot -> E'.bl b = E.bl b) /\ E'.ro = E.ro /\ (∀ b x, E'.bl b = some x -> (∃ y, E.bl b = some y /\ y.blk = x.blk) \/ w.heap.size <= x.blk) := by
  have hlen := hvs.length
  obtain ⟨h1, h2, h3⟩ := KY (ab := .one true e vs) (l := u.cells.toList) hm hs hE hW (by simp only [AB.n, AB.sz, Nat.one_mul]; exact hlen) hone (fun i hi => by
    simp only [AB.n] at hi
    have : i = 0 := by omega
    subst this
    simp only [AB.sz, Nat.zero_mul, List.drop_zero, AB.get]
    rw [<- hlen, List.take_length]
    exact hvs)
  simp only [Array.toArray_toList, AB.ty] at h1 h3
  refine ⟨_, ?_, h2, h1, h3, ?_, fun b hb => Env.qJ _ _ hb, rfl, Env.JZ (.inr (Nat.le_refl _))⟩
  . simp [newVar, newRow]
  . unfold VR
    exact ⟨_, Env.add_same _ _ _, by simp [Bl.addr]⟩
theorem ahl (hT : kP P T) {t : TypeId} {x v : AV} {u : Value} (hx : VR E x u) {p : Prop} {m m' : Mem} (h : Tv T t x m = .val p v m') :
    m' = m /\ ∃ r, (Builtin.len_ #[t] ty0 #[u]).run P w = .ok r w /\ VR E v r := by
  unfold Tv at h
  split at h
  . rename_i e sz by' zv q b n s0 ht
    simp only [R.val.injEq] at h
    obtain ⟨_, rfl, rfl⟩ := h
    obtain ⟨h1, _⟩ := hT.ty _ _ ht
    unfold VR at hx
    rcases hx with ⟨_, rfl, rfl⟩ | ⟨_, y, _, _, _, _, _, rfl⟩
    . exact ⟨rfl, .int .i64 _, by simp [Builtin.len_, fM h1]; rfl, VR.int⟩
    . exact ⟨rfl, .int .i64 _, by simp [Builtin.len_, fM h1]; rfl, VR.int⟩
  . rename_i e sz by' zv q n cols ht
    simp only [R.val.injEq] at h
    obtain ⟨_, rfl, rfl⟩ := h
    obtain ⟨h1, _⟩ := hT.ty _ _ ht
    unfold VR at hx
    rcases hx with ⟨_, rfl, rfl⟩ | ⟨_, y, c, rfl, _⟩
    . exact ⟨rfl, .int .i64 _, by simp [Builtin.len_, fM h1]; rfl, VR.int⟩
    . exact ⟨rfl, .int .i64 _, by simp [Builtin.len_, fM h1]; rfl, VR.int⟩
  . rename_i e sz by' zv ht
    simp only [R.val.injEq] at h
    obtain ⟨_, rfl, rfl⟩ := h
    obtain ⟨h1, _⟩ := hT.ty _ _ ht
    unfold VR at hx
    subst hx
    exact ⟨rfl, .int .i64 _, by simp [Builtin.len_, fM h1]; rfl, VR.int⟩
  . rename_i n e sz by' zv ht
    simp only [R.val.injEq] at h
    obtain ⟨_, rfl, rfl⟩ := h
    obtain ⟨h1, _⟩ := hT.ty _ _ ht
    exact ⟨rfl, .int .i64 _, by simp [Builtin.len_, fM h1]; rfl, VR.int⟩
  . cases h
theorem J3 {k : IntKind} {i : Int} {y : Nat} {c : BoundsCode} (h : 0 <= i /\ i <= (y:Int)) : (Instr.sliceBound (.int k i) y c).run P w = .ok i.toNat w := by
  unfold Instr.sliceBound
  simp only [asIntOf, Sem.run_bind, Sem.run_pure, Result.andThen_ok]
  rw [if_pos h]
  rfl
theorem acH {o : Oper} {st : VS} {slot : Nat} {a : Act} (hm : bD W E st.mem w) (hev : ∀ x, VR E (st.eval x) (a.eval x)) (hT : kP P T) {t : TypeId} {x : Operand} {lo hi : Option Operand} (ho : o.op = .slice t x lo hi none)
    {p : Prop} {v : AV} {m' : Mem} (h : Ac T t (st.eval x) (lo.map st.eval) (hi.map st.eval) st.mem = .val p v m') (hp : p) : Did P W E o a w slot st.mem v m' := by
  have hx := hev x
  unfold Ac at h
  split at h
  . rename_i e sz by' zv q n cols ht hg
    rw [hg] at hx
    obtain ⟨h1, _⟩ := hT.ty _ _ ht
    split at h
    . rename_i te hte
      obtain ⟨_, info, e2, e3, _⟩ := hT.ty _ _ hte
      split at h
      . rename_i hs
        have hs := Nat.eq_of_beq_eq_true hs
        rw [jE] at hs
        -- the part from l on, of u - l elements
        have part : ∀ (l u:Nat), l <= u -> u <= n -> ∀ {ux : Value}, VR E (.rs q n cols) ux -> ∃ ad len cap, ux = .slice ad len cap /\ len = n /\ n <= cap /\
            VR E (.rs q (u - l) (JL l cols)) (.slice (if cap = l then ad else ad.map (·.add (l * te.size))) (u - l) (cap - l)) := by
          intro l u hlh hhn ux hx
          unfold VR at hx
          rcases hx with ⟨hq, rfl, rfl⟩ | ⟨hq, ad, c, rfl, hc, hg⟩
          . refine ⟨_, _, _, rfl, rfl, Nat.le_refl _, ?_⟩
            have e1 : l = 0 := by omega
            have e2 : u = 0 := by omega
            subst e1 e2
            unfold VR
            exact .inl ⟨hq, rfl, by simp⟩
          . refine ⟨_, _, _, rfl, rfl, hc, ?_⟩
            unfold VR
            by_cases hcl : c = l
            . rw [if_pos hcl]
              exact .inr ⟨hq, ad, c - l, rfl, by omega, fun k hk => by omega⟩
            . rw [if_neg hcl]
              refine .inr ⟨hq, ad.add (l * te.size), c - l, rfl, by omega, fun k hk => ?_⟩
              obtain ⟨hsp, hne, us, u1, u4⟩ := hg (l + k) (by omega)
              refine ⟨by rw [BG hsp], aeh hne, us, u1.drop, fun j hj => ?_⟩
              have hl := u1.length
              rw [BG hsp]
              simp only
              rw [<- u4 j hj, show us.length = te.size by omega, Nat.add_mul]
              congr 1
              omega
        have part0 : ∀ (u:Nat), u <= n -> ∀ {ux : Value}, VR E (.rs q n cols) ux -> ∃ ad len cap, ux = .slice ad len cap /\ len = n /\ n <= cap /\ VR E (.rs q u cols) (.slice ad u cap) := by
          intro u hu ux hx
          unfold VR at hx
          rcases hx with ⟨hq, rfl, rfl⟩ | ⟨hq, ad, c, rfl, hc, hg⟩
          . have e2 : u = 0 := by omega
            subst e2
            exact ⟨_, _, _, rfl, rfl, Nat.le_refl _, by unfold VR; exact .inl ⟨hq, rfl, rfl⟩⟩
          . exact ⟨_, _, _, rfl, rfl, hc, by unfold VR; exact .inr ⟨hq, ad, c, rfl, by omega, fun k hk => hg k (by omega)⟩⟩
        have hlo : ∀ y, lo = some y -> (lo.map a.eval) = some (a.eval y) := fun y hy => by rw [hy]; rfl
        split at h
        . rename_i k l hl hh
          simp only [R.val.injEq] at h
          obtain ⟨rfl, rfl, rfl⟩ := h
          obtain ⟨y, rfl, hy⟩ : ∃ y, lo = some y /\ st.eval y = .int k l := by cases lo with | none => cases hl | some y => exact ⟨y, rfl, by simpa using hl⟩
          have hhi : hi = none := by cases hi with | none => rfl | some y => cases hh
          subst hhi
          have hyv := hev y
          rw [hy] at hyv
          have hyv := hyv.iP
          obtain ⟨ad, len, cap, hux, rfl, hcap, hvr⟩ := part l.toNat n (by omega) (Nat.le_refl _) hx
          refine .dZ hm ?_ hvr (by simp [ho])
          simp only [execOp, ho, Sem.run_bind, Instr.sliceAt, Instr.slice, fM h1, Result.andThen_ok, hux, Option.map_some, Option.map_none, Instr.sliceBounds, Sem.run_pure, hyv, J3 hp, run_sizeOf e2, e3]
        . rename_i k h' hl hh
          simp only [R.val.injEq] at h
          obtain ⟨rfl, rfl, rfl⟩ := h
          obtain ⟨y, rfl, hy⟩ : ∃ y, hi = some y /\ st.eval y = .int k h' := by cases hi with | none => cases hh | some y => exact ⟨y, rfl, by simpa using hh⟩
          have hlo : lo = none := by cases lo with | none => rfl | some y => cases hl
          subst hlo
          have hyv := hev y
          rw [hy] at hyv
          have hyv := hyv.iP
          obtain ⟨ad, len, cap, hux, rfl, hcap, hvr⟩ := part0 h'.toNat (by omega) hx
          refine .dZ hm ?_ hvr (by simp [ho])
          simp only [execOp, ho, Sem.run_bind, Instr.sliceAt, Instr.slice, fM h1, Result.andThen_ok, hux, Option.map_some, Option.map_none, Instr.sliceBounds, Sem.run_pure, hyv, J3 (show 0 <= h' /\ h' <= (cap:Int) by omega), run_sizeOf e2, e3, Nat.sub_zero, Nat.zero_mul]
          have hz : (if cap = 0 then ad else ad.map (·.add 0)) = ad := by split <;> cases ad <;> simp [Addr.add]
          rw [hz]
        . rename_i k l k' h' hl hh
          simp only [R.val.injEq] at h
          obtain ⟨rfl, rfl, rfl⟩ := h
          obtain ⟨y, rfl, hy⟩ : ∃ y, lo = some y /\ st.eval y = .int k l := by cases lo with | none => cases hl | some y => exact ⟨y, rfl, by simpa using hl⟩
          obtain ⟨z, rfl, hz⟩ : ∃ y, hi = some y /\ st.eval y = .int k' h' := by cases hi with | none => cases hh | some y => exact ⟨y, rfl, by simpa using hh⟩
          have hyv := hev y
          rw [hy] at hyv
          have hyv := hyv.iP
          have hzv := hev z
          rw [hz] at hzv
          have hzv := hzv.iP
          obtain ⟨ad, len, cap, hux, rfl, hcap, hvr⟩ := part l.toNat h'.toNat (by omega) (by omega) hx
          refine .dZ hm ?_ hvr (by simp [ho])
          simp only [execOp, ho, Sem.run_bind, Instr.sliceAt, Instr.slice, fM h1, Result.andThen_ok, hux, Option.map_some, Option.map_none, Instr.sliceBounds, Sem.run_pure, hyv, hzv, J3 (show 0 <= h' /\ h' <= (cap:Int) by omega), J3 (show 0 <= l /\ l <= (h'.toNat:Int) by omega), run_sizeOf e2, e3]
        . cases h
      . cases h
    . cases h
  . cases h
theorem aem (hT : kP P T) {o : Oper} {st : VS} {slot : Nat} {a : Act} (hm : bD W E st.mem w) (hev : ∀ x, VR E (st.eval x) (a.eval x)) (hW : ∀ i, w.heap.size <= i -> W i)
    (hslot : allocs o.op = true -> slot < st.mem.length /\ E.bl slot = none) {p : Prop} {v : AV} {m' : Mem} (h : vop T o st slot = .val p v m') (hp : p) : Did P W E o a w slot st.mem v m' := by
  have hWn : W w.heap.size := hW _ (Nat.le_refl _)
  have hslot' := hslot
  unfold vop at h
  split at h
  . -- move
    rename_i x ho
    simp only [R.val.injEq] at h
    obtain ⟨_, rfl, rfl⟩ := h
    exact .dZ hm (by simp [execOp, ho]) (hev x) (by simp [ho])
  . rename_i x ho
    simp only [R.val.injEq] at h
    obtain ⟨_, rfl, rfl⟩ := h
    exact .dZ hm (by simp [execOp, ho]) (hev x) (by simp [ho])
  . -- pick
    rename_i c x y ho
    split at h
    . rename_i t hc
      simp only [R.val.injEq] at h
      obtain ⟨_, rfl, rfl⟩ := h
      have hcv := hev c
      rw [hc] at hcv
      have hcv := hcv.nU
      refine .dZ hm (u := if t then a.eval x else a.eval y) (by simp [execOp, ho, hcv, asBool]) ?_ (by simp [ho])
      unfold aja
      have hx := hev x
      have hy := hev y
      split
      . rename_i p q e1 e2
        rw [e1] at hx; rw [e2] at hy
        rw [hx.nU, hy.nU]
        cases t <;> exact VR.bool
      . rename_i k p k' q e1 e2
        rw [e1] at hx; rw [e2] at hy
        rw [hx.iP, hy.iP]
        split
        . rename_i hk; subst hk; cases t <;> exact VR.int
        . cases t <;> exact VR.int
      . cases t <;> simpa using by assumption
    . cases h
  . -- alloc
    rename_i e ho
    split at h
    . rename_i te hte
      simp only [R.val.injEq] at h
      obtain ⟨_, rfl, rfl⟩ := h
      obtain ⟨_, info, e2, e3, e4, z, e5, e6, e7, e8⟩ := hT.ty e te hte
      obtain ⟨hs, hE⟩ := hslot (by simp [allocs, ho])
      have hc := lC e7 (e6 E)
      obtain ⟨E', f1, f2, f3, f4, f5, f6, f7, f8⟩ := Uf (P := P) (e := e) hm hs hE hWn hc.1 hc.2
      exact ⟨⟨E', _, _, _, by simp [execOp, ho, Instr.alloc, zeroValue, typeInfo, e2, e5, f1], .inl rfl, f2, f3, f4, f5, f6, (fun hh => by simp [allocs, ho] at hh), (fun _ _ _ h => .inl (by rw [f7] at h; exact h)), (fun b x h => (f8 b x h).imp (fun ⟨y, h⟩ => ⟨b, y, h⟩) id)⟩, by rw [cu], by simp [ho]⟩
    . cases h
  . -- box
    rename_i e x ho
    split at h
    . rename_i vs hvs
      simp only [R.val.injEq] at h
      obtain ⟨_, rfl, rfl⟩ := h
      obtain ⟨hs, hE⟩ := hslot (by simp [allocs, ho])
      have hc := lC hvs (hev x)
      obtain ⟨E', f1, f2, f3, f4, f5, f6, f7, f8⟩ := Uf (P := P) (e := e) hm hs hE hWn hc.1 hc.2
      exact ⟨⟨E', _, _, _, by simp [execOp, ho, Instr.box, f1], .inl rfl, f2, f3, f4, f5, f6, (fun hh => by simp [allocs, ho] at hh), (fun _ _ _ h => .inl (by rw [f7] at h; exact h)), (fun b x h => (f8 b x h).imp (fun ⟨y, h⟩ => ⟨b, y, h⟩) id)⟩, by rw [cu], by simp [ho]⟩
    . cases h
  . -- build
    rename_i t ps ho
    have hps : PVs E (mQ st ps.toList) (ps.map fun (i, x) => (i, a.eval x)).toList := by
      have := KZ hev ps.toList
      simpa using this
    split at h
    . rename_i fs sz by' z ht
      split at h
      . rename_i pl hpl
        split at h
        . rename_i cs hcs
          simp only [R.val.injEq] at h
          obtain ⟨_, rfl, rfl⟩ := h
          obtain ⟨l, f1, f2⟩ := Xl (w := w) hT ht hps rfl (.inl ⟨fs, pl, rfl, hpl, hcs⟩)
          exact .dZ hm (u := .agg l.toArray) (by simp only [execOp, ho, Sem.run_bind]; rw [f1]; rfl) (by unfold VR; exact ⟨l, rfl, f2⟩) (by simp [ho])
        . cases h
      . cases h
    . rename_i n e sz by' z ht
      split at h
      . rename_i te hte
        split at h
        . rename_i cs hcs
          simp only [R.val.injEq] at h
          obtain ⟨_, rfl, rfl⟩ := h
          obtain ⟨l, f1, f2⟩ := Xl (w := w) hT ht hps rfl (.inr ⟨n, e, te, rfl, hte, hcs⟩)
          exact .dZ hm (u := .agg l.toArray) (by simp only [execOp, ho, Sem.run_bind]; rw [f1]; rfl) (by unfold VR; exact ⟨l, rfl, f2⟩) (by simp [ho])
        . cases h
      . cases h
    . cases h
  . -- buildSlice
    rename_i t len ps ho
    have hps : PVs E (mQ st ps.toList) (ps.map fun (i, x) => (i, a.eval x)).toList := by
      have := KZ hev ps.toList
      simpa using this
    split at h
    . rename_i e sz by' z0 ht
      split at h
      . rename_i te hte
        split at h
        . rename_i hc
          simp only [Bool.and_eq_true, Nat.blt_eq] at hc
          obtain ⟨hpos, hbig⟩ := hc
          split at h
          . rename_i hl0
            have hl0 := Nat.eq_of_beq_eq_true hl0
            subst hl0
            split at h
            . rename_i c0 cs0 hcs
              split at h
              . rename_i hps0
                have hps0 := Nat.eq_of_beq_eq_true hps0
                have hps1 : ps = #[] := Array.eq_empty_of_size_eq_zero hps0
                subst hps1
                simp only [R.val.injEq] at h
                obtain ⟨rfl, rfl, rfl⟩ := h
                obtain ⟨h1, _⟩ := hT.ty t _ ht
                obtain ⟨_, info, e2, e3, e4, z, e5, e6, e7, e8⟩ := hT.ty e te hte
                obtain ⟨hs, hE⟩ := hslot (by simp [allocs, ho])
                have hcl := (BF (E := E) hcs).1
                have hclen : (c0 :: cs0).length = te.size := by rw [hcl, e8]
                obtain ⟨g1, g2, g3⟩ := KY (ab := .many true e 0 (c0 :: cs0)) (l := []) hm hs hE hWn (by simp [AB.n]) (by simp) (fun i hi => absurd hi (Nat.not_lt_zero _))
                have hrun : (Instr.buildSlice t 0 ((#[] : Array (Nat × Operand)).map fun (i, x) => (i, a.eval x))).run P w = .ok (.slice (some ⟨w.heap.size, 0, none⟩) 0 0) (w.alloc (.cells ([] : List Value).toArray e)) := by
                  unfold Instr.buildSlice
                  simp only [Sem.run_bind, fM h1, Result.andThen_ok, run_sizeOf e2, e3, Nat.zero_mul]
                  rw [if_neg (by omega)]
                  simp only [if_true, Sem.run_pure, Result.andThen_ok, Array.map_empty, Instr.fill, Sem.run_bind, newRow, newObj, Sem.run]
                  rw [show (Array.range 0 : Array Nat) = #[] from rfl, Array.map_empty]
                  rfl
                refine ⟨⟨_, _, _, _, by simp only [execOp, ho, Sem.run_bind]; rw [hrun]; rfl, .inl rfl, g2, g1, g3, ?_, fun b hb => Env.qJ _ _ hb, (fun hh => by simp [allocs, ho] at hh), (fun _ _ _ h => .inl h), (fun b x h => (Env.JZ (.inr (Nat.le_refl _)) b x h).imp (fun ⟨y, h⟩ => ⟨b, y, h⟩) id)⟩, by rw [cu], by simp [ho]⟩
                unfold VR
                exact .inr ⟨by simp, _, Env.add_same _ _ _, hclen, hpos, rfl, Nat.le_refl _, by simp [Bl.addr, AB.n]⟩
              . cases h
            . cases h
          split at h
          . rename_i cs hcs
            split at h
            . rename_i cols hcols
              simp only [R.val.injEq] at h
              obtain ⟨_, rfl, rfl⟩ := h
              obtain ⟨h1, _⟩ := hT.ty t _ ht
              obtain ⟨_, info, e2, e3, e4, z, e5, e6, e7, e8⟩ := hT.ty e te hte
              have hcz := lC e7 (e6 E)
              have hzl := hcz.1.length
              have hrep := Oe hcz.1 len
              obtain ⟨l', f1, f2, f3, f4⟩ := JY (place' := fun i => some (i * te.size, te.size)) (fun i x hx => hx) hcs hps hrep
              have hll : ∀ n, ((List.replicate n z.cells.toList).flatten).length = n * te.size := by
                intro n; induction n with
                | zero => simp
                | succ n ih => simp only [List.replicate_succ, List.flatten_cons, List.length_append, ih, hzl, e8, Nat.add_mul, Nat.one_mul, Nat.add_comm]
              have hzs : z.cells.size = te.size := by rw [<- Array.length_toList, hzl, e8]
              have hone : ∀ c ∈ l', c.oneCell' = true := f4 (fun c hc => by
                obtain ⟨q, hq1, hq2⟩ := List.mem_flatten.1 hc
                have := List.eq_of_mem_replicate hq1
                subst this
                exact hcz.2 c hq2)
              have hlen : l'.length = len * te.size := by rw [f3, hll]
              obtain ⟨g1, g2⟩ := hm.Hr l' e
              have hzr : (Array.map (fun x => z.cells[x % z.cells.size]!) (Array.range (len * te.size))) = (List.replicate len z.cells.toList).flatten.toArray := by
                rw [<- hzs]
                exact Ue z.cells len (by omega)
              have hrun : (Instr.buildSlice t len (ps.map fun (i, x) => (i, a.eval x))).run P w = .ok (.slice (some ⟨w.heap.size, 0, none⟩) len len) (w.alloc (.cells l'.toArray e)) := by
                unfold Instr.buildSlice
                simp only [Sem.run_bind, fM h1, Result.andThen_ok, run_sizeOf e2, e3]
                rw [if_neg (by omega)]
                by_cases hl0 : len * te.size = 0
                . have : len = 0 := by rcases Nat.mul_eq_zero.1 hl0 with h | h <;> omega
                  subst this
                  have f1' : Instr.fill (fun i => some (i * te.size, te.size)) (Array.map (fun x => (#[] : Array Value)[x % (#[] : Array Value).size]!) (Array.range (0 * te.size))) (ps.map fun (i, x) => (i, a.eval x)).toList = some l'.toArray := by
                    rw [<- f1]
                    congr 1
                    simp
                  rw [if_pos hl0]
                  simp only [Sem.run_pure, Result.andThen_ok, f1', Sem.run_bind, newRow, newObj, Sem.run]
                  rfl
                . rw [if_neg hl0]
                  simp only [Sem.run_bind, zeroValue, typeInfo, run_program, Result.andThen_ok, e2, Sem.run_pure, e5, hzr, f1, newRow, newObj, Sem.run]
                  rfl
              refine ⟨⟨_, _, _, _, by simp only [execOp, ho, Sem.run_bind]; rw [hrun]; rfl, .inl rfl, g2, g1, Keep.alloc W w _, ?_, fun b hb => rfl, fun hh => rfl, fun b o v hv => ?_, fun _ x h => .inl ⟨_, x, h, rfl⟩⟩, rfl, by simp [ho]⟩
              . unfold VR
                refine .inr ⟨by simp, ⟨w.heap.size, 0, none⟩, len, rfl, Nat.le_refl _, fun k hk => ?_⟩
                have hle : (k + 1) * te.size <= len * te.size := Nat.mul_le_mul_right _ hk
                rw [Nat.add_mul, Nat.one_mul] at hle
                have hck := chunk_ok te.size len _ l' f2 k hk
                have hrow : (chunks te.size len cs)[k]? = some (aS [] (chunks te.size len cs) k) := by
                  have hl : ∀ n (l : List AV), (chunks te.size n l).length = n := by
                    intro n
                    induction n with
                    | zero => intro l; rfl
                    | succ n ih => intro l; simp [chunks, ih]
                  rw [gy]
                  simp [List.getD, hl, hk]
                obtain ⟨r1, r2⟩ := Xh (E := E.Hr w.heap.size l') hcols k _ hrow
                have hcl := hck.length
                have hul : ((l'.drop (k * te.size)).take te.size).length = te.size := by simp; omega
                refine ⟨rfl, by rintro rfl; simp at r1; omega, (l'.drop (k * te.size)).take te.size, r2 _ (VRs.mono g2 _ hck), fun j hj => ?_⟩
                rw [hul] at hj ⊢
                rw [List.getElem?_take_of_lt hj, List.getElem?_drop]
                show (if w.heap.size = w.heap.size then _ else _) = _
                rw [if_pos rfl, Nat.zero_add]
              . unfold Env.Hr at hv
                simp only at hv
                split at hv
                . rename_i hb; exact .inr (by omega)
                . exact .inl hv
            . cases h
          . cases h
        . cases h
      . cases h
    . cases h
  . -- load
    rename_i t x ho
    split at h
    . rename_i ti ht
      obtain ⟨rfl, u, f1, f2⟩ := Xi hT ht hm (hev x) h hp
      exact .dZ hm (u := u) (by simp only [execOp, ho, Sem.run_bind]; rw [f1]; rfl) f2 (by simp [ho])
    . cases h
  . -- store
    rename_i t x y ho
    split at h
    . rename_i ti ht
      have hlen : m'.length = st.mem.length := by
        unfold qI at h
        split at h
        . split at h
          . split at h
            . split at h
              . simp only [R.val.injEq] at h; rw [<- h.2.2, cu]
              . cases h
            . split at h
              . split at h
                . simp only [R.val.injEq] at h; rw [<- h.2.2, cu]
                . cases h
              . cases h
            . cases h
          . cases h
        . cases h
      obtain ⟨rfl, w', f1, f2, f3⟩ := acG (P := P) hT ht hm (hev x) (hev y) h hp
      exact ⟨⟨E, w', .skip, undef, by simp only [execOp, ho, Sem.run_bind]; rw [f1]; rfl, .inr ⟨rfl, rfl⟩, Env.le.refl _, f2, f3, VR.apE, fun _ _ => rfl, fun _ => rfl, fun _ _ _ h => .inl h, fun _ x h => .inl ⟨_, x, h, rfl⟩⟩, hlen, by simp [ho]⟩
    . cases h
  . -- nilCheck
    rename_i x ho
    have hx := hev x
    split at h
    . rename_i q b i j hg
      simp only [R.val.injEq] at h
      obtain ⟨_, rfl, rfl⟩ := h
      rw [hg] at hx
      have hx' := hx
      unfold VR at hx
      obtain ⟨y, _, hx⟩ := hx
      rw [hx] at hx'
      exact .dZ hm (by simp [execOp, ho, hx]) hx' (by simp [ho])
    . rename_i cs j hg
      simp only [R.val.injEq] at h
      obtain ⟨_, rfl, rfl⟩ := h
      rw [hg] at hx
      have hx' := hx
      unfold VR at hx
      obtain ⟨y, us, hx, _⟩ := hx
      rw [hx] at hx'
      exact .dZ hm (by simp [execOp, ho, hx]) hx' (by simp [ho])
    . rename_i t v hg
      simp only [R.val.injEq] at h
      obtain ⟨_, rfl, rfl⟩ := h
      rw [hg] at hx
      have hx' := hx
      unfold VR at hx
      obtain ⟨y, hx, _⟩ := hx
      rw [hx] at hx'
      exact .dZ hm (by simp [execOp, ho, hx]) hx' (by simp [ho])
    . cases h
  . -- binOp
    rename_i op t x y yt ho
    obtain ⟨rfl, f1, u, f2, f3⟩ := ahj (w := w) (x := x) (y := y) hT (hev x) (hev y) h hp
    exact .dZ hm (u := u) (by simp only [execOp, ho, Sem.run_bind]; rw [f1]; simp only [Result.andThen_ok]; rw [f2]; rfl) f3 (by simp [ho])
  . -- unOp
    rename_i op t x ho
    obtain ⟨rfl, u, f1, f2⟩ := akZ (P := P) (w := w) (hev x) h
    exact .dZ hm (u := u) (by simp only [execOp, ho, Sem.run_bind]; rw [f1]; rfl) f2 (by simp [ho])
  . -- convert
    rename_i src dst x ho
    have hx := hev x
    split at h
    . rename_i ts k sz by' zv k' n hs ht hg
      simp only [R.val.injEq] at h
      obtain ⟨_, rfl, rfl⟩ := h
      obtain ⟨h1, _⟩ := hT.ty _ _ hs
      obtain ⟨h2, _⟩ := hT.ty _ _ ht
      rw [hg] at hx
      have hx := hx.iP
      rw [JI]
      refine .dZ hm (u := .int k (k.wrap n)) ?_ VR.int (by simp [ho])
      simp only [execOp, ho, Sem.run_bind, hx, convert, fM h1, fM h2, Result.andThen_ok, Conv.intToInt]
      rfl
    . cases h
  . -- makeInterface
    rename_i t x ho
    have hx := hev x
    split at h
    . cases h
    . rename_i ti hno ht
      simp only [R.val.injEq] at h
      obtain ⟨_, rfl, rfl⟩ := h
      obtain ⟨h1, _⟩ := hT.ty _ _ ht
      refine .dZ hm (u := .iface t (a.eval x)) ?_ (by unfold VR; exact ⟨_, rfl, hx⟩) (by simp [ho])
      have hni : ∀ ms, ti.desc ≠ .interface ms := fun ms e => by
        obtain ⟨d, s1, s2, s3⟩ := ti
        simp only at e
        subst e
        exact hno ms s1 s2 s3 rfl
      simp only [execOp, ho, Sem.run_bind, Instr.makeInterface, fM h1, Result.andThen_ok]
      cases hd : ti.desc <;> first | rfl | exact absurd hd (hni _)
    . cases h
  . -- makeFunc
    rename_i f first cap ho
    split at h
    . rename_i hf
      have hf := Nat.eq_of_beq_eq_true hf
      simp only [R.val.injEq] at h
      obtain ⟨_, rfl, rfl⟩ := h
      have hfe : first = #[] := Array.eq_empty_of_size_eq_zero hf
      refine .dZ hm (u := .func (.func f) #[] (cap.map a.eval)) ?_ ?_ (by simp [ho])
      . simp only [execOp, ho, Instr.makeFunc, hfe, Sem.run_bind, Sem.run_pure, Result.andThen_ok, Array.map_empty]
      . unfold VR
        exact ⟨(cap.map a.eval).toList, by apply congrArg; exact Array.toArray_toList.symm, by simpa using vG hev cap.toList⟩
    . cases h
  . -- makeSlice
    rename_i t x y ho
    have hx := hev x
    have hy := hev y
    split at h
    . rename_i e sz by' zv k n k' n' ht hgx hgy
      split at h
      . rename_i te hte
        split at h
        . rename_i c0 cs0 hcs
          simp only [R.val.injEq] at h
          obtain ⟨rfl, rfl, rfl⟩ := h
          obtain ⟨hn0, rfl, hn1, hbt⟩ := hp
          obtain ⟨h1, _⟩ := hT.ty t _ ht
          obtain ⟨_, info, e2, e3, e4, z, e5, e6, e7, e8⟩ := hT.ty e te hte
          obtain ⟨hs, hE⟩ := hslot (by simp [allocs, ho])
          have hcz := lC e7 (e6 E)
          have hzl := hcz.1.length
          obtain ⟨hcl, hcr⟩ := BF (E := E) hcs
          have hclen : (c0 :: cs0).length = te.size := by rw [hcl, e8]
          have hpos : 0 < te.size := by rw [<- hclen]; simp
          have hzs : z.cells.size = te.size := by rw [<- Array.length_toList, hzl, e8]
          have hll : ∀ n, ((List.replicate n z.cells.toList).flatten).length = n * te.size := by
            intro n; induction n with
            | zero => simp
            | succ n ih => simp only [List.replicate_succ, List.flatten_cons, List.length_append, ih, hzl, e8, Nat.add_mul, Nat.one_mul, Nat.add_comm]
          have hrow : ∀ n k, k < n -> (((List.replicate n z.cells.toList).flatten.drop (k * te.size)).take te.size) = z.cells.toList := by
            intro n
            induction n with
            | zero => intro k hk; exact absurd hk (Nat.not_lt_zero _)
            | succ n ih =>
              intro k hk
              simp only [List.replicate_succ, List.flatten_cons]
              have hl0 : z.cells.toList.length = te.size := by rw [hzl, e8]
              cases k with
              | zero => rw [Nat.zero_mul, List.drop_zero, <- hl0, List.take_left]
              | succ k =>
                have : (k + 1) * te.size = z.cells.toList.length + k * te.size := by rw [hl0, Nat.add_mul, Nat.one_mul, Nat.add_comm]
                rw [this, <- List.drop_drop, List.drop_left]
                exact ih k (by omega)
          obtain ⟨g1, g2, g3⟩ := KY (ab := .many true e n.toNat (c0 :: cs0)) (l := (List.replicate n.toNat z.cells.toList).flatten) hm hs hE hWn (by rw [hll]; simp only [AB.n, AB.sz, hclen])
            (fun c hc => by
              obtain ⟨q, hq1, hq2⟩ := List.mem_flatten.1 hc
              have := List.eq_of_mem_replicate hq1
              subst this
              exact hcz.2 c hq2) (fun i hi => by
              have e9 := hrow n.toNat i hi
              show VRs E.bare (rowOf (c0 :: cs0) i) (((List.replicate n.toNat z.cells.toList).flatten.drop (i * (c0 :: cs0).length)).take (c0 :: cs0).length)
              rw [hclen, e9]
              exact yg.2 ((fD.row (E := E) _ _).2 (hcr hcz.1 i)))
          have hzr : (Array.map (fun x => z.cells[x % z.cells.size]!) (Array.range (n.toNat * te.size))) = (List.replicate n.toNat z.cells.toList).flatten.toArray := by
            rw [<- hzs]
            exact Ue z.cells n.toNat (by omega)
          rw [hgx] at hx
          rw [hgy] at hy
          have hx := hx.iP
          have hy := hy.iP
          have hwrap : IntKind.i64.wrap n = n := IntWalk.i64_in n (by omega)
          have hbytes : (te.bytes:Int) * n <= 281474976710656 := by
            have h1 : (te.bytes:Int) * n <= (1000000:Int) * n := Int.mul_le_mul_of_nonneg_right (by omega) hn0
            omega
          have hrun : (Instr.makeSlice t (.int k n) (.int k' n)).run P w = .ok (.slice (some ⟨w.heap.size, 0, none⟩) n.toNat n.toNat) (w.alloc (.cells ((List.replicate n.toNat z.cells.toList).flatten.toArray) e)) := by
            unfold Instr.makeSlice
            simp only [Sem.run_bind, fM h1, Result.andThen_ok, asInt, asIntOf, Sem.run_pure, typeInfo, run_program, e2, hwrap, e4]
            rw [if_neg (by
              simp only [Bool.or_eq_true, decide_eq_true_eq, not_or]
              omega)]
            simp only [Sem.run_bind, run_askRoom, Result.andThen_ok, run_sizeOf e2, e3]
            by_cases hl0 : n.toNat * te.size = 0
            . have : n.toNat = 0 := by rcases Nat.mul_eq_zero.1 hl0 with h | h <;> omega
              rw [if_pos hl0]
              have hz0 : (Array.map (fun x => (#[] : Array Value)[x % (#[] : Array Value).size]!) (Array.range (n.toNat * te.size))) = (List.replicate n.toNat z.cells.toList).flatten.toArray := by
                rw [this]
                simp
              simp only [Sem.run_pure, Result.andThen_ok, hz0, Sem.run_bind, newRow, newObj, Sem.run]
              rfl
            . rw [if_neg hl0]
              simp only [Sem.run_bind, zeroValue, typeInfo, run_program, Result.andThen_ok, e2, Sem.run_pure, e5, hzr, newRow, newObj, Sem.run]
              rfl
          refine ⟨⟨_, _, _, _, by simp only [execOp, ho, Sem.run_bind]; rw [hx, hy, hrun]; rfl, .inl rfl, g2, g1, g3, ?_, fun b hb => Env.qJ _ _ hb, (fun hh => by simp [allocs, ho] at hh), (fun _ _ _ h => .inl h), (fun b x h => (Env.JZ (.inr (Nat.le_refl _)) b x h).imp (fun ⟨y, h⟩ => ⟨b, y, h⟩) id)⟩, by rw [cu], by simp [ho]⟩
          unfold VR
          exact .inr ⟨by simp, _, Env.add_same _ _ _, hclen, hpos, rfl, Nat.le_refl _, by simp [Bl.addr, AB.n]⟩
        . cases h
      . cases h
    . cases h
  . -- slice
    rename_i t x lo hi ho
    exact acH hm hev hT ho h hp
  . -- fieldAddr
    rename_i s x f ho
    have hx := hev x
    split at h
    . rename_i fs sz by' zv q b i j ht hg
      split at h
      . rename_i fd hfd
        split at h
        . rename_i tf htf
          split at h
          . rename_i hpos
            rw [Nat.blt_eq] at hpos
            simp only [R.val.injEq] at h
            obtain ⟨_, rfl, rfl⟩ := h
            obtain ⟨h1, _⟩ := hT.ty _ _ ht
            obtain ⟨_, info, e2, e3, _⟩ := hT.ty _ _ htf
            rw [hg] at hx
            unfold VR at hx
            obtain ⟨y, hy, hx⟩ := hx
            refine .dZ hm (u := .pointer (some (y.addr i (j + fd.offset)))) ?_ (by unfold VR; exact ⟨y, hy, rfl⟩) (by simp [ho])
            simp only [execOp, ho, Sem.run_bind, Instr.fieldAt, fM h1, Result.andThen_ok, hfd, hx, Instr.sureAddr, Sem.run_pure, fieldPlace, run_sizeOf e2, e3]
            rw [if_neg (by omega)]
            simp only [Sem.run_pure, Result.andThen_ok, addr_add]
          . cases h
        . cases h
      . cases h
    . rename_i fs sz by' zv cs j ht hg
      split at h
      . rename_i fd hfd
        split at h
        . rename_i tf htf
          split at h
          . rename_i hpos
            rw [Nat.blt_eq] at hpos
            simp only [R.val.injEq] at h
            obtain ⟨_, rfl, rfl⟩ := h
            obtain ⟨h1, _⟩ := hT.ty _ _ ht
            obtain ⟨_, info, e2, e3, _⟩ := hT.ty _ _ htf
            rw [hg] at hx
            unfold VR at hx
            obtain ⟨y, us, hx, hy⟩ := hx
            refine .dZ hm (u := .pointer (some (y.add (j + fd.offset)))) ?_ (by unfold VR; exact ⟨y, us, rfl, hy⟩) (by simp [ho])
            simp only [execOp, ho, Sem.run_bind, Instr.fieldAt, fM h1, Result.andThen_ok, hfd, hx, Instr.sureAddr, Sem.run_pure, fieldPlace, run_sizeOf e2, e3]
            rw [if_neg (by omega)]
            simp only [Sem.run_pure, Result.andThen_ok, add_add]
          . cases h
        . cases h
      . cases h
    . cases h
  . -- field
    rename_i s x f ho
    have hx := hev x
    split at h
    . rename_i fs sz by' zv cs ht hg
      split at h
      . rename_i fd hfd
        split at h
        . rename_i tf htf
          split at h
          . rename_i v' hr
            simp only [R.val.injEq] at h
            obtain ⟨_, rfl, rfl⟩ := h
            obtain ⟨h1, _⟩ := hT.ty _ _ ht
            obtain ⟨e1, info, e2, e3, _⟩ := hT.ty _ _ htf
            rw [hg] at hx
            unfold VR at hx
            obtain ⟨l, hx, hl⟩ := hx
            rcases Oa hr hl with ⟨ha, hle, hv⟩ | ⟨ha, hlt, hv⟩
            . refine .dZ hm ?_ hv (by simp [ho])
              simp only [execOp, ho, Sem.run_bind, Instr.field, fM h1, Result.andThen_ok, hfd, hx, asAgg, Sem.run_pure, part, fV e1, ha, if_true, run_sizeOf e2, e3]
              congr 3
              apply Array.ext'
              simp [List.extract_eq_drop_take']
            . refine .dZ hm ?_ hv (by simp [ho])
              simp only [execOp, ho, Sem.run_bind, Instr.field, fM h1, Result.andThen_ok, hfd, hx, asAgg, Sem.run_pure, part, fV e1, ha, Bool.false_eq_true, if_false]
              simp [hlt, List.getD]
          . cases h
        . cases h
      . cases h
    . cases h
  . -- indexAddr
    rename_i t x ix ho
    have hx := hev x
    have hi := hev ix
    unfold mP at h
    split at h
    . rename_i e sz by' zv q b n szb k z ht hgx hgi
      split at h
      . rename_i te hte
        split at h
        . rename_i hsz
          have hsz := Nat.eq_of_beq_eq_true hsz
          simp only [R.val.injEq] at h
          obtain ⟨rfl, rfl, rfl⟩ := h
          obtain ⟨h1, _⟩ := hT.ty _ _ ht
          obtain ⟨_, info, e2, e3, _⟩ := hT.ty _ _ hte
          rw [hgx] at hx
          rw [hgi] at hi
          have hi := hi.iP
          unfold VR at hx
          rcases hx with ⟨_, rfl, _⟩ | ⟨_, y, hy, g1, _, g2, g3, hx⟩
          . omega
          . refine .dZ hm (u := .pointer (some (y.addr z.toNat 0))) ?_ (by unfold VR; exact ⟨y, hy, rfl⟩) (by simp [ho])
            simp only [execOp, ho, Sem.run_bind, Instr.indexAt, fM h1, Result.andThen_ok, hx, hi, asIntOf, Sem.run_pure]
            rw [if_pos hp]
            simp only [Sem.run_bind, run_sizeOf e2, e3, Result.andThen_ok, Sem.run_pure, addr_add]
            congr 4
            unfold Bl.addr
            congr 1
            rw [g1, hsz]
            omega
        . cases h
      . cases h
    . rename_i e sz by' zv q n cols k z ht hgx hgi
      split at h
      . rename_i te hte
        split at h
        . rename_i hsz
          have hsz := Nat.eq_of_beq_eq_true hsz
          rw [jE] at hsz
          simp only [R.val.injEq] at h
          obtain ⟨rfl, rfl, rfl⟩ := h
          obtain ⟨h1, _⟩ := hT.ty _ _ ht
          obtain ⟨_, info, e2, e3, _⟩ := hT.ty _ _ hte
          rw [hgx] at hx
          rw [hgi] at hi
          have hi := hi.iP
          unfold VR at hx
          rcases hx with ⟨_, rfl, _⟩ | ⟨_, y, c, hx, g2, g3⟩
          . omega
          . obtain ⟨hsp, hne, us, u1, u4⟩ := g3 z.toNat (by omega)
            have hul := u1.length
            refine .dZ hm (u := .pointer (some ((y.add (z.toNat * te.size)).add 0))) ?_ ?_ (by simp [ho])
            . simp only [execOp, ho, Sem.run_bind, Instr.indexAt, fM h1, Result.andThen_ok, hx, hi, asIntOf, Sem.run_pure]
              rw [if_pos hp]
              simp only [Sem.run_bind, run_sizeOf e2, e3, Result.andThen_ok, Sem.run_pure, add_add, Nat.add_zero]
            . unfold VR
              refine ⟨_, us, rfl, by rw [BG hsp], (fD.row (E := E.bare) _ _).2 u1, fun q hq => ?_⟩
              rw [BG hsp]
              simp only
              rw [<- u4 q (by omega), show us.length = te.size by omega]
              congr 1
              omega
        . cases h
      . cases h
    . rename_i len e sz by' zv q b i j k z ht hgx hgi
      split at h
      . rename_i te hte
        simp only [R.val.injEq] at h
        obtain ⟨rfl, rfl, rfl⟩ := h
        obtain ⟨h1, _⟩ := hT.ty _ _ ht
        obtain ⟨_, info, e2, e3, _⟩ := hT.ty _ _ hte
        rw [hgx] at hx
        rw [hgi] at hi
        have hi := hi.iP
        unfold VR at hx
        obtain ⟨y, hy, hx⟩ := hx
        refine .dZ hm (u := .pointer (some (y.addr i (j + z.toNat * te.size)))) ?_ (by unfold VR; exact ⟨y, hy, rfl⟩) (by simp [ho])
        simp only [execOp, ho, Sem.run_bind, Instr.indexAt, fM h1, Result.andThen_ok, hx, hi, asIntOf, Sem.run_pure, Instr.sureAddr]
        rw [if_pos hp]
        simp only [Sem.run_bind, run_sizeOf e2, e3, Result.andThen_ok, Sem.run_pure, addr_add]
      . cases h
    . rename_i len e sz by' zv cs j k z ht hgx hgi
      split at h
      . rename_i te hte
        simp only [R.val.injEq] at h
        obtain ⟨rfl, rfl, rfl⟩ := h
        obtain ⟨h1, _⟩ := hT.ty _ _ ht
        obtain ⟨_, info, e2, e3, _⟩ := hT.ty _ _ hte
        rw [hgx] at hx
        rw [hgi] at hi
        have hi := hi.iP
        unfold VR at hx
        obtain ⟨y, us, hx, hy⟩ := hx
        refine .dZ hm (u := .pointer (some (y.add (j + z.toNat * te.size)))) ?_ (by unfold VR; exact ⟨y, us, rfl, hy⟩) (by simp [ho])
        simp only [execOp, ho, Sem.run_bind, Instr.indexAt, fM h1, Result.andThen_ok, hx, hi, asIntOf, Sem.run_pure, Instr.sureAddr]
        rw [if_pos hp]
        simp only [Sem.run_bind, run_sizeOf e2, e3, Result.andThen_ok, Sem.run_pure, add_add]
      . cases h
    . cases h
  . -- index
    rename_i t x ix ho
    have hx := hev x
    have hi := hev ix
    split at h
    . rename_i len e sz by' zv cs k z ht hgx hgi
      split at h
      . rename_i te hte
        split at h
        . cases h
        . rename_i hagg
          simp only [R.val.injEq] at h
          obtain ⟨rfl, rfl, rfl⟩ := h
          obtain ⟨p1, p2, p3⟩ := hp
          obtain ⟨h1, _⟩ := hT.ty _ _ ht
          obtain ⟨e1, info, e2, e3, _⟩ := hT.ty _ _ hte
          rw [hgx] at hx
          rw [hgi] at hi
          have hi := hi.iP
          unfold VR at hx
          obtain ⟨l, hx, hl⟩ := hx
          rw [jE] at p3
          have hlen := hl.length
          refine .dZ hm (u := l.getD (z.toNat * te.size) undef) ?_ (hl.get _ _) (by simp [ho])
          simp only [execOp, ho, Sem.run_bind, Instr.index, fM h1, Result.andThen_ok, hx, hi, asIntOf, Sem.run_pure]
          rw [if_pos ⟨p1, p2⟩]
          simp only [Sem.run_bind, run_sizeOf e2, e3, Result.andThen_ok, part, fV e1]
          rw [if_neg hagg]
          have : z.toNat * te.size < l.length := by omega
          simp [this, List.getD]
      . cases h
    . rename_i by' s k z ht hgx hgi
      simp only [R.val.injEq] at h
      obtain ⟨rfl, rfl, rfl⟩ := h
      obtain ⟨h1, _⟩ := hT.ty _ _ ht
      rw [hgx] at hx
      rw [hgi] at hi
      have hi := hi.iP
      unfold VR at hx
      refine .dZ hm (u := .int .u8 (qH s z.toNat)) ?_ (by unfold VR; rfl) (by simp [ho])
      simp only [execOp, ho, Sem.run_bind, hx, hi, Result.andThen_ok]
      rw [run_index_string w _ _ _ _ h1, dif_pos hp]
      have h2 : z.toNat < s.size := by obtain ⟨_, _⟩ := hp; omega
      rw [Xf]
      simp [ByteArray.getElem?_lt' s _ h2]
    . cases h
  . -- extract
    rename_i x i ho
    have hx := hev x
    split at h
    . rename_i vs hg
      split at h
      . rename_i hlt
        rw [Nat.blt_eq, jE] at hlt
        simp only [R.val.injEq] at h
        obtain ⟨_, rfl, rfl⟩ := h
        rw [hg] at hx
        unfold VR at hx
        obtain ⟨l, hx, hl⟩ := hx
        have hlen := hl.length
        refine .dZ hm (u := l.getD i undef) ?_ (hl.get _ _) (by simp [ho])
        simp only [execOp, ho, Sem.run_bind, Instr.extract, hx]
        have : i < l.length := by omega
        simp [this, List.getD]
      . cases h
    . cases h
  . -- typeAssert
    rename_i x xt asserted ok ho
    have hx := hev x
    have hzv : ∀ ti, T.ty asserted = some ti -> ∃ u, (zeroValue asserted).run P w = .ok u w /\ VR E ti.zv u := fun ti hti => by
      obtain ⟨_, info, e2, e3, e4, z, e5, e6, _⟩ := hT.ty _ _ hti
      exact ⟨z, by simp [zeroValue, typeInfo, e2, e5], e6 E⟩
    have hund : ∀ ti, T.ty asserted = some ti -> (∀ d s b z, ti ≠ ⟨.interface d, s, b, z⟩) -> ∃ d, P.underlying asserted = some d /\ ∀ ms, d ≠ .interface ms := fun ti hti hno => by
      obtain ⟨e1, _⟩ := hT.ty _ _ hti
      exact ⟨_, e1, fun ms e => by
        obtain ⟨d, s, b, z⟩ := ti
        simp only at e
        subst e
        exact hno ms s b z rfl⟩
    split at h
    . cases h
    . rename_i ti t v hno hti hg
      obtain ⟨d, e1, hd⟩ := hund ti hti (fun d s b z e => hno d s b z e)
      obtain ⟨z, hz1, hz2⟩ := hzv ti hti
      rw [hg] at hx
      unfold VR at hx
      obtain ⟨y, hx, hy⟩ := hx
      split at h
      . rename_i heq
        have heq := Nat.eq_of_beq_eq_true heq
        subst heq
        simp only [R.val.injEq] at h
        obtain ⟨_, rfl, rfl⟩ := h
        cases ok
        . refine .dZ hm (u := y) ?_ hy (by simp [ho])
          simp only [execOp, ho, Sem.run_bind, Instr.typeAssert, hx, fM e1, Result.andThen_ok]
          cases d <;> first | (exact absurd rfl (hd _)) | simp
        . refine .dZ hm (u := .tuple #[y, .bool true]) ?_ (by unfold VR; exact ⟨[y, .bool true], rfl, VRs.cons hy (VRs.cons VR.bool (VRs.nil E))⟩) (by simp [ho])
          simp only [execOp, ho, Sem.run_bind, Instr.typeAssert, hx, fM e1, Result.andThen_ok]
          cases d <;> first | (exact absurd rfl (hd _)) | simp
      . rename_i hne
        have hne : t ≠ asserted := fun e => hne (by rw [e]; exact Nat.beq_refl _)
        split at h
        . rename_i hok
          subst hok
          simp only [R.val.injEq] at h
          obtain ⟨_, rfl, rfl⟩ := h
          refine .dZ hm (u := .tuple #[z, .bool false]) ?_ (by unfold VR; exact ⟨[z, .bool false], rfl, VRs.cons hz2 (VRs.cons VR.bool (VRs.nil E))⟩) (by simp [ho])
          simp only [execOp, ho, Sem.run_bind, Instr.typeAssert, hx, fM e1, Result.andThen_ok]
          cases d <;> first | (exact absurd rfl (hd _)) | simp [hne, hz1]
        . cases h
    . rename_i ti hno hti hg
      obtain ⟨d, e1, hd⟩ := hund ti hti (fun d s b z e => hno d s b z e)
      obtain ⟨z, hz1, hz2⟩ := hzv ti hti
      rw [hg] at hx
      unfold VR at hx
      split at h
      . rename_i hok
        subst hok
        simp only [R.val.injEq] at h
        obtain ⟨_, rfl, rfl⟩ := h
        refine .dZ hm (u := .tuple #[z, .bool false]) ?_ (by unfold VR; exact ⟨[z, .bool false], rfl, VRs.cons hz2 (VRs.cons VR.bool (VRs.nil E))⟩) (by simp [ho])
        simp only [execOp, ho, Sem.run_bind, Instr.typeAssert, hx, fM e1, Result.andThen_ok]
        cases d <;> first | (exact absurd rfl (hd _)) | simp [hz1]
      . cases h
    . cases h
  . -- call
    rename_i c ho
    have hargs := vG hev c.args.toList
    have hargs' : (c.args.map a.eval) = (c.args.toList.map a.eval).toArray := by apply Array.ext'; simp
    split at h
    . rename_i hc
      split at h
      . rename_i t x hat hg
        have hat' : c.argTypes = #[t] := by apply Array.ext'; simpa using hat
        rw [hg] at hargs
        obtain ⟨u, us, hl, hu, hus⟩ := hargs.cons_inv
        have := hus.jO
        subst this
        obtain ⟨rfl, r, f1, f2⟩ := ahl (w := w) (ty0 := o.type) hT hu h
        refine .dZ hm (u := r) ?_ f2 (by simp [ho])
        simp only [execOp, ho, Sem.run_bind, resolve, hc, Sem.run_pure, Result.andThen_ok, invoke, builtin, hargs', hl, hat', f1]
      . cases h
    . rename_i hc
      split at h
      . rename_i k x r hg
        split at h
        . rename_i z hz
          simp only [R.val.injEq] at h
          obtain ⟨_, rfl, rfl⟩ := h
          rw [hg] at hargs
          obtain ⟨u, us, hl, hu, hus⟩ := hargs.cons_inv
          have hu := hu.iP
          subst hu
          have f1 := P5 (P := P) (w := w) hz hus
          refine .dZ hm (u := .int k z) ?_ VR.int (by simp [ho])
          simp only [execOp, ho, Sem.run_bind, resolve, hc, Sem.run_pure, Result.andThen_ok, invoke, builtin, hargs', hl, Builtin.max_, f1]
        . cases h
      . cases h
    . rename_i hc
      split at h
      . rename_i k x r hg
        split at h
        . rename_i z hz
          simp only [R.val.injEq] at h
          obtain ⟨_, rfl, rfl⟩ := h
          rw [hg] at hargs
          obtain ⟨u, us, hl, hu, hus⟩ := hargs.cons_inv
          have hu := hu.iP
          subst hu
          have f1 := P6 (P := P) (w := w) hz hus
          refine .dZ hm (u := .int k z) ?_ VR.int (by simp [ho])
          simp only [execOp, ho, Sem.run_bind, resolve, hc, Sem.run_pure, Result.andThen_ok, invoke, builtin, hargs', hl, Builtin.min_, f1]
        . cases h
      . cases h
    . cases h
    . cases h
    . split at h <;> cases h
    . split at h
      . split at h <;> cases h
      . cases h
  . cases h
theorem Ug {o : Oper} {st : VS} {slot : Nat} : ∀ p v m b, vop T o st slot ≠ .app p v m b := by
  have hB : ∀ op t c x y m, (∀ p v m' b, Tt T op t c x y m ≠ .app p v m' b) := by
    intro op t c x y m
    cases c <;> unfold Tt <;> intros <;> (try simp only [cond_true, cond_false]) <;> (repeat' split) <;> simp
  have hL : ∀ ti a m, (∀ p v m' b, xX ti a m ≠ .app p v m' b) := by
    intro ti a m
    unfold xX
    intros; (repeat' split) <;> simp
  have hS : ∀ ti a v m, (∀ p v' m' b, qI ti a v m ≠ .app p v' m' b) := by
    intro ti a v m
    unfold qI
    intros; (repeat' split) <;> simp
  have hU : ∀ op x m, (∀ p v m' b, vun op x m ≠ .app p v m' b) := by
    intro op x m
    unfold vun
    intros; (repeat' split) <;> simp
  have hI : ∀ t x y m, (∀ p v m' b, mP T t x y m ≠ .app p v m' b) := by
    intro t x y m
    unfold mP
    intros; (repeat' split) <;> simp
  have hN : ∀ t x m, (∀ p v m' b, Tv T t x m ≠ .app p v m' b) := by
    intro t x m
    unfold Tv
    intros; (repeat' split) <;> simp
  have hC : ∀ t x l u m, (∀ p v m' b, Ac T t x l u m ≠ .app p v m' b) := by
    intro t x l u m
    unfold Ac
    intros; (repeat' split) <;> simp
  intro p v m b h
  unfold vop at h
  split at h
  all_goals
    revert h; (repeat' split) <;> first
          | (intro h; cases h; done)
          | (intro h; exact hB _ _ _ _ _ _ _ _ _ _ h)
          | (intro h; exact hL _ _ _ _ _ _ _ h)
          | (intro h; exact hS _ _ _ _ _ _ _ _ h)
          | (intro h; exact hU _ _ _ _ _ _ _ h)
          | (intro h; exact hI _ _ _ _ _ _ _ _ h)
          | (intro h; exact hC _ _ _ _ _ _ _ _ _ h)
          | (intro h; exact hN _ _ _ _ _ _ _ h)
theorem P7 {o : Oper} {st : VS} {slot : Nat} {p : Prop} {v : AV} {m : Mem} {b : Nat} (h : gZ T o st slot = .app p v m b) : ∃ c, o.op = .call c /\ c.callee = .builtin .append /\ ∃ e te t1 x1 x2,
    (∃ d, T.ty t1 = some d /\ d.desc = .slice e) /\ nT st c.args.toList = [x1, x2] /\ T.ty e = some te /\ c.argTypes = #[t1, t1] /\ 0 < te.size /\ ad8 st.pin x1 = true /\ jM te e x1 x2 st.mem slot = .app p v m b := by
  unfold gZ at h
  split at h
  rotate_left
  . exact absurd h (Ug _ _ _ _)
  rename_i c ho
  split at h
  rotate_left
  . exact absurd h (Ug _ _ _ _)
  rename_i hc
  split at h
  rotate_left
  . cases h
  rename_i e sz by' zv s x ht hg
  split at h
  rotate_left
  . cases h
  rename_i te t1 t2 hte hat
  split at h
  rotate_left
  . cases h
  rename_i hcc
  simp only [Bool.and_eq_true, Nat.blt_eq] at hcc
  obtain ⟨heq, hpos, hpin⟩ := hcc
  have heq := Nat.eq_of_beq_eq_true heq
  subst heq
  have hat' : c.argTypes = #[t1, t1] := by apply Array.ext'; simpa using hat
  have ht1 : c.argTypes.getD 0 0 = t1 := by rw [hat']; rfl
  rw [ht1] at ht
  exact ⟨c, ho, hc, e, te, t1, s, x, ⟨_, ht, rfl⟩, hg, hte, hat', hpos, hpin, h⟩
theorem aen {te : TI} {e : TypeId} {s x : AV} {m m' : Mem} {slot pin : Nat} {p : Prop} {v : AV} {b : Nat} (h : jM te e s x m slot = .app p v m' b) (hp : ad8 pin s = true) : pin <= b := by
  unfold jM at h
  split at h
  . cases h
  . split at h
    . split at h <;> cases h
    . split at h
      . split at h
        . split at h
          . cases h; exact Nat.le_of_ble_eq_true hp
          . cases h
        . cases h
      . cases h
    . cases h
theorem aeo {te : TI} {e : TypeId} {s x : AV} {m m' : Mem} {slot : Nat} {p : Prop} {v : AV} {b : Nat} (h : jM te e s x m slot = .app p v m' b) : m'.length = m.length := by
  unfold jM at h
  split at h
  . cases h
  . split at h
    . split at h <;> cases h
    . split at h
      . split at h
        . split at h
          . cases h; exact cu _ _ _
          . cases h
        . cases h
      . cases h
    . cases h
theorem aaD (hT : kP P T) {o : Oper} {st : VS} {slot : Nat} {a : Act} (hm : bD W E st.mem w) (hev : ∀ x, VR E (st.eval x) (a.eval x)) (hW : ∀ i, w.heap.size <= i -> W i)
    (hslot : allocs o.op = true -> slot < st.mem.length /\ E.bl slot = none) {p : Prop} {v : AV} {m' : Mem} (h : gZ T o st slot = .val p v m') (hp : p) : Did P W E o a w slot st.mem v m' := by
  unfold gZ at h
  split at h
  . rename_i c ho
    have hargs := vG hev c.args.toList
    have hargs' : (c.args.map a.eval) = (c.args.toList.map a.eval).toArray := by apply Array.ext'; simp
    split at h
    . rename_i hc
      split at h
      . rename_i e sz by' zv s x ht hg
        split at h
        . rename_i te t1 t2 hte hat
          split at h
          . rename_i hcc
            simp only [Bool.and_eq_true, Nat.blt_eq] at hcc
            obtain ⟨heq, hpos, hpin⟩ := hcc
            have heq := Nat.eq_of_beq_eq_true heq
            subst heq
            have hat' : c.argTypes = #[t1, t1] := by apply Array.ext'; simpa using hat
            have ht1 : c.argTypes.getD 0 0 = t1 := by rw [hat']; rfl
            rw [ht1] at ht
            rw [hg] at hargs
            obtain ⟨us, r1, hl, hus, hr1⟩ := hargs.cons_inv
            obtain ⟨ux, r2, rfl, hux, hr2⟩ := hr1.cons_inv
            have := hr2.jO
            subst this
            obtain ⟨hs, hE⟩ := hslot (by simp [allocs, ho, hc])
            have hlen : m'.length = st.mem.length := by
              unfold jM at h
              split at h
              . cases h
              . split at h
                . split at h
                  . cases h
                  . simp only [R.val.injEq] at h; rw [<- h.2.2, cu]
                . split at h
                  . split at h
                    . (repeat' split at h) <;> cases h
                    . cases h
                  . cases h
                . cases h
            obtain ⟨E', w', u, f1, f2, f3, f4, f5, f6, f7, f8⟩ := Yr (ty0 := o.type) hT ht rfl hte hpos hm hus hux hs hE hW h hp
            refine ⟨⟨E', w', .value u, u, ?_, .inl rfl, f2, f3, f4, f5, f6, (fun hh => by simp [allocs, ho, hc] at hh), (fun _ _ _ h => .inl (by rw [f7] at h; exact h)), (fun b x h => (f8 b x h).imp (fun ⟨y, h⟩ => ⟨b, y, h⟩) id)⟩, hlen, by simp [ho]⟩
            simp only [execOp, ho, Sem.run_bind, resolve, hc, Sem.run_pure, Result.andThen_ok, invoke, builtin, hargs', hl, hat']
            rw [f1]
            rfl
          . cases h
        . cases h
      . cases h
    . exact aem hT hm hev hW hslot h hp
  . exact aem hT hm hev hW hslot h hp
theorem ahm (hT : kP P T) {o : Oper} {st : VS} {slot : Nat} {a : Act} (hm : bD W E st.mem w) (hev : ∀ x, VR E (st.eval x) (a.eval x)) (hW : ∀ i, w.heap.size <= i -> W i)
    (hslot : allocs o.op = true -> slot < st.mem.length /\ E.bl slot = none) {p : Prop} {v : AV} {m' : Mem} (h : JQ T o st slot = .val p v m') (hp : p) : Did P W E o a w slot st.mem v m' := by
  unfold JQ at h
  split at h
  . rename_i p0 v0 m0 b0 hv
    split at h
    . rename_i q b1 n s
      simp only [R.val.injEq] at h
      obtain ⟨rfl, rfl, rfl⟩ := h
      obtain ⟨c, hc1, hc2, e, te, t1, x1, x2, ht, hg, hte, hat, hpos, _, hv⟩ := P7 hv
      have hargs := vG hev c.args.toList
      have hargs' : (c.args.map a.eval) = (c.args.toList.map a.eval).toArray := by apply Array.ext'; simp
      rw [hg] at hargs
      obtain ⟨us, r1, hl, hus, hr1⟩ := hargs.cons_inv
      obtain ⟨ux, r2, rfl, hux, hr2⟩ := hr1.cons_inv
      have := hr2.jO
      subst this
      have ha : allocs o.op = true := by simp [allocs, hc1, hc2]
      obtain ⟨hs, hE⟩ := hslot ha
      obtain ⟨d, ht, hd⟩ := ht
      obtain ⟨E', w', u, f1, f2, f3, f4, f5, f6, f7, f8⟩ := ael (ty0 := o.type) hT ht hd hte hpos hm hus hux hs hE hW hv hp
      refine ⟨⟨E', w', .value u, u, ?_, .inl rfl, f2, f3, f4, f5, f6, (fun hh => by rw [ha] at hh; cases hh), (fun _ _ _ h => .inl (by rw [f7] at h; exact h)), f8⟩, ?_, by simp [hc1]⟩
      . simp only [execOp, hc1, Sem.run_bind, resolve, hc2, Sem.run_pure, Result.andThen_ok, invoke, builtin, hargs', hl, hat]
        rw [f1]
        rfl
      . have := aeo hv
        rw [cu, cu, this]
    . cases h
  . exact aaD hT hm hev hW hslot h hp
end
end Go.Ag
