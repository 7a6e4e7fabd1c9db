import Derived.Test.YtbcegholicnflaaGreatBgD
set_option linter.unusedVariables false
set_option linter.unusedSimpArgs false
namespace Go.Ag
open Go.RowKit
theorem Xj (us : List Value) : ∀ (l : List Value) (j q:Nat), j + us.length <= l.length ->
    (us.zipIdx.foldl (fun cs (x : Value × Nat) => cs.set (j + x.2) x.1) l)[q]? = if j <= q /\ q < j + us.length then us[q - j]? else l[q]? := by
  have e : ∀ (us : List Value) (n j:Nat) (l : List Value), (us.zipIdx (n + 1)).foldl (fun cs (x : Value × Nat) => cs.set (j + x.2) x.1) l = (us.zipIdx n).foldl (fun cs (x : Value × Nat) => cs.set (j + 1 + x.2) x.1) l := by
    intro us
    induction us with
    | nil => intro n j l; rfl
    | cons c us ih =>
      intro n j l
      simp only [List.zipIdx_cons, List.foldl_cons]
      rw [ih]
      congr 2
      omega
  induction us with
  | nil => intro l j q _; rw [if_neg (by simp only [List.length_nil]; omega)]; rfl
  | cons u us ih =>
    intro l j q hl
    simp only [List.length_cons] at hl
    simp only [List.zipIdx_cons, List.foldl_cons, Nat.add_zero, List.length_cons]
    rw [Nat.zero_add, e us 0 j, ih _ (j + 1) q (by simp; omega)]
    by_cases h1 : j + 1 <= q /\ q < j + 1 + us.length
    . rw [if_pos h1, if_pos (by omega), show q - j = (q - (j + 1)) + 1 by omega, List.getElem?_cons_succ]
    . rw [if_neg h1]
      by_cases hq : q = j
      . subst hq
        rw [if_pos (by omega), Nat.sub_self, List.getElem?_set_self (by omega)]
        rfl
      . rw [if_neg (by omega), List.getElem?_set]
        simp [Ne.symm hq]
theorem Ob (us : List Value) : ∀ (l : List Value) (j:Nat), (∀ c ∈ l, c.oneCell' = true) -> (∀ c ∈ us, c.oneCell' = true) ->
    ∀ c ∈ us.zipIdx.foldl (fun cs (x : Value × Nat) => cs.set (j + x.2) x.1) l, c.oneCell' = true := by
  intro l j hl hu
  have : ∀ (z : List (Value × Nat)) (l : List Value), (∀ c ∈ l, c.oneCell' = true) -> (∀ x ∈ z, x.1.oneCell' = true) -> ∀ c ∈ z.foldl (fun cs (x : Value × Nat) => cs.set (j + x.2) x.1) l, c.oneCell' = true := by
    intro z
    induction z with
    | nil => intro l hl _; exact hl
    | cons x z ih =>
      intro l hl hz
      refine ih _ (fun c hc => ?_) (fun y hy => hz y (by simp [hy]))
      rcases List.mem_or_eq_of_mem_set hc with h | h
      . exact hl c h
      . rw [h]; exact hz x (by simp)
  refine this _ l hl (fun x hx => ?_)
  have := List.mem_zipIdx hx
  exact hu _ (by rw [this.2.2]; exact List.getElem_mem _)
theorem PZ (z : List (Value × Nat)) : ∀ (l : List Value) (j:Nat), (z.foldl (fun cs (x : Value × Nat) => cs.set (j + x.2) x.1) l).length = l.length := by
  induction z with
  | nil => intro l j; rfl
  | cons x z ih => intro l j; rw [List.foldl_cons, ih]; simp
theorem U4 (l us : List Value) (o p:Nat) (h : o + us.length <= l.length) :
    (l.take o ++ us ++ l.drop (o + us.length))[p]? = if o <= p /\ p < o + us.length then us[p - o]? else l[p]? := by
  simp only [List.getElem?_append, List.length_append, List.length_take, List.getElem?_take, List.getElem?_drop]
  have hm : min o l.length = o := by omega
  rw [hm]
  by_cases h1 : p < o
  . rw [if_pos (by omega), if_pos h1, if_pos h1, if_neg (by omega)]
  . by_cases h2 : p < o + us.length
    . rw [if_pos h2, if_neg h1, if_pos (by omega)]
    . rw [if_neg h2, if_neg (by omega)]
      congr 1
      omega
section
variable {P : Program} {T : Tab} {E : Env} {W : Nat -> Prop} {m : Mem} {w : World}
theorem Oc (W : Nat -> Prop) (w : World) (g:Nat) (c : Array Value) (h : W g) : Keep W w (w.setRow g c) := by
  refine ⟨rfl, rfl, rfl, by simp [World.setRow], fun i _ hn => ?_⟩
  have : g ≠ i := fun e => hn (by rw [<- e]; exact h)
  simp [World.setRow, Array.getElem?_modify, this]
theorem setRow_other (w : World) (g:Nat) (c : Array Value) (i:Nat) (h : i ≠ g) : (w.setRow g c).heap[i]? = w.heap[i]? := by
  simp [World.setRow, Array.getElem?_modify, Ne.symm h]
theorem setRow_size (w : World) (g:Nat) (c : Array Value) : (w.setRow g c).heap.size = w.heap.size := by simp [World.setRow]
theorem acE {x : Bl} {i j : Nat} {ty : TypeId} {C : Array Value} {us : List Value} (hC : w.heap[x.blk]? = some (.cells C ty (0, 0))) (hle : i * x.sz + j + us.length <= C.size)
    (h1 : ∀ v ∈ us, v.oneCell' = true) :
    ∃ C' : Array Value, (storeCells (x.addr i j) us).run P w = .ok () (w.setRow x.blk C') /\ C'.size = C.size /\ (w.setRow x.blk C').heap[x.blk]? = some (.cells C' ty (0, 0)) /\
      ∀ p, C'[p]? = if i * x.sz + j <= p /\ p < i * x.sz + j + us.length then us[p - (i * x.sz + j)]? else C[p]? := by
  refine ⟨(C.toList.take (i * x.sz + j) ++ us ++ C.toList.drop (i * x.sz + j + us.length)).toArray, ?_, ?_, ?_, ?_⟩
  . have := run_storeCells_at (P := P) x.blk (i * x.sz + j) ty us 0 C w hC (by omega) h1
    rw [Nat.add_zero] at this
    rw [<- this]
    unfold Bl.addr
    rfl
  . simp; omega
  . exact setRow_heap w x.blk C _ ty _ hC
  . intro p
    rw [List.getElem?_toArray, U4 _ _ _ _ (by simpa using hle)]
    simp
theorem kD {w : World} {x : Bl} {C : Array Value} {ty : TypeId} {f : Nat × Nat} (h : w.heap[x.blk]? = some (.cells C ty f)) (i j:Nat) : w.cell? (x.addr i j) = C[i * x.sz + j]? := by
  simp [World.cell?, Bl.addr, h]
theorem acF {a b s j q k : Nat} (hab : a ≠ b) (hq : q < s) (hj : j + k <= s) : ¬ (a * s + j <= b * s + q /\ b * s + q < a * s + j + k) := by
  rcases Nat.lt_or_gt_of_ne hab with h | h
  . have : (a + 1) * s <= b * s := Nat.mul_le_mul_right s h
    rw [Nat.add_mul, Nat.one_mul] at this
    omega
  . have : (b + 1) * s <= a * s := Nat.mul_le_mul_right s h
    rw [Nat.add_mul, Nat.one_mul] at this
    omega
theorem gU : ∀ (vs cells : List AV) (j:Nat), (Ag.setCells cells j vs).length = cells.length
  | [], cells, j => by simp [Ag.setCells]
  | v :: vs, cells, j => by simp [Ag.setCells, gU vs, cu]
theorem Ad.store {x : Bl} {ab ab' : AB} {i j : Nat} {us : List Value} (h : Ad W E x ab w) (ho : ab.own = true) (hi : i < ab.n) (hj : j + us.length <= ab.sz)
    (h1 : ∀ v ∈ us, v.oneCell' = true) (hty : ab'.ty = ab.ty) (hsz : ab'.sz = ab.sz) (hn : ab'.n = ab.n) (henv : ab'.env E = ab.env E)
    (hget : ∀ k, k < ab.n -> k ≠ i -> ∀ l, VRs (ab.env E) (ab.get k) l -> VRs (ab.env E) (ab'.get k) l)
    (hgeti : ∀ l, VRs (ab.env E) (ab.get i) l -> VRs (ab.env E) (ab'.get i) (us.zipIdx.foldl (fun cs (x : Value × Nat) => cs.set (j + x.2) x.1) l)) :
    ∃ w', (storeCells (x.addr i j) us).run P w = .ok () w' /\ Keep W w w' /\ w'.heap.size = w.heap.size /\ (∀ k, k ≠ x.blk -> w'.heap[k]? = w.heap[k]?) /\ Ad W E x ab' w' := by
  rcases h with rfl | ⟨g1, gl, gc, g2, g3⟩
  . cases ho
  . obtain ⟨o1, C, o4, o5⟩ := g3 ho
    have hrow : ∀ k, k < ab.n -> (k + 1) * x.sz <= C.size := fun k hk => by
      rw [o5, g1]
      exact Nat.mul_le_mul_right _ (by omega)
    have hri := hrow i hi
    rw [Nat.add_mul, Nat.one_mul] at hri
    obtain ⟨C', s1, s2, s3, s4⟩ := acE (P := P) (i := i) (j := j) (us := us) o4 (by omega) h1
    refine ⟨_, s1, Oc W w _ _ o1, setRow_size _ _ _, fun k hk => setRow_other w _ _ k hk, .inr ⟨by rw [hsz]; exact g1, by rw [hn]; exact gl, by rw [hn]; exact gc, ?_, fun _ => ⟨o1, C', by rw [hty]; exact s3, by rw [hsz, s2]; exact o5⟩⟩⟩
    intro k hk
    rw [hn] at hk
    rw [henv]
    obtain ⟨l, l1, l2, lo, l3⟩ := g2 k hk
    by_cases hki : k = i
    . subst hki
      refine ⟨_, hgeti l l1, ?_, Ob us l j lo h1, ?_⟩
      . rw [hsz, <- l2]
        exact PZ _ _ _
      . intro q hq
        rw [hsz] at hq
        rw [kD s3, s4, Xj _ _ _ _ (by omega), <- l3 q hq, kD o4]
        by_cases hc : j <= q /\ q < j + us.length
        . rw [if_pos (by omega), if_pos hc]
          congr 1
          omega
        . rw [if_neg (by omega), if_neg hc]
    . refine ⟨l, hget k hk hki l l1, by rw [hsz]; exact l2, lo, fun q hq => ?_⟩
      rw [hsz] at hq
      rw [kD s3, s4, if_neg (acF (Ne.symm hki) (by rw [g1]; exact hq) (by omega)), <- l3 q hq, kD o4]
theorem acG {t : TypeId} {ti : TI} (hT : kP P T) (ht : T.ty t = some ti) (hm : bD W E m w) {a v0 : AV} {ua uv : Value} (ha : VR E a ua) (hv : VR E v0 uv) {p : Prop} {v : AV} {m' : Mem}
    (h : qI ti a v0 m = .val p v m') (hp : p) : v = .tup [] /\ ∃ w', (Instr.storeAt t ua uv).run P w = .ok () w' /\ bD W E m' w' /\ Keep W w w' := by
  unfold qI at h
  split at h
  . rename_i e b i j vs hvs
    split at h
    . rename_i hsz
      have hsz := Nat.eq_of_beq_eq_true hsz
      rw [jE] at hsz
      unfold VR at ha
      obtain ⟨x, hx, rfl⟩ := ha
      obtain ⟨hb1, hb2, hb3⟩ := hm.dom b x hx
      obtain ⟨hcs, hone⟩ := lC hvs hv
      obtain ⟨h1, info, h2, h3, h4, _⟩ := hT.ty t ti ht
      have hlen := hcs.length
      have hrun : (Instr.storeAt t (.pointer (some (x.addr i j))) uv).run P w = (storeCells (x.addr i j) uv.cells.toList).run P w := by
        simp only [Instr.storeAt, Instr.sureAddr, pure_bind, storeVar, Sem.run_bind, Sem.run_pure, run_sizeOf h2, Result.andThen_ok, h3]
        rw [if_neg (by rw [<- Array.length_toList, hlen, hsz]; simp)]
      rw [hrun]
      generalize uv.cells.toList = us at *
      split at h
      . rename_i ty cells hg
        have ho : (aS .gone m b).own = true := by rw [hg]; rfl
        split at h
        . rename_i hij
          simp only [Bool.and_eq_true, Nat.ble_eq, jE] at hij
          obtain ⟨hi0, hij⟩ := hij
          have hi0 := Nat.eq_of_beq_eq_true hi0
          subst hi0
          simp only [R.val.injEq] at h
          obtain ⟨_, rfl, rfl⟩ := h
          refine ⟨rfl, ?_⟩
          obtain ⟨w', r1, r2, r3, r4, r5⟩ := hb3.store (P := P) (ab' := .one true ty (Ag.setCells cells j vs)) (i := 0) (j := j) ho (by rw [hg]; exact Nat.one_pos) (by rw [hg]; simp only [AB.sz]; omega) hone (by rw [hg]; rfl)
            (by rw [hg]; simp [AB.sz, gU]) (by rw [hg]; rfl) (by rw [hg]; rfl) (fun k hk hk0 => by rw [hg] at hk; simp only [AB.n] at hk; omega) (fun l hl => by rw [hg] at hl ⊢; exact hl.setCells j hcs)
          exact ⟨w', r1, hm.turn hx ho (by omega) (fun k _ hk => r4 k hk) r5, r2⟩
        . cases h
      . rename_i ty n cols hg
        have ho : (aS .gone m b).own = true := by rw [hg]; rfl
        split at h
        . rename_i hle
          rw [Nat.ble_eq, jE, jE] at hle
          split at h
          . rename_i cols' hu
            simp only [R.val.injEq] at h
            obtain ⟨rfl, rfl, rfl⟩ := h
            refine ⟨rfl, ?_⟩
            obtain ⟨u1, u2⟩ := Ib (E := E) hu
            obtain ⟨w', r1, r2, r3, r4, r5⟩ := hb3.store (P := P) (ab' := .many true ty n cols') (i := i) (j := j) ho (by rw [hg]; exact hp) (by rw [hg]; simp only [AB.sz]; omega) hone (by rw [hg]; rfl)
              (by rw [hg]; exact u1) (by rw [hg]; rfl) (by rw [hg]; rfl) (fun k hk hki l hl => by rw [hg] at hl ⊢; exact (yg.2 ((fD.row (E := E) _ _).2 (u2 k l hki ((fD.row (E := E) _ _).1 (yg.1 hl))))))
              (fun l hl => by rw [hg] at hl ⊢; exact (yg.2 ((fD.row (E := E) _ _).2 (aef hu (.inl (by omega)) ((fD.row (E := E) _ _).1 (yg.1 hl)) hcs))))
            exact ⟨w', r1, hm.turn hx ho (by omega) (fun k _ hk => r4 k hk) r5, r2⟩
          . cases h
        . cases h
      . cases h
    . cases h
  . cases h
theorem bD.JX (hm : bD W E m w) {k : Nat} (hk : w.heap.size <= k) (o:Nat) : E.ro k o = none := by
  cases h : E.ro k o with
  | none => rfl
  | some v => have := (hm.ro _ _ _ h).1; omega
theorem KY {slot : Nat} {ab : AB} {l : List Value} (hm : bD W E m w) (hs : slot < m.length) (hE : E.bl slot = none) (hW : W w.heap.size)
    (hsize : l.length = ab.n * ab.sz) (hone : ∀ c ∈ l, c.oneCell' = true) (hread : ∀ i, i < ab.n -> VRs (ab.env E) (ab.get i) ((l.drop (i * ab.sz)).take ab.sz)) :
    bD W (E.add slot ⟨w.heap.size, ab.n, ab.sz, ab.n⟩) (setAt m slot ab) (w.alloc (.cells l.toArray ab.ty)) /\ E.le (E.add slot ⟨w.heap.size, ab.n, ab.sz, ab.n⟩) /\ Keep W w (w.alloc (.cells l.toArray ab.ty)) := by
  refine ⟨(hm.alloc _).new hs hE (fun b y e _ => ?_) (hm.JX (Nat.le_refl _)) (by simp) (.inr ⟨rfl, rfl, Nat.le_refl _, fun i hi => ?_, fun _ => ⟨hW, l.toArray, ?_, by simpa using hsize⟩⟩), Env.PV _ hE, Keep.alloc W w _⟩
  . have := (hm.dom b y e).2.1
    exact fun e2 => by simp only at e2; omega
  . refine ⟨_, VRs.mono (AB.aei (Env.PV _ hE) ab) _ (hread i hi), ?_, fun c hc => hone c (List.mem_of_mem_drop (List.mem_of_mem_take hc)), fun j hj => ?_⟩
    . have : (i + 1) * ab.sz <= l.length := by rw [hsize]; exact Nat.mul_le_mul_right _ (by omega)
      rw [Nat.add_mul, Nat.one_mul] at this
      simp
      omega
    . simp only [Bl.addr]
      rw [World.cell?_alloc_new, List.getElem?_take_of_lt hj, List.getElem?_drop]
      simp
  . show (w.heap.push _)[w.heap.size]? = _
    simp
end
end Go.Ag
