import Derived.Test.YtbcegholicnflaaGreatBgM
set_option linter.unusedVariables false
set_option linter.unusedSimpArgs false
namespace Go.Ag
open Go.RowKit
def Chain (T : Tab) (Γ : wK) (all : List Oper) (sl : Nat -> Nat) : List (Nat × iG) -> VS -> VS -> Prop
  | [], st, stF => st = stF
  | (i, mi) :: r, st, stF => ∃ o st1, all[i]? = some o /\ DStep T Γ all o (sl i) st st1 mi /\ Chain T Γ all sl r st1 stF
def Wt (all : List Oper) (y x:Nat) : Prop := aS false (aS [] (rQ all []) y) x = true
def PW (all : List Oper) (x y : Nat × iG) : Prop := Wt all y.1 x.1 \/ ∀ ox oy, all[x.1]? = some ox -> all[y.1]? = some oy -> yc all ox oy = true /\ indep x.2 y.2 = true
section
variable {P : Program} {T : Tab} {Γ : wK} {all : List Oper} {sl : Nat -> Nat}
theorem Chain.bubble (hΓ : J5 P Γ) : ∀ (l1 : List (Nat × iG)) (y : Nat × iG) (l2 : List (Nat × iG)) (st stF : VS), Chain T Γ all sl (l1 ++ y :: l2) st stF ->
    (∀ x ∈ l1, ∀ ox oy, all[x.1]? = some ox -> all[y.1]? = some oy -> yc all ox oy = true /\ indep x.2 y.2 = true) -> Chain T Γ all sl (y :: (l1 ++ l2)) st stF
  | [], y, l2, st, stF, h, _ => h
  | x :: l1, y, l2, st, stF, h, ha => by
    obtain ⟨ox, st1, h1, h2, h3⟩ := h
    obtain ⟨oy, st2, g1, g2, g3⟩ := Chain.bubble hΓ l1 y l2 st1 stF h3 (fun z hz => ha z (by simp [hz]))
    obtain ⟨ha1, ha2⟩ := ha x (by simp) ox oy h1 g1
    obtain ⟨st1', k1, k2⟩ := h2.swap hΓ g2 ha1 ha2
    exact ⟨oy, st1', g1, k1, ox, st2, h1, k2, g3⟩
theorem Ae : ∀ (xs ys : List Bool) (k:Nat), aS false (BQ xs ys) k = (aS false xs k || aS false ys k)
  | [], ys, k => by simp [BQ, aS]
  | x :: xs, [], k => by simp [BQ, aS]
  | x :: xs, y :: ys, 0 => rfl
  | x :: xs, y :: ys, k + 1 => by simp only [BQ, aS]; exact Ae xs ys k
theorem Hz : ∀ (n k:Nat), aS false (Gw n) k = true -> k = n
  | 0, 0, _ => rfl
  | 0, k + 1, h => by simp [Gw, aS] at h
  | n + 1, 0, h => by simp [Gw, aS] at h
  | n + 1, k + 1, h => by simp only [Gw, aS] at h; rw [Hz n k h]
theorem yj {seen : List (List Bool)} {k : Nat} : ∀ {es : List Edge}, aS false (nZ seen es) k = true -> ∃ e ∈ es, Region.binds .any e = true /\ (k = e.on \/ aS false (aS [] seen e.on) k = true)
  | [], h => by simp [nZ, aS] at h
  | e :: es, h => by
    simp only [nZ] at h
    split at h
    . rename_i hb
      rw [Ae, Ae, Bool.or_eq_true, Bool.or_eq_true] at h
      rcases h with h | h | h
      . exact ⟨e, by simp, hb, .inl (Hz _ _ h)⟩
      . exact ⟨e, by simp, hb, .inr h⟩
      . obtain ⟨e', h1, h2⟩ := yj h
        exact ⟨e', by simp [h1], h2⟩
    . obtain ⟨e', h1, h2⟩ := yj h
      exact ⟨e', by simp [h1], h2⟩
theorem FM : ∀ (l : List Oper) (seen : List (List Bool)) (i:Nat), i < seen.length -> aS [] (rQ l seen) i = aS [] seen i
  | [], seen, i, _ => rfl
  | o :: r, seen, i, h => by
    rw [rQ, FM r _ i (by simp; omega), gy, gy]
    simp [List.getD, List.getElem?_append_left h]
theorem J7 : ∀ (l : List Oper) (seen : List (List Bool)) (j:Nat) (o : Oper), l[j]? = some o -> ∀ x, aS false (aS [] (rQ l seen) (seen.length + j)) x = true ->
    ∃ e ∈ o.after.toList, Region.binds .any e = true /\ (x = e.on \/ aS false (aS [] (rQ l seen) e.on) x = true)
  | [], seen, j, o, h, _, _ => by simp at h
  | o :: r, seen, 0, o', h, x, hx => by
    simp only [List.getElem?_cons_zero, Option.some.injEq] at h
    subst h
    have e0 : aS [] (seen ++ [nZ seen o.after.toList]) seen.length = nZ seen o.after.toList := by
      rw [gy]
      simp [List.getD]
    rw [rQ, Nat.add_zero, FM _ _ _ (by simp), e0] at hx
    obtain ⟨e, h1, h2, h3⟩ := yj hx
    refine ⟨e, h1, h2, h3.imp id fun h3 => ?_⟩
    by_cases hlt : e.on < seen.length
    . rw [rQ, FM _ _ _ (by simp; omega)]
      rw [show aS ([] : List Bool) seen e.on = seen.getD e.on [] from gy _ _ _] at h3
      rw [gy, gy]
      rw [show (seen ++ [nZ seen o.after.toList]).getD e.on [] = seen.getD e.on [] by simp [List.getD, List.getElem?_append_left hlt]]
      rw [gy] at h3
      exact h3
    . rw [show aS ([] : List Bool) seen e.on = [] from kZ _ (by omega)] at h3; simp [aS] at h3
  | o :: r, seen, j + 1, o', h, x, hx => by
    rw [rQ] at hx ⊢
    have := J7 r (seen ++ [nZ seen o.after.toList]) j o' (by simpa using h) x (by simpa [Nat.add_assoc, Nat.add_comm 1 j] using hx)
    exact this
theorem Wt.edge {y x : Nat} (h : Wt all y x) {o : Oper} (ho : all[y]? = some o) : ∃ e ∈ o.after.toList, Region.binds .any e = true /\ (x = e.on \/ Wt all e.on x) := by
  have := J7 all [] y o ho x (by simpa [Wt] using h)
  exact this
theorem Ol {i : Nat} {o : Oper} {mi : iG} : ∀ {os : List Oper} {ws : List (List Bool)} {ms : List iG}, KU all i o mi os ws ms = true ->
    os.length <= ms.length /\ ∀ j o' m', os[j]? = some o' -> ms[j]? = some m' -> (aS false (aS [] ws j) i = true \/ (yc all o o' = true /\ indep mi m' = true))
  | [], ws, ms, _ => ⟨by simp, fun j o' m' h => by simp at h⟩
  | o1 :: os, [], ms, h => by simp [KU] at h
  | o1 :: os, w :: ws, [], h => by simp [KU] at h
  | o1 :: os, w :: ws, m :: ms, h => by
    simp only [KU, Bool.and_eq_true, Bool.or_eq_true] at h
    obtain ⟨h1, h2⟩ := Ol h.2
    refine ⟨by simp; omega, fun j o' m' ho hm => ?_⟩
    cases j with
    | zero =>
      simp only [List.getElem?_cons_zero, Option.some.injEq] at ho hm
      subst ho hm
      exact h.1
    | succ j => exact h2 j o' m' (by simpa using ho) (by simpa using hm)
def numbered : Nat -> List iG -> List (Nat × iG)
  | _, [] => []
  | i, m :: ms => (i, m) :: numbered (i + 1) ms
theorem J8 : ∀ {ms : List iG} {i : Nat} {x : Nat × iG}, x ∈ numbered i ms -> i <= x.1 /\ ms[x.1 - i]? = some x.2 /\ x.1 < i + ms.length
  | [], i, x, h => by cases h
  | m :: ms, i, x, h => by
    rcases List.mem_cons.1 h with rfl | h
    . simp
    . obtain ⟨h1, h2, h3⟩ := J8 h
      refine ⟨by omega, ?_, by simp; omega⟩
      have : x.1 - i = (x.1 - (i + 1)) + 1 := by omega
      rw [this]
      simpa using h2
theorem Qa : ∀ {l : List Oper} {ws : List (List Bool)} {ms : List iG} {i : Nat}, (∀ j, l[j]? = all[i + j]?) -> (∀ j, aS [] ws j = aS [] (rQ all []) (i + j)) -> ms.length = l.length -> Gx all i l ws ms = true ->
    (numbered i ms).Pairwise (PW all)
  | [], ws, ms, i, _, _, hl, _ => by
    have : ms = [] := List.length_eq_zero_iff.1 (by simpa using hl)
    subst this
    exact List.Pairwise.nil
  | o :: os, [], ms, i, _, _, _, h => by cases ms <;> simp [Gx] at h
  | o :: os, w :: ws, [], i, _, _, _, h => by simp [Gx] at h
  | o :: os, w :: ws, m :: ms, i, hall, hws, hl, h => by
    simp only [Gx, Bool.and_eq_true] at h
    obtain ⟨_, h1⟩ := Ol h.1
    refine List.Pairwise.cons (fun y hy => ?_) (Qa (fun j => ?_) (fun j => ?_) (by simpa using hl) h.2)
    . obtain ⟨g1, g2, g3⟩ := J8 hy
      unfold PW
      by_cases hw : Wt all y.1 i
      . exact .inl hw
      . refine .inr fun ox oy hox hoy => ?_
        have e0 : all[i]? = some o := by simpa using (hall 0).symm
        rw [e0] at hox
        cases hox
        have e1 : os[y.1 - (i + 1)]? = some oy := by
          have := hall (y.1 - i)
          rw [show i + (y.1 - i) = y.1 by omega, hoy, show y.1 - i = (y.1 - (i + 1)) + 1 by omega] at this
          simpa using this
        rcases h1 _ _ _ e1 g2 with h | h
        . exfalso
          apply hw
          unfold Wt
          have := hws (y.1 - i)
          rw [show i + (y.1 - i) = y.1 by omega, show y.1 - i = (y.1 - (i + 1)) + 1 by omega] at this
          rw [<- this]
          exact h
        . exact h
    . have := hall (j + 1)
      simpa [Nat.add_assoc, Nat.add_comm 1 j] using this
    . have := hws (j + 1)
      simpa [aS, Nat.add_assoc, Nat.add_comm 1 j] using this
theorem Qb : ∀ {l : List Oper} {i : Nat}, backs i l = true -> ∀ j o, l[j]? = some o -> ∀ e ∈ o.after.toList, Region.binds .any e = true -> e.on < i + j
  | [], i, _, j, o, h => by simp at h
  | o1 :: os, i, hb, j, o, h => by
    simp only [backs, Bool.and_eq_true, List.all_eq_true] at hb
    cases j with
    | zero =>
      simp only [List.getElem?_cons_zero, Option.some.injEq] at h
      subst h
      intro e he hbi
      have := hb.1 e he
      simpa [hbi] using this
    | succ j =>
      have := Qb hb.2 j o (by simpa using h)
      intro e he hbi
      have := this e he hbi
      omega
end
section
variable {X : Cx} {E : Env} {a : Act} {w : World} {n : Nat}
theorem VS.Vb {st : VS} {t : Tmp} {b : Bool} (hv : aS .dead st.tmps t = .bool b) : st.JO t (.bool b) = st := by
  have : setAt st.tmps t (.bool b) = st.tmps := by
    rw [pR]
    rw [gy] at hv
    apply List.ext_getElem?
    intro i
    rw [List.getElem?_set]
    split
    . rename_i hi
      subst hi
      split
      . rename_i hlt
        rw [<- hv]
        simp [List.getD, hlt]
      . rename_i hlt
        rw [List.getElem?_eq_none (by omega)]
    . rfl
  unfold VS.JO
  rw [this]
theorem Qc {ops : Array Oper} {o : Oper} {st : VS} {b : Bool} (hs : SR X.C E st a w) (h : FK ops.toList o st = some b) : Region.wanted o (yielded ops a.tmps) = b := by
  unfold FK at h
  unfold Region.wanted
  cases hg : o.guard with
  | none => rw [hg] at h; cases h; rfl
  | some jw =>
    obtain ⟨j, want⟩ := jw
    simp only [hg] at h ⊢
    rw [P9] at h
    have hop : (ops.toList[j]?) = ops[j]? := by simp
    rw [hop] at h
    unfold yielded
    cases hd : (ops[j]?).bind (·.dst) with
    | none => rw [hd] at h; cases h; rfl
    | some t =>
      rw [hd] at h
      simp only at h
      split at h
      . rename_i c hb
        obtain ⟨u, hu, hv⟩ := hs.slot hb (by simp)
        have hv := hv.nU
        subst hv
        simp only [Option.bind_some, hu]
        cases h
        cases c <;> cases want <;> rfl
      . rename_i hb
        obtain ⟨u, hu, hv⟩ := hs.slot hb (by simp)
        unfold VR at hv
        obtain ⟨l, rfl, _⟩ := hv
        simp only [Option.bind_some, hu]
        cases h
        rfl
      . cases h
mutual
theorem AV.aeB {m m' : Mem} : ∀ (a : AV), a.slb = [] -> a.frz m = a.frz m'
  | .dead, _ => by unfold AV.frz; rfl
  | .int _ _, _ => by unfold AV.frz; rfl
  | .bool _, _ => by unfold AV.frz; rfl
  | .nilp, _ => by unfold AV.frz; rfl
  | .ptr e b i j, h => by
    unfold AV.frz
    cases e with
    | true => rfl
    | false => unfold AV.slb at h; cases h
  | .nils, _ => by unfold AV.frz; rfl
  | .sl q b n s, h => by unfold AV.slb at h; cases h
  | .agg cs, h => by unfold AV.frz; unfold AV.slb at h; rw [AV.Gz cs h]
  | .tup cs, h => by unfold AV.frz; unfold AV.slb at h; rw [AV.Gz cs h]
  | .ifc t a, h => by unfold AV.frz; unfold AV.slb at h; rw [AV.aeB a h]
  | .nili, _ => by unfold AV.frz; rfl
  | .fn f cap, h => by unfold AV.frz; unfold AV.slb at h; rw [AV.Gz cap h]
  | .raw _, _ => by unfold AV.frz; rfl
  | .rs _ _ _, _ => by unfold AV.frz; rfl
  | .rp _ _, _ => by unfold AV.frz; rfl
theorem AV.Gz {m m' : Mem} : ∀ (as : List AV), AV.slbs as = [] -> AV.Hf m as = AV.Hf m' as
  | [], _ => by unfold AV.Hf; rfl
  | a :: as, h => by
    unfold AV.slbs at h
    rw [List.append_eq_nil_iff] at h
    unfold AV.Hf
    rw [AV.aeB a h.1, AV.Gz as h.2]
end
theorem aeC (hX : X.OK) {ops : Array Oper} {i : Nat} {o : Oper} {slot : Nat} {st st1 : VS} {mi : iG} (hi : ops[i]? = some o) (h : DStep X.T X.Γ ops.toList o slot st st1 mi) (hs : SR X.C E st a w)
    (hsl : allocs o.op = true -> slot < st.mem.length /\ E.bl slot = none) {K : Act -> World -> Prop} {Q : Exit -> Act -> World -> Prop}
    (hn : ∀ E' a' w', SR X.C E' st1 a' w' -> st1.mem.length = st.mem.length -> (∀ b, (allocs o.op = true -> b ≠ slot) -> E'.bl b = E.bl b) -> K a' w') : wpOpIn (FW X.ρ) n X.P ops Q i K a w := by
  unfold wpOpIn
  simp only [hi]
  have hWn : ∀ i, w.heap.size <= i -> La E st.mem w i := fun i hi => .inr hi
  cases h with
  | skip hw =>
    rw [Qc hs hw]
    simp only [Bool.false_eq_true, if_false]
    exact ⟨fun f _ => aep _ f, hn E _ w (hs.skip o.dst) (by rw [put_mem]) (fun _ _ => rfl)⟩
  | @val p v m' hw hv hp =>
    rw [Qc hs hw]
    simp only [if_true]
    obtain ⟨⟨E', w', r, u, f1, f2, f3, f4, f5, f6, f7, f8, f9, f10⟩, hlen, hnd⟩ := ahm hX.tab hs.mem.tight hs.eval hWn hsl hv hp
    have hsr := hs.step (d := o.dst) f3 f4 f5 f6 f9 f10
    have hfin := hn E' _ w' hsr (by rw [put_mem]; exact hlen) (fun b hb => by
      cases ha : allocs o.op with
      | true => exact f7 b (hb ha)
      | false => rw [f8 ha])
    refine vH hnd ?_
    rw [f1]
    rcases f2 with rfl | ⟨rfl, rfl⟩
    . exact hfin
    . exact hfin
  | @call f args g p r hw hv hg hnil hgr hp =>
    rw [Qc hs hw]
    simp only [if_true]
    obtain ⟨hnd, hna, vs, hvs, hrun⟩ := Xp hX.tab hs hv
    have hspec := hX.env f
    rw [hg] at hspec
    have hnil' : AV.slbs args = [] := by
      cases h : AV.slbs args with
      | nil => rfl
      | cons x xs => rw [h] at hnil; cases hnil
    have hvs1 := VRs.frz (E' := E) hs.mem (fun _ _ _ h => h) args hvs (fun b hb => by rw [hnil'] at hb; cases hb)
    rw [AV.Gz (m' := []) args hnil'] at hvs1
    refine vH hnd ?_
    rw [hrun]
    refine Hu (hspec _ _ _ hgr hp E w vs hs.mem.ro hvs1) (fun e w' hR => ?_)
    obtain ⟨v, E', rfl, hbl, hs'⟩ := hs.called (d := o.dst) hR
    exact ⟨v, rfl, hn E' _ w' hs' (by rw [put_mem]) (fun b _ => by rw [hbl])⟩
theorem Om (hX : X.OK) {ops : Array Oper} {sl : Nat -> Nat} {stF : VS} {Q : Exit -> Act -> World -> Prop} (hback : backs 0 ops.toList = true)
    (hinj : ∀ i j oi oj, ops[i]? = some oi -> ops[j]? = some oj -> allocs oi.op = true -> allocs oj.op = true -> sl i = sl j -> i = j) (hQ : ∀ E' a' w', SR X.C E' stF a' w' -> Q .normal a' w') :
    ∀ (R : List (Nat × iG)) (listed : Array Bool) (st : VS) (E : Env) (a : Act) (w : World), Chain X.T X.Γ ops.toList sl R st stF -> R.Pairwise (PW ops.toList) -> (R.map Prod.fst).Pairwise (· < ·) -> (∀ i, i < ops.size -> (i ∈ R.map Prod.fst ↔ listed.getD i true = false)) -> listed.size = ops.size ->
      (∀ y, y < ops.size -> y ∉ R.map Prod.fst -> ∀ x, Wt ops.toList y x -> x ∉ R.map Prod.fst) -> SR X.C E st a w ->
      (∀ i o, i ∈ R.map Prod.fst -> ops[i]? = some o -> allocs o.op = true -> sl i < st.mem.length /\ E.bl (sl i) = none) -> wpAnyIn (FW X.ρ) n X.P .any ops Q R.length listed a w
  | [], listed, st, E, a, w, hc, _, _, hR, hsz, _, hs, _ => by
    have he : st = stF := hc
    subst he
    refine ⟨?_, hQ E a w hs⟩
    cases h : Region.ready .any ops listed with
    | nil => rfl
    | cons j js =>
      exfalso
      have hj : j ∈ Region.ready .any ops listed := by rw [h]; simp
      obtain ⟨h1, o, h2, _⟩ := mem_ready.1 hj
      have := (hR j (Array.getElem?_eq_some_iff.1 h2).1).2 h1
      simp at this
  | x0 :: R0, listed, st, E, a, w, hc, hp, hord, hR, hsz, hcl, hs, hal => by
    have hinR : ∀ x, x ∈ (x0 :: R0).map Prod.fst -> ∃ o, ops[x]? = some o := by
      have : ∀ (l : List (Nat × iG)) st, Chain X.T X.Γ ops.toList sl l st stF -> ∀ x, x ∈ l.map Prod.fst -> ∃ o, ops[x]? = some o := by
        intro l
        induction l with
        | nil => intro st _ x hx; simp at hx
        | cons y l ih =>
          intro st hc x hx
          obtain ⟨o, st1, h1, h2, h3⟩ := hc
          rcases List.mem_cons.1 hx with rfl | hx
          . exact ⟨o, by simpa using h1⟩
          . exact ih st1 h3 x hx
      exact this _ st hc
    have hget : ∀ e, listed.getD e false = true -> e < ops.size /\ e ∉ (x0 :: R0).map Prod.fst := by
      intro e he
      have hlt : e < listed.size := by
        rcases Nat.lt_or_ge e listed.size with h | h
        . exact h
        . simp [Array.getD, Nat.not_lt.2 h] at he
      refine ⟨by omega, fun hm => ?_⟩
      have := (hR e (by omega)).1 hm
      simp [Array.getD, hlt] at he this
      rw [this] at he
      cases he
    have hget' : ∀ e, e < ops.size -> e ∉ (x0 :: R0).map Prod.fst -> listed.getD e false = true := by
      intro e hlt hm
      have hlt' : e < listed.size := by omega
      have := mt (hR e hlt).2 hm
      simp [Array.getD, hlt'] at this ⊢
      exact this
    refine ⟨fun hr => ?_, fun i hi => ?_⟩
    . -- the first is ready
      exfalso
      obtain ⟨o, ho⟩ := hinR x0.1 (by simp)
      have : x0.1 ∈ Region.ready .any ops listed := by
        refine mem_ready.2 ⟨(hR _ (Array.getElem?_eq_some_iff.1 ho).1).1 (by simp), o, ho, fun e he hbi => ?_⟩
        have hlt := Qb hback x0.1 o (by simpa using ho) e (by simpa using he) hbi
        refine hget' e.on (by have := (Array.getElem?_eq_some_iff.1 ho).1; omega) (fun hm => ?_)
        simp only [List.map_cons] at hord hm
        rcases List.mem_cons.1 hm with h | h
        . omega
        . have := (List.pairwise_cons.1 hord).1 _ h
          omega
      rw [hr] at this
      cases this
    . obtain ⟨h1, o, h2, h3⟩ := mem_ready.1 hi
      have hilt := (Array.getElem?_eq_some_iff.1 h2).1
      have him := (hR i hilt).2 h1
      obtain ⟨y, hy, rfl⟩ := List.mem_map.1 him
      obtain ⟨l1, l2, hl⟩ := List.append_of_mem hy
      have hiw : ∀ x, Wt ops.toList y.1 x -> x ∉ (x0 :: R0).map Prod.fst := by
        intro x hx
        obtain ⟨e, he, hb, hx'⟩ := hx.edge (o := o) (by simpa using h2)
        have hl := h3 e (by simpa using he) hb
        obtain ⟨g1, g2⟩ := hget _ hl
        rcases hx' with rfl | hx'
        . exact g2
        . exact hcl e.on g1 g2 x hx'
      rw [hl] at hc hp hord hcl hal
      have hb := Chain.bubble hX.env l1 y l2 st stF hc (fun x hx => by
        have hpw := (List.pairwise_append.1 hp).2.2 x hx y (by simp)
        rcases hpw with hw | hpw
        . exact absurd (by rw [hl]; exact List.mem_map.2 ⟨x, by simp [hx], rfl⟩) (hiw x.1 hw)
        . exact hpw)
      obtain ⟨o', st1, g1, g2, g3⟩ := hb
      have : o' = o := by
        have e : ops[y.1]? = some o' := by simpa using g1
        rw [h2] at e
        exact (Option.some.inj e).symm
      subst this
      have hlen : (x0 :: R0).length = (l1 ++ l2).length + 1 := by rw [hl]; simp; omega
      have hl0 : R0.length = (l1 ++ l2).length := by simpa using hlen
      have hnodup : y.1 ∉ (l1 ++ l2).map Prod.fst := by
        intro hm
        simp only [List.map_append, List.map_cons] at hord hm
        obtain ⟨q1, q2, q3⟩ := List.pairwise_append.1 hord
        rcases List.mem_append.1 hm with h | h
        . have := q3 _ h y.1 (by simp); omega
        . have := (List.pairwise_cons.1 q2).1 _ h; omega
      have hmem : ∀ z, z ∈ (l1 ++ y :: l2).map Prod.fst ↔ z = y.1 \/ z ∈ (l1 ++ l2).map Prod.fst := by
        intro z; simp only [List.map_append, List.map_cons, List.mem_append, List.mem_cons]
        constructor
        . rintro (h | h | h)
          . exact .inr (.inl h)
          . exact .inl h
          . exact .inr (.inr h)
        . rintro (h | h | h)
          . exact .inr (.inl h)
          . exact .inl h
          . exact .inr (.inr h)
      rw [hl0]
      refine aeC hX h2 g2 hs (fun ha => hal y.1 o' ((hmem _).2 (.inl rfl)) h2 ha) (fun E' a' w' hs' hml hE' => ?_)
      refine Om hX hback hinj hQ (l1 ++ l2) (listed.setIfInBounds y.1 true) st1 E' a' w' g3 ?_ ?_ ?_ (by simpa using hsz) ?_ hs' ?_
      . exact hp.sublist (List.Sublist.append_left (List.sublist_cons_self y l2) l1)
      . exact hord.sublist (((List.Sublist.append_left (List.sublist_cons_self y l2) l1)).map _)
      . intro j hj
        by_cases hjy : j = y.1
        . subst hjy
          constructor
          . intro h; exact absurd h hnodup
          . intro h
            rw [Array.getD] at h
            simp [show y.1 < listed.size by omega] at h
        . have := hR j hj
          rw [hl, hmem] at this
          rw [getD_set_ne true (Ne.symm hjy), <- this]
          simp [hjy]
      . intro z hz hzm x hx hxm
        by_cases hzy : z = y.1
        . subst hzy
          exact hiw x hx (by rw [hl, hmem]; exact .inr hxm)
        . refine hcl z hz (by rw [hmem]; exact fun h => h.elim hzy hzm) x hx ((hmem x).2 (.inr hxm))
      . intro j oj hj hoj haj
        obtain ⟨k1, k2⟩ := hal j oj ((hmem j).2 (.inr hj)) hoj haj
        refine ⟨by rw [hml]; exact k1, ?_⟩
        rw [hE' (sl j) (fun ha hh => ?_)]
        . exact k2
        . have := hinj j y.1 oj o' hoj h2 haj ha hh
          subst this
          exact hnodup hj
termination_by R => R.length
decreasing_by rw [hlen]; omega
theorem YC {all : List Oper} {o : Oper} {st : VS} {yes no : VS -> Prop} (h : KR all o st yes no) : (FK all o st = some true /\ yes st) \/ (FK all o st = some false /\ no st) := by
  unfold KR at h
  unfold FK
  split at h
  . rename_i hg
    rw [hg]
    exact .inl ⟨rfl, h⟩
  . rename_i j want hg
    rw [hg]
    simp only
    split at h
    . rename_i hd
      rw [hd]
      exact .inr ⟨rfl, h⟩
    . rename_i t hd
      rw [hd]
      simp only
      split at h
      . rename_i b hb
        rw [hb]
        cases b with
        | true =>
          have e := VS.Vb hb
          simp only [cond_true] at h
          rw [e] at h
          cases want with
          | true => exact .inl ⟨rfl, h⟩
          | false => exact .inr ⟨rfl, h⟩
        | false =>
          have e := VS.Vb hb
          simp only [cond_false] at h
          rw [e] at h
          cases want with
          | true => exact .inr ⟨rfl, h⟩
          | false => exact .inl ⟨rfl, h⟩
      . rename_i hb
        rw [hb]
        exact .inr ⟨rfl, h⟩
      . exact h.elim
def uj (base:Nat) (all : List Oper) (i:Nat) : Nat := base + jV (all.take i)
theorem rW : ∀ (l l' : List Oper), jV (l ++ l') = jV l + jV l'
  | [], l' => by simp [jV]
  | o :: l, l' => by
    simp only [List.cons_append, jV, rW l l']
    cases allocs o.op <;> simp <;> omega
theorem acK {T : Tab} {o : Oper} {st : VS} {slot : Nat} {f : FuncId} {args : List AV} (h : JQ T o st slot = .call f args) : gZ T o st slot = .call f args := by
  unfold JQ at h
  split at h
  . split at h <;> cases h
  . exact h
theorem Xu {T : Tab} {Γ : wK} {all : List Oper} {base : Nat} {K : VS -> List iG -> Prop} : ∀ (rest : List Oper) (k slot:Nat) (st : VS) (tr : List iG), (∀ j, rest[j]? = all[k + j]?) -> slot = uj base all k -> Ua T Γ all slot rest st tr K ->
    ∃ ms stF, ms.length = rest.length /\ Chain T Γ all (uj base all) (numbered k ms) st stF /\ K stF (tr ++ ms)
  | [], k, slot, st, tr, _, _, h => ⟨[], st, rfl, rfl, by rw [List.append_nil]; exact h⟩
  | o :: rest, k, slot, st, tr, hall, hsl, h => by
    have h0 : all[k]? = some o := by simpa using (hall 0).symm
    have hrest : ∀ j, rest[j]? = all[k + 1 + j]? := fun j => by have := hall (j + 1); simpa [Nat.add_assoc, Nat.add_comm 1 j] using this
    have hsl' : cond (allocs o.op) (slot + 1) slot = uj base all (k + 1) := by
      subst hsl
      unfold uj
      rw [List.take_add_one, h0, rW]
      simp only [Option.toList, jV]
      cases allocs o.op <;> simp <;> omega
    simp only [Ua] at h
    have go : ∀ (st1 : VS) (mi : iG), DStep T Γ all o slot st st1 mi -> Ua T Γ all (cond (allocs o.op) (slot + 1) slot) rest st1 (tr ++ [mi]) K ->
        ∃ ms stF, ms.length = (o :: rest).length /\ Chain T Γ all (uj base all) (numbered k ms) st stF /\ K stF (tr ++ ms) := by
      intro st1 mi hd hv
      obtain ⟨ms, stF, g1, g2, g3⟩ := Xu rest (k + 1) _ st1 (tr ++ [mi]) hrest hsl' hv
      exact ⟨mi :: ms, stF, by simp [g1], ⟨o, st1, h0, by rw [<- hsl]; exact hd, g2⟩, by simpa using g3⟩
    rcases YC h with ⟨hw, h⟩ | ⟨hw, h⟩
    . unfold aec at h
      split at h
      . exact h.elim
      . rename_i p v m hv
        exact go _ _ (.val hw hv h.1) h.2
      . exact h.elim
      . rename_i f args hv
        split at h
        . exact h.elim
        . rename_i g hg
          cases hn : KT (AV.slbs args) with
          | false => rw [hn] at h; exact h.elim
          | true =>
            rw [hn, cond_true] at h
            split at h
            . rename_i p r hgr
              exact go _ _ (.call hw (acK hv) hg hn hgr h.1) (RT.of h.2)
            . exact h.elim
    . exact go _ _ (.skip hw) h
section
variable {P : Program} {T : Tab} {C : Ctx} {E : Env} {W : Nat -> Prop} {m : Mem} {w : World} {st : VS} {a : Act}
theorem Qd {n : Nat} : ∀ {l : List Nat}, Fe n l = true -> n ∈ l
  | [], h => by cases h
  | y :: ys, h => by
    simp only [Fe, Bool.or_eq_true] at h
    rcases h with h | h
    . rw [Nat.eq_of_beq_eq_true h]; exact List.mem_cons_self
    . exact List.mem_cons_of_mem _ (Qd h)
theorem bD.map {E2 : Env} {m2 : Mem} (hm : bD W E m w) (φ : Nat -> Nat) (F : AB -> AB) (hbl : ∀ b x, E2.bl b = some x -> E.bl (φ b) = some x /\ b < m2.length /\ aS .gone m2 b = F (aS .gone m (φ b)))
    (hinj : ∀ b b' x x', b ≠ b' -> E2.bl b = some x -> E2.bl b' = some x' -> φ b ≠ φ b') (hro : E2.ro = E.ro) (hg : ∀ ab, F ab = .gone ↔ ab = .gone) (ho : ∀ ab, (F ab).own = ab.own) (ht : ∀ ab, (F ab).ty = ab.ty) (hz : ∀ ab, (F ab).sz = ab.sz)
    (hn : ∀ ab, (F ab).n = ab.n) (hr : ∀ ab i l, VRs (ab.env E) (ab.get i) l -> VRs ((F ab).env E2) ((F ab).get i) l) : bD W E2 m2 w := by
  refine ⟨fun b x e => ?_, fun b b' x x' hne e e' hb hg' => ?_, fun b o v e => hm.ro b o v (by rw [<- hro]; exact e), fun b x e hb o => ?_⟩
  . obtain ⟨h1, h2, h3⟩ := hbl b x e
    obtain ⟨g1, g2, g3⟩ := hm.dom _ x h1
    refine ⟨h2, g2, ?_⟩
    rw [h3]
    rcases g3 with g3 | ⟨k1, k2, k3, k4, k5⟩
    . exact .inl ((hg _).2 g3)
    . refine .inr ⟨by rw [hz]; exact k1, by rw [hn]; exact k2, by rw [hn]; exact k3, fun i hi => ?_, fun hb => ?_⟩
      . rw [hn] at hi
        obtain ⟨l, l1, l2, l3, l4⟩ := k4 i hi
        exact ⟨l, hr _ _ _ l1, by rw [hz]; exact l2, l3, fun j hj => l4 j (by rw [hz] at hj; exact hj)⟩
      . rw [ho] at hb
        obtain ⟨q1, D, q2, q3⟩ := k5 hb
        exact ⟨q1, D, by rw [ht]; exact q2, by rw [hz]; exact q3⟩
  . obtain ⟨h1, _, h3⟩ := hbl b x e
    obtain ⟨h1', _, h3'⟩ := hbl b' x' e'
    rw [h3, ho] at hb
    rw [h3', ne_eq, hg] at hg'
    exact hm.inj _ _ x x' (hinj b b' x x' hne e e') h1 h1' hb hg'
  . obtain ⟨h1, _, h3⟩ := hbl b x e
    rw [h3, ho] at hb
    rw [hro]
    exact hm.apart _ x h1 hb o
mutual
theorem VR.thaw {E' : Env} {bs : List Nat} (hm : bD W E m w) (hle : ∀ b o v, E.ro b o = some v -> E'.ro b o = some v) (hb : E'.bl = E.bl) (hf : ∀ b, b ∈ bs -> Fz E E' m w b) : ∀ (a : AV) {v : Value}, VR E' a v -> VR E' (a.thaw bs m) v
  | .dead, _, _ => by unfold AV.thaw; exact VR.dead
  | .int _ n, _, hv => by unfold AV.thaw; exact hv
  | .bool b, _, hv => by unfold AV.thaw; exact hv
  | .nilp, _, hv => by unfold AV.thaw; exact hv
  | .ptr e b i j, v, hv => by
    unfold AV.thaw
    cases e with
    | true => exact hv
    | false =>
      simp only [cond_false]
      cases hmem : (Nat.beq i 0 && Fe b bs) with
      | false => exact hv
      | true =>
        rw [Bool.and_eq_true] at hmem
        have hi := Nat.eq_of_beq_eq_true hmem.1
        subst hi
        simp only [cond_true]
        split
        . rename_i o ty cs hg
          have hv0 := hv
          unfold VR at hv ⊢
          obtain ⟨x, hx, hv⟩ := hv
          rw [hb] at hx
          have hb3 := (hm.dom b x hx).2.2
          rw [hg] at hb3
          rcases hb3 with hb3 | ⟨g1, gl, gc, g2, _⟩
          . cases hb3
          . obtain ⟨l, l1, l2, l3, l4⟩ := g2 0 (by simp [AB.n])
            simp only [AB.sz, AB.env, AB.get] at l1 l2 l4
            refine ⟨⟨x.blk, 0, none⟩, l, by rw [hv]; simp only [Bl.addr, Nat.zero_mul, Nat.zero_add]; rw [Uh], rfl, VRs.tV hle cs l1, fun k hk => ?_⟩
            have := l4 k (by omega)
            rw [List.getElem?_eq_getElem hk] at this ⊢
            have h0 := hf b (Qd hmem.2) x hx (by rw [hg]; simp) _ _ this
            show E'.ro x.blk (0 + k) = _
            rw [Nat.zero_add]
            simpa [Bl.addr] using h0
        . exact hv
  | .nils, _, hv => by unfold AV.thaw; exact hv
  | .nili, _, hv => by unfold AV.thaw; exact hv
  | .raw _, _, hv => by unfold AV.thaw; exact hv
  | .rs _ _ _, _, hv => by unfold AV.thaw; exact hv
  | .rp _ _, _, hv => by unfold AV.thaw; exact hv
  | .sl q b n s, v, hv => by
    unfold AV.thaw
    cases hmem : Fe b bs with
    | false => exact hv
    | true =>
      simp only [cond_true]
      split
      . rename_i o ty n' g hg
        unfold VR at *
        rcases hv with ⟨h0, hn, hv⟩ | ⟨h0, x, hx, hs, hs0, hl, hc, hv⟩
        . exact .inl ⟨h0, hn, hv⟩
        . refine .inr ⟨h0, _, _, hv, hc, fun k hk => ?_⟩
          rw [hb] at hx
          have hb3 := (hm.dom b x hx).2.2
          rw [hg] at hb3
          rcases hb3 with hb3 | ⟨g1, gl, gc, g2, _⟩
          . cases hb3
          . simp only [AB.sz, AB.n] at g1 gl
            obtain ⟨l, l1, l2, l3, l4⟩ := g2 k (by simp only [AB.n]; omega)
            simp only [AB.sz, AB.env, AB.get] at l1 l2 l4
            refine ⟨rfl, by rintro rfl; simp at g1; omega, l, fD.mono hle _ _ ((fD.row (E := E.bare) _ _).1 l1), fun j hj => ?_⟩
            have := l4 j (by omega)
            rw [List.getElem?_eq_getElem hj] at this ⊢
            have h0 := hf b (Qd hmem) x hx (by rw [hg]; simp) _ _ this
            simp only [Bl.addr, Nat.zero_mul, Nat.zero_add, Nat.add_zero] at h0 ⊢
            rw [l2, <- g1]
            exact h0
      . exact hv
  | .agg cs, _, hv => by
    unfold AV.thaw; unfold VR at *
    obtain ⟨l, hv, hl⟩ := hv
    exact ⟨l, hv, VRs.thaw hm hle hb hf cs hl⟩
  | .tup cs, _, hv => by
    unfold AV.thaw; unfold VR at *
    obtain ⟨l, hv, hl⟩ := hv
    exact ⟨l, hv, VRs.thaw hm hle hb hf cs hl⟩
  | .fn f cap, _, hv => by
    unfold AV.thaw; unfold VR at *
    obtain ⟨l, hv, hl⟩ := hv
    exact ⟨l, hv, VRs.thaw hm hle hb hf cap hl⟩
  | .ifc t a, _, hv => by
    unfold AV.thaw; unfold VR at *
    obtain ⟨y, hv, hy⟩ := hv
    exact ⟨y, hv, VR.thaw hm hle hb hf a hy⟩
theorem VRs.thaw {E' : Env} {bs : List Nat} (hm : bD W E m w) (hle : ∀ b o v, E.ro b o = some v -> E'.ro b o = some v) (hb : E'.bl = E.bl) (hf : ∀ b, b ∈ bs -> Fz E E' m w b) : ∀ (as : List AV) {l : List Value}, VRs E' as l -> VRs E' (AV.EX bs m as) l
  | [], _, hl => by unfold AV.EX; exact hl
  | a :: as, _, hl => by
    unfold AV.EX
    unfold VRs at *
    obtain ⟨v, vs, hl, h1, h2⟩ := hl
    exact ⟨v, vs, hl, VR.thaw hm hle hb hf a h1, VRs.thaw hm hle hb hf as h2⟩
end
theorem AV.Uk (bs : List Nat) (m : Mem) : ∀ as, (AV.EX bs m as).length = as.length
  | [] => by unfold AV.EX; rfl
  | a :: as => by unfold AV.EX; simp [AV.Uk bs m as]
theorem Ul (bs : List Nat) (m : Mem) : ∀ as, (N8 bs m as).length = as.length
  | [] => rfl
  | a :: as => by unfold N8; simp [Ul bs m as]
theorem Um (bs : List Nat) (m : Mem) : ∀ as b, aS .gone (N8 bs m as) b = (aS .gone as b).thaw bs m
  | [], b => by simp [N8, aS, AB.thaw]
  | a :: as, 0 => rfl
  | a :: as, b + 1 => by simp only [N8, aS]; exact Um bs m as b
theorem SR.thaw (hs : SR C E st a w) (bs : List Nat) : ∃ E' : Env, E'.bl = E.bl /\ SR C E' (st.freeze bs) a w := by
  cases bs with
  | nil => exact ⟨E, rfl, hs⟩
  | cons b0 bs0 =>
    obtain ⟨E', h1, h2, h3, h4, h5⟩ := hs.froze (b0 :: bs0)
    refine ⟨E', h2, VRs.thaw hs.mem h1.ro h2 h4 _ h3.tmps, ?_, h3.keep, h3.ext, h3.low, h3.nb, h3.df, h3.pin, h3.low', h3.no⟩
    refine h3.mem.map (E2 := E') id (AB.thaw (b0 :: bs0) st.mem) (fun b x e => ⟨e, ?_, ?_⟩) (fun b b' _ _ hne _ _ => hne) rfl ?_ ?_ ?_ ?_ ?_ ?_
    . show b < (N8 _ _ _).length
      rw [Ul]
      exact (h3.mem.dom b x e).1
    . exact Um _ _ _ _
    . intro ab; cases ab <;> simp [AB.thaw]
    . intro ab; cases ab <;> rfl
    . intro ab; cases ab <;> rfl
    . intro ab; cases ab <;> simp [AB.thaw, AB.sz, AV.Uk]
    . intro ab; cases ab <;> rfl
    . intro ab i l hl
      cases ab with
      | gone => exact hl
      | one o t cs => exact VRs.thaw hs.mem h1.ro h2 h4 _ hl
      | many o t n c => exact hl
def Env.mv (E : Env) (s b:Nat) : Env := ⟨fun c => if c = s then none else if c = b then E.bl s else E.bl c, E.ro⟩
mutual
theorem VR.mv {s b : Nat} (hne : s ≠ b) : ∀ (a : AV) {v : Value}, VR E a v -> VR (E.mv s b) (a.mv s b) v
  | .dead, _, _ => by unfold AV.mv; exact VR.dead
  | .int _ n, _, hv => by unfold AV.mv; unfold VR at *; exact hv
  | .bool b, _, hv => by unfold AV.mv; unfold VR at *; exact hv
  | .nilp, _, hv => by unfold AV.mv; unfold VR at *; exact hv
  | .nils, _, hv => by unfold AV.mv; unfold VR at *; exact hv
  | .nili, _, hv => by unfold AV.mv; unfold VR at *; exact hv
  | .raw _, _, hv => by unfold AV.mv; unfold VR at *; exact hv
  | .rs _ _ _, _, hv => by unfold AV.mv; unfold VR at *; exact hv
  | .rp _ _, _, hv => by unfold AV.mv; unfold VR at *; exact hv
  | .ptr e b' i j, _, hv => by
    unfold AV.mv
    cases h1 : Nat.beq b' s with
    | true =>
      have := Nat.eq_of_beq_eq_true h1
      subst this
      unfold VR at hv
      simp only [cond_true]
      unfold VR Env.mv
      simp only [if_neg (Ne.symm hne), if_true]
      exact hv
    | false =>
      cases h2 : Nat.beq b' b with
      | true => exact VR.dead
      | false =>
        have e1 : b' ≠ s := fun e => by subst e; rw [Nat.beq_refl] at h1; cases h1
        have e2 : b' ≠ b := fun e => by subst e; rw [Nat.beq_refl] at h2; cases h2
        unfold VR at hv
        simp only [cond_false]
        unfold VR Env.mv
        simp only [if_neg e1, if_neg e2]
        exact hv
  | .sl q b' n z, _, hv => by
    unfold AV.mv
    cases h1 : Nat.beq b' s with
    | true =>
      have := Nat.eq_of_beq_eq_true h1
      subst this
      unfold VR at hv
      simp only [cond_true]
      unfold VR Env.mv
      simp only [if_neg (Ne.symm hne), if_true]
      exact hv
    | false =>
      cases h2 : Nat.beq b' b with
      | true => exact VR.dead
      | false =>
        have e1 : b' ≠ s := fun e => by subst e; rw [Nat.beq_refl] at h1; cases h1
        have e2 : b' ≠ b := fun e => by subst e; rw [Nat.beq_refl] at h2; cases h2
        unfold VR at hv
        simp only [cond_false]
        unfold VR Env.mv
        simp only [if_neg e1, if_neg e2]
        exact hv
  | .agg cs, _, hv => by
    unfold AV.mv; unfold VR at *
    obtain ⟨l, hv, hl⟩ := hv
    exact ⟨l, hv, VRs.mv hne cs hl⟩
  | .tup cs, _, hv => by
    unfold AV.mv; unfold VR at *
    obtain ⟨l, hv, hl⟩ := hv
    exact ⟨l, hv, VRs.mv hne cs hl⟩
  | .fn f cap, _, hv => by
    unfold AV.mv; unfold VR at *
    obtain ⟨l, hv, hl⟩ := hv
    exact ⟨l, hv, VRs.mv hne cap hl⟩
  | .ifc t a, _, hv => by
    unfold AV.mv; unfold VR at *
    obtain ⟨y, hv, hy⟩ := hv
    exact ⟨y, hv, VR.mv hne a hy⟩
theorem VRs.mv {s b : Nat} (hne : s ≠ b) : ∀ (as : List AV) {l : List Value}, VRs E as l -> VRs (E.mv s b) (AV.mvs s b as) l
  | [], _, hl => by unfold AV.mvs; unfold VRs at *; exact hl
  | a :: as, _, hl => by
    unfold AV.mvs
    unfold VRs at *
    obtain ⟨v, vs, hl, h1, h2⟩ := hl
    exact ⟨v, vs, hl, VR.mv hne a h1, VRs.mv hne as h2⟩
end
theorem AV.aaG (s b:Nat) : ∀ as, (AV.mvs s b as).length = as.length
  | [] => by unfold AV.mvs; rfl
  | a :: as => by unfold AV.mvs; simp [AV.aaG s b as]
theorem aaH (s b:Nat) : ∀ as, (mvM s b as).length = as.length
  | [] => rfl
  | a :: as => by unfold mvM; simp [aaH s b as]
theorem aaI (s b:Nat) : ∀ as c, aS .gone (mvM s b as) c = (aS .gone as c).mv s b
  | [], c => by simp [mvM, aS, AB.mv]
  | a :: as, 0 => rfl
  | a :: as, c + 1 => by simp only [mvM, aS]; exact aaI s b as c
theorem SR.mv (hs : SR C E st a w) {s b : Nat} (hlt : b < s) (hp : st.pin <= b) : SR C (E.mv s b) (st.mv s b) a w := by
  have hne : s ≠ b := by omega
  have key : ∀ c x, (E.mv s b).bl c = some x -> c ≠ s /\ E.bl (if c = b then s else c) = some x := by
    intro c x e
    unfold Env.mv at e
    simp only at e
    split at e
    . cases e
    . rename_i hc
      refine ⟨hc, ?_⟩
      split at e
      . rename_i hb; rw [if_pos hb]; exact e
      . rename_i hb; rw [if_neg hb]; exact e
  refine ⟨VRs.mv hne _ hs.tmps, ?_, hs.keep, hs.ext, hs.low, fun c x e => hs.nb _ x (key c x e).2, hs.df, ⟨fun c x e => ?_, fun b o v e => hs.pin.ro b o v e⟩, hs.low', hs.no⟩
  rotate_left
  . have h1 := hs.low' c x e
    have h2 := hs.pin.bl c x e
    show (if c = s then none else if c = b then E.bl s else E.bl c) = some x
    rw [if_neg (by omega), if_neg (by omega)]
    exact h2
  refine hs.mem.map (E2 := E.mv s b) (fun c => if c = b then s else c) (AB.mv s b) (fun c x e => ⟨(key c x e).2, ?_, ?_⟩) (fun c c' x x' hcc e e' => ?_) rfl ?_ ?_ ?_ ?_ ?_ ?_
  . show c < (mvM _ _ _).length
    rw [aaH, cu, cu]
    have := (hs.mem.dom _ x (key c x e).2).1
    split at this <;> omega
  . show aS .gone (mvM _ _ _) c = _
    rw [aaI]
    congr 1
    have h1 := (key c x e).1
    rw [aP _ _ _ (Ne.symm h1)]
    by_cases hc : c = b
    . subst hc
      have := (hs.mem.dom _ x (key c x e).2).1
      rw [if_pos rfl] at this
      rw [bV _ _ (by omega), if_pos rfl]
    . rw [aP _ _ _ (Ne.symm hc), if_neg hc]
  . have h1 := (key c x e).1
    have h2 := (key c' x' e').1
    split <;> split <;> omega
  . intro ab; cases ab <;> simp [AB.mv]
  . intro ab; cases ab <;> rfl
  . intro ab; cases ab <;> rfl
  . intro ab; cases ab <;> simp [AB.mv, AB.sz, AV.aaG]
  . intro ab; cases ab <;> rfl
  . intro ab i l hl
    cases ab with
    | gone => unfold AB.mv; simp only [AB.env, AB.get] at *; unfold VRs at *; exact hl
    | one o t cs => exact VRs.mv hne _ hl
    | many o t n c => exact hl
theorem SR.Hq : ∀ (tr : List iG) {E : Env} {st : VS}, SR C E st a w -> ∃ E', SR C E' (Hq tr st) a w
  | [], E, st, h => ⟨E, h⟩
  | mi :: tr, E, st, h => by
    cases mi with
    | app b s =>
      unfold Ag.Hq
      cases hb : (Nat.blt b s && Nat.ble st.pin b) with
      | false => exact SR.Hq tr h
      | true =>
        rw [Bool.and_eq_true] at hb
        exact SR.Hq tr (h.mv (by simpa using hb.1) (Nat.le_of_ble_eq_true hb.2))
    | _ => exact SR.Hq tr h
end
theorem aeD (hX : X.OK) {id : Nat} {ops : Array Oper} {st : VS} {K : VS -> Prop} (h : aee X.T X.Γ ops.toList st K) : Tr X (.region id ops true) st (fun e s => e = .normal /\ K s) := by
  intro n E0 a w hs0
  refine wpIn_region_any hX.tab.mixed ?_
  obtain ⟨E, _, hs⟩ := hs0.thaw (UZ st ops.toList ops.toList)
  unfold aee at h
  generalize st.freeze (UZ st ops.toList ops.toList) = st at h hs
  obtain ⟨ms, stF, h1, h2, h3, h4⟩ := Xu (base := jJ st.mem) ops.toList 0 (jJ st.mem) _ [] (by simp) (by simp [uj, jV]) h
  simp only [List.nil_append] at h3
  unfold aeb at h3
  rw [Bool.and_eq_true] at h3
  have hlen : (numbered 0 ms).length = ops.size := by
    have : ∀ (l : List iG) k, (numbered k l).length = l.length := by
      intro l
      induction l with
      | nil => intro k; rfl
      | cons x l ih => intro k; simp [numbered, ih]
    rw [this, h1, Array.length_toList]
  have hfst : ∀ (l : List iG) k, (numbered k l).map Prod.fst = List.range' k l.length := by
    intro l
    induction l with
    | nil => intro k; rfl
    | cons x l ih => intro k; simp [numbered, ih, List.range'_succ]
  have hms : ms.length = ops.size := by rw [h1, Array.length_toList]
  have hmono : ∀ i j (oi : Oper), i < j -> ops[i]? = some oi -> allocs oi.op = true -> uj (jJ st.mem) ops.toList i < uj (jJ st.mem) ops.toList j := by
    intro i j oi hij hoi hai
    unfold uj
    have : ops.toList.take j = ops.toList.take (i + 1) ++ (ops.toList.take j).drop (i + 1) := by
      conv => lhs; rw [<- List.take_append_drop (i + 1) (ops.toList.take j), List.take_take, Nat.min_eq_left (by omega)]
    rw [this, rW, List.take_add_one, rW]
    have e0 : ops.toList[i]? = some oi := by simpa using hoi
    rw [e0]
    simp only [Option.toList, jV, hai, cond_true]
    omega
  have := Om (n := n) hX (ops := ops) (sl := uj (jJ st.mem) ops.toList) (stF := stF) (Q := fun e a' w' => ∃ E' st', (e = .normal /\ K st') /\ SR X.C E' st' a' w') h3.1
    (fun i j oi oj hi hj hai haj he => by
      rcases Nat.lt_trichotomy i j with h | h | h
      . have := hmono i j oi h hi hai; omega
      . exact h
      . have := hmono j i oj h hj haj; omega)
    (fun E' a' w' hs' => (SR.Hq ms hs').elim fun E2 hs2 => ⟨E2, _, ⟨rfl, h4⟩, hs2⟩) (numbered 0 ms) (Array.replicate ops.size false) _ E a { w with drawn := w.drawn + 1 } h2
    (Qa (by simp) (by simp) (by rw [h1]) h3.2) (by rw [hfst]; exact List.pairwise_lt_range')
    (fun i hi => by rw [hfst]; simp [Array.getD, hi, List.mem_range', hms])
    (by simp) (fun y hy hym => by rw [hfst, List.mem_range'] at hym; exact absurd ⟨y, by omega, by omega⟩ hym) ((hs.extend _).drew)
    (fun i o hi ho ha => by
      have hlt : uj (jJ st.mem) ops.toList i < jJ st.mem + jV ops.toList := by
        have h1 := hmono i (ops.size) o (Array.getElem?_eq_some_iff.1 ho).1 ho ha
        unfold uj at h1 ⊢
        rwa [List.take_of_length_le (i := ops.size) (by simp)] at h1
      refine ⟨by rw [Gy, List.length_append, List.length_replicate, <- jE]; exact hlt, hs.aev _ _ (by unfold uj; omega) hlt⟩)
  rw [hlen] at this
  exact this
end
end Go.Ag
