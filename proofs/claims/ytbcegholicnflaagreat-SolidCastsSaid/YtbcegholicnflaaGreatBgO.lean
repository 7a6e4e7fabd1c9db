import Derived.Test.YtbcegholicnflaaGreatBgN
set_option linter.unusedVariables false
set_option linter.unusedSimpArgs false
namespace Go.Ag
open Go.RowKit
def eThen (k : VS -> Prop) (Q : Exit -> VS -> Prop) (e : Exit) (s : VS) : Prop :=
  match e with
  | .normal => k s
  | .exit id => Q (.exit id) s
  | .goto l => Q (.goto l) s
  | .ret => Q .ret s
  | .panic c => Q (.panic c) s
  | .outgrown => Q .outgrown s
def eBlock (id : Nat) (Q : Exit -> VS -> Prop) (e : Exit) (s : VS) : Prop :=
  match e with
  | .exit i => cond (Nat.beq i id) (Q .normal s) (Q (.exit i) s)
  | .normal => Q .normal s
  | .goto l => Q (.goto l) s
  | .ret => Q .ret s
  | .panic c => Q (.panic c) s
  | .outgrown => Q .outgrown s
def VS.setO (st : VS) (c : Operand) (b : Bool) : VS :=
  match c with
  | .tmp t => st.setT t (.bool b)
  | _ => st
def nLoops : Code -> Nat
  | .seq a b => nLoops a + nLoops b
  | .cond _ a b => nLoops a + nLoops b
  | .block _ c => nLoops c
  | .scope c => nLoops c
  | .skip => 0
  | .label _ => 0
  | .region .. => 0
  | .exit _ => 0
  | .ret => 0
  | _ => 1
def loopAt : Code -> Nat -> Code
  | .seq a b, k => cond (Nat.blt k (nLoops a)) (loopAt a k) (loopAt b (k - nLoops a))
  | .cond _ a b, k => cond (Nat.blt k (nLoops a)) (loopAt a k) (loopAt b (k - nLoops a))
  | .block _ c, k => loopAt c k
  | .scope c, k => loopAt c k
  | c, _ => c
def lbody : Code -> Code
  | .loop c => c
  | .rangeFunc _ _ _ c => c
  | c => c
def lasn : Code -> Code
  | .rangeFunc _ _ a _ => a
  | c => c
def eScope (Q : Exit -> VS -> Prop) : Exit -> VS -> Prop
  | .goto _, _ => False
  | e, s => Q e s
noncomputable def vwp (T : Tab) (Γ : Env0) (tr : Nat -> VS -> (Exit -> VS -> Prop) -> Prop) : Nat -> Code -> VS -> (Exit -> VS -> Prop) -> Prop
  | _, .skip, st, Q => Q .normal st
  | _, .label _, st, Q => Q .normal st
  | _, .region _ ops d, st, Q => cond d (vdraw T Γ ops.toList st (Q .normal)) (vregion T Γ ops.toList st (Q .normal))
  | k, .seq a b, st, Q => vwp T Γ tr k a st (eThen (fun s => vwp T Γ tr (k + nLoops a) b s Q) Q)
  | k, .cond c a b, st, Q =>
    match st.eval c with
    | .bool t => cond t (vwp T Γ tr k a (st.setO c true) Q) (vwp T Γ tr (k + nLoops a) b (st.setO c false) Q)
    | _ => False
  | k, .block id c, st, Q => vwp T Γ tr k c st (eBlock id Q)
  | k, .scope c, st, Q => vwp T Γ tr k c st (eScope Q)
  | _, .exit id, st, Q => Q (.exit id) st
  | _, .ret, st, Q => Q .ret st
  | k, _, st, Q => tr k st Q
section
variable {X : Cx} {st : VS} {Q : Exit -> VS -> Prop}
theorem Tr.seq {a b : Code} (h : Tr X a st (eThen (fun s => Tr X b s Q) Q)) : Tr X (.seq a b) st Q := by
  intro n E x w hs
  refine wpIn_seq (wpIn_mono (h n E x w hs) fun e a' w' ⟨E', st', q, r⟩ => ?_)
  cases e with
  | normal => exact q n E' a' w' r
  | exit id => exact ⟨E', st', q, r⟩
  | goto l => exact ⟨E', st', q, r⟩
  | ret => exact ⟨E', st', q, r⟩
  | panic c => exact ⟨E', st', q, r⟩
  | outgrown => exact ⟨E', st', q, r⟩
theorem stepR_scope {P : Program} {b : Frame} {a : Act} {k : List Item} {cs : List Frame} {w : World} {c : Code} : step P (lone (b.atR a (.code (.scope c) :: k)) cs w) = .next (lone (b.atR a (.code c :: .inScope c :: k)) cs w) :=
  step_lone_go (by simp [stepG, stepG.exec, Frame.atR])
theorem stepR_inScope {P : Program} {b : Frame} {a : Act} {k : List Item} {cs : List Frame} {w : World} {c : Code} : step P (lone (b.atR a (.inScope c :: k)) cs w) = .next (lone (b.atR a k) cs w) :=
  step_lone_go (by simp [stepG, stepG.exec, Frame.atR])
theorem wpIn_scope {F : Fence} {n : Nat} {P : Program} {Q : Exit -> Act -> World -> Prop} {a : Act} {w : World} {c : Code} (h : c.wpIn F n P (fun e a w => match e with | .goto _ => False | e => Q e a w) a w) : (Code.scope c).wpIn F n P Q a w := by
  intro b k cs hro hb hr
  have h0 : (lone (b.atR a (.code (.scope c) :: k)) cs w).fenced P F := fenced_calm hb hr rfl
  obtain ⟨e, a₁, w₁, hq, harr⟩ := h b (.inScope c :: k) cs hro hb hr
  cases e with
  | normal => exact ⟨.normal, a₁, w₁, hq, .head h0 stepR_scope (StepsIn.trans harr (.one (fenced_calm hb hr rfl) stepR_inScope))⟩
  | exit id =>
    have hx : exitTo id (.inScope c :: k) = exitTo id k := by simp [exitTo]
    exact ⟨.exit id, a₁, w₁, hq, fun k' hk => .head h0 stepR_scope (harr.1 k' (by rw [hx]; exact hk)),
      fun hr' hk => let ⟨k₁, h1, h2⟩ := harr.2 hr' (by rw [hx]; exact hk); ⟨k₁, h1, .head h0 stepR_scope h2⟩⟩
  | goto l => exact hq.elim
  | ret => exact ⟨_, a₁, w₁, hq, .of_steps (.one h0 stepR_scope) harr⟩
  | panic ch => exact ⟨_, a₁, w₁, hq, .of_steps (.one h0 stepR_scope) harr⟩
  | outgrown => exact ⟨_, a₁, w₁, hq, .of_steps (.one h0 stepR_scope) harr⟩
theorem Tr.scope {c : Code} (h : Tr X c st (eScope Q)) : Tr X (.scope c) st Q := by
  intro n E x w hs
  refine wpIn_scope (wpIn_mono (h n E x w hs) fun e a' w' ⟨E', st', q, r⟩ => ?_)
  cases e with
  | normal => exact ⟨E', st', q, r⟩
  | exit id => exact ⟨E', st', q, r⟩
  | goto l => exact q.elim
  | ret => exact ⟨E', st', q, r⟩
  | panic c => exact ⟨E', st', q, r⟩
  | outgrown => exact ⟨E', st', q, r⟩
theorem Tr.block {id : Nat} {c : Code} (h : Tr X c st (eBlock id Q)) : Tr X (.block id c) st Q := by
  intro n E x w hs
  refine wpIn_block (wpIn_mono (h n E x w hs) fun e a' w' ⟨E', st', q, r⟩ => ?_)
  cases e with
  | normal => exact ⟨E', st', q, r⟩
  | exit i =>
    unfold Exit.inBlock
    simp only [eBlock] at q
    by_cases hi : i = id
    · subst hi
      rw [Nat.beq_refl] at q
      simp only [if_true]
      exact ⟨E', st', q, r⟩
    · rw [beq_of_ne hi] at q
      simp only [hi, if_false]
      exact ⟨E', st', q, r⟩
  | goto l => exact ⟨E', st', q, r⟩
  | ret => exact ⟨E', st', q, r⟩
  | panic c => exact ⟨E', st', q, r⟩
  | outgrown => exact ⟨E', st', q, r⟩
theorem VS.setO_eq {c : Operand} {b : Bool} (h : st.eval c = .bool b) : st.setO c b = st := by
  cases c with
  | tmp t => exact VS.setT_eq h
  | _ => rfl
theorem blt_t {a b : Nat} (h : a < b) : Nat.blt a b = true := by simpa using h
theorem blt_f {a b : Nat} (h : b <= a) : Nat.blt a b = false := by
  cases hh : Nat.blt a b with
  | false => rfl
  | true => rw [Nat.blt_eq] at hh; omega
theorem vwp_ok' (hX : X.OK) {tr : Nat -> VS -> (Exit -> VS -> Prop) -> Prop} : ∀ (c : Code) (k : Nat) (st : VS) (Q : Exit -> VS -> Prop), (∀ j, j < nLoops c -> ∀ st Q, tr (k + j) st Q -> Tr X (loopAt c j) st Q) ->
    vwp X.T X.Γ tr k c st Q -> Tr X c st Q
  | .skip, k, st, Q, ht, h => fun n E a w hs => wpIn_skip ⟨E, st, h, hs⟩
  | .label _, k, st, Q, ht, h => fun n E a w hs => wpIn_label ⟨E, st, h, hs⟩
  | .region id ops d, k, st, Q, ht, h => by
    cases d with
    | true => exact (vdraw_ok hX h).mono fun e s hh => by rw [hh.1]; exact hh.2
    | false => exact (vregion_ok hX h).mono fun e s hh => by rw [hh.1]; exact hh.2
  | .seq a b, k, st, Q, ht, h => by
    have ha : ∀ j, j < nLoops a -> ∀ st Q, tr (k + j) st Q -> Tr X (loopAt a j) st Q := fun j hj st Q hh => by
      have := ht j (by simp only [nLoops]; omega) st Q hh
      simpa [loopAt, blt_t hj] using this
    have hb : ∀ j, j < nLoops b -> ∀ st Q, tr (k + nLoops a + j) st Q -> Tr X (loopAt b j) st Q := fun j hj st Q hh => by
      have := ht (nLoops a + j) (by simp only [nLoops]; omega) st Q (by rw [← Nat.add_assoc]; exact hh)
      simpa [loopAt, blt_f (Nat.le_add_right (nLoops a) j)] using this
    exact Tr.seq ((vwp_ok' hX a k st _ ha h).mono fun e s q => by
      cases e with
      | normal => exact vwp_ok' hX b _ s Q hb q
      | exit id => exact q
      | goto l => exact q
      | ret => exact q
      | panic c => exact q
      | outgrown => exact q)
  | .cond c x y, k, st, Q, ht, h => by
    have hx' : ∀ j, j < nLoops x -> ∀ st Q, tr (k + j) st Q -> Tr X (loopAt x j) st Q := fun j hj st Q hh => by
      have := ht j (by simp only [nLoops]; omega) st Q hh
      simpa [loopAt, blt_t hj] using this
    have hy' : ∀ j, j < nLoops y -> ∀ st Q, tr (k + nLoops x + j) st Q -> Tr X (loopAt y j) st Q := fun j hj st Q hh => by
      have := ht (nLoops x + j) (by simp only [nLoops]; omega) st Q (by rw [← Nat.add_assoc]; exact hh)
      simpa [loopAt, blt_f (Nat.le_add_right (nLoops x) j)] using this
    unfold vwp at h
    split at h
    · rename_i t ht
      have hx := vwp_ok' hX (tr := tr) x
      have hy := vwp_ok' hX (tr := tr) y
      intro n E a w hs
      have hv := hs.eval c
      rw [ht] at hv
      have hv := hv.bool_inv
      cases t with
      | true => rw [VS.setO_eq ht] at h; exact wpIn_cond_true hv (hx _ st Q hx' h n E a w hs)
      | false => rw [VS.setO_eq ht] at h; exact wpIn_cond_false hv (hy _ st Q hy' h n E a w hs)
    · exact h.elim
  | .block id c, k, st, Q, ht, h => Tr.block (vwp_ok' hX c k st _ ht h)
  | .exit id, k, st, Q, ht, h => fun n E a w hs => wpIn_exit ⟨E, st, h, hs⟩
  | .ret, k, st, Q, ht, h => fun n E a w hs => wpIn_ret ⟨E, st, h, hs⟩
  | .loop _, k, _, _, ht, h => ht 0 (by simp [nLoops]) _ _ h
  | .rangeFunc .., k, _, _, ht, h => ht 0 (by simp [nLoops]) _ _ h
  | .scope c, k, st, Q, ht, h => Tr.scope (vwp_ok' hX c k st _ ht h)
  | .goto _, k, _, _, ht, h => ht 0 (by simp [nLoops]) _ _ h
  | .refuse _, k, _, _, ht, h => ht 0 (by simp [nLoops]) _ _ h
theorem TrK_ex : ∃ f : Cx -> Code -> Nat -> VS -> (Exit -> VS -> Prop) -> Prop, f = fun X b k st Q => Tr X (loopAt b k) st Q := ⟨_, rfl⟩
noncomputable def TrK : Cx -> Code -> Nat -> VS -> (Exit -> VS -> Prop) -> Prop := Classical.choose TrK_ex
theorem TrK_eq : TrK = fun X b k st Q => Tr X (loopAt b k) st Q := Classical.choose_spec TrK_ex
theorem vwp_ok (hX : X.OK) {T : Tab} {Γ : Env0} (hT : X.T = T) (hΓ : X.Γ = Γ) {b c : Code} (hb : b = c) (h : vwp T Γ (TrK X b) 0 c st Q) : Tr X b st Q := by
  subst hb hT hΓ
  exact vwp_ok' hX b 0 st Q (fun j _ st Q hh => by rw [TrK_eq, Nat.zero_add] at hh; exact hh) h
theorem TrK.loop {b : Code} {k : Nat} {ι : Type} (hb : loopAt b k = .loop (lbody (loopAt b k))) (S : ι -> VS) (μ : ι -> Nat) (i₀ : ι) (h₀ : Ref X.C st (S i₀)) (h : ∀ i, Tr X (lbody (loopAt b k)) (S i) (RoundQ X.C S μ i Q)) : TrK X b k st Q := by
  rw [TrK_eq]
  show Tr X (loopAt b k) st Q
  rw [hb]
  exact Tr.loop S μ i₀ h₀ h
end
mutual
def AV.under (p : Nat -> Prop) : AV -> Prop
  | .ptr _ b _ _ => p b
  | .sl _ b _ _ => p b
  | .agg cs => AV.unders p cs
  | .tup cs => AV.unders p cs
  | .ifc _ a => a.under p
  | .fn _ cap => AV.unders p cap
  | .dead => True
  | .int _ _ => True
  | .bool _ => True
  | .nilp => True
  | .nils => True
  | .nili => True
  | .raw _ => True
  | .rs _ _ _ => True
  | .rp _ _ => True
def AV.unders (p : Nat -> Prop) : List AV -> Prop
  | [] => True
  | a :: as => a.under p /\ AV.unders p as
end
def fitT (p : Nat -> Prop) : List AV -> List AV -> Prop
  | [], [] => True
  | x :: xs, y :: ys => (match y with | .dead => True | y => x = y /\ y.under p) /\ fitT p xs ys
  | _, _ => False
def AB.underA (p : Nat -> Prop) : AB -> Prop
  | .gone => True
  | .one _ _ cs => AV.unders p cs
  | .many _ _ _ _ => True
def fitM (p : Nat -> Prop) : Mem -> Mem -> Prop
  | _, [] => True
  | x :: xs, y :: ys => (match y with | .gone => True | y => x = y /\ y.underA p) /\ fitM p xs ys
  | [], _ :: _ => False
def fits (s s2 : VS) : Prop :=
  fitT (fun b => b < s2.mem.length) s.tmps s2.tmps /\ fitM (fun b => b < s2.mem.length) s.mem s2.mem /\ s.df = s2.df /\ s.pin = s2.pin /\ s2.pin <= s2.mem.length
def Env.cut (E : Env) (n : Nat) : Env := ⟨fun b => if b < n then E.bl b else none, E.ro⟩
theorem Env.cut_some {E : Env} {n b : Nat} {x : Bl} (h : (E.cut n).bl b = some x) : b < n /\ E.bl b = some x := by
  unfold Env.cut at h
  simp only at h
  split at h
  · exact ⟨by assumption, h⟩
  · cases h
mutual
theorem VR.cut {E : Env} {n : Nat} : ∀ (a : AV) {v : Value}, a.under (fun b => b < n) -> VR E a v -> VR (E.cut n) a v
  | .dead, _, _, hv => by unfold VR; trivial
  | .int k n, _, _, hv => by unfold VR at *; exact hv
  | .bool b, _, _, hv => by unfold VR at *; exact hv
  | .nilp, _, _, hv => by unfold VR at *; exact hv
  | .ptr e b i j, _, hu, hv => by
    unfold VR at *
    unfold AV.under at hu
    obtain ⟨x, hx, hv⟩ := hv
    exact ⟨x, by unfold Env.cut; simp [hu, hx], hv⟩
  | .nils, _, _, hv => by unfold VR at *; exact hv
  | .sl q b m s, _, hu, hv => by
    unfold VR at *
    unfold AV.under at hu
    rcases hv with hv | ⟨hq, x, hx, hv⟩
    · exact .inl hv
    · exact .inr ⟨hq, x, by unfold Env.cut; simp [hu, hx], hv⟩
  | .agg cs, _, hu, hv => by
    unfold VR at *
    unfold AV.under at hu
    obtain ⟨l, hv, hl⟩ := hv
    exact ⟨l, hv, VRs.cut cs hu hl⟩
  | .tup cs, _, hu, hv => by
    unfold VR at *
    unfold AV.under at hu
    obtain ⟨l, hv, hl⟩ := hv
    exact ⟨l, hv, VRs.cut cs hu hl⟩
  | .ifc t a, _, hu, hv => by
    unfold VR at *
    unfold AV.under at hu
    obtain ⟨y, hv, hy⟩ := hv
    exact ⟨y, hv, VR.cut a hu hy⟩
  | .nili, _, _, hv => by unfold VR at *; exact hv
  | .fn f cap, _, hu, hv => by
    unfold VR at *
    unfold AV.under at hu
    obtain ⟨l, hv, hl⟩ := hv
    exact ⟨l, hv, VRs.cut cap hu hl⟩
  | .raw u, _, _, hv => by unfold VR at *; exact hv
  | .rs q m cols, _, _, hv => VR.rs_mono (E := E) (E' := E.cut n) (fun _ _ _ h => h) hv
  | .rp cs j, _, _, hv => VR.rp_mono (E := E) (E' := E.cut n) (fun _ _ _ h => h) hv
theorem VRs.cut {E : Env} {n : Nat} : ∀ (as : List AV) {l : List Value}, AV.unders (fun b => b < n) as -> VRs E as l -> VRs (E.cut n) as l
  | [], _, _, hl => hl.nil_inv ▸ VRs.nil _
  | a :: as, _, hu, hl => by
    unfold AV.unders at hu
    obtain ⟨v, vs, rfl, h1, h2⟩ := hl.cons_inv
    exact VRs.cons (VR.cut a hu.1 h1) (VRs.cut as hu.2 h2)
end
theorem fitT_ok {E : Env} {n : Nat} : ∀ {xs ys : List AV} {l : List Value}, fitT (fun b => b < n) xs ys -> VRs E xs l -> VRs (E.cut n) ys l
  | [], [], l, _, h => by have := h.nil_inv; subst this; exact VRs.nil _
  | x :: xs, y :: ys, l, hf, h => by
    obtain ⟨v, vs, rfl, h1, h2⟩ := h.cons_inv
    unfold fitT at hf
    refine VRs.cons ?_ (fitT_ok hf.2 h2)
    have hf1 := hf.1
    split at hf1
    · unfold VR; trivial
    · obtain ⟨rfl, hu⟩ := hf1
      exact VR.cut _ hu h1
  | [], y :: ys, l, hf, h => by unfold fitT at hf; exact hf.elim
  | x :: xs, [], l, hf, h => by unfold fitT at hf; exact hf.elim
theorem fitM_at {p : Nat -> Prop} : ∀ {m m2 : Mem}, fitM p m m2 -> ∀ b, b < m2.length -> (getAt .gone m2 b = .gone ∨ (getAt .gone m b = getAt .gone m2 b /\ (getAt .gone m2 b).underA p)) /\ b < m.length
  | _, [], _, b, hb => by simp at hb
  | [], _ :: _, h, _, _ => by unfold fitM at h; exact h.elim
  | x :: xs, y :: ys, h, b, hb => by
    unfold fitM at h
    cases b with
    | zero =>
      refine ⟨?_, by simp⟩
      have h1 := h.1
      split at h1
      · exact .inl rfl
      · exact .inr ⟨h1.1, h1.2⟩
    | succ b =>
      obtain ⟨h1, h2⟩ := fitM_at h.2 b (by simpa using hb)
      exact ⟨h1, by simpa using h2⟩
theorem Ref.fits {C : Ctx} {s s2 : VS} (h : fits s s2) : Ref C s s2 := by
  intro E a w hs
  obtain ⟨h1, h2, h5, h6, h7⟩ := h
  refine ⟨E.cut s2.mem.length, fitT_ok h1 hs.tmps, ⟨fun b x e => ?_, fun b b' x x' hne e e' ho hg => ?_, hs.mem.ro, fun b x e ho o => ?_⟩, hs.keep, hs.ext, hs.low, fun b x e => hs.nb b x (Env.cut_some e).2, by rw [← h5]; exact hs.df, ⟨fun b x e => ?_, fun b o v e => hs.pin.ro b o v e⟩, fun b x e => by rw [← h6]; exact hs.low' b x e, hs.no⟩
  rotate_right
  · have h8 := hs.low' b x e
    have h9 := hs.pin.bl b x e
    unfold Env.cut
    simp only
    rw [if_pos (by omega)]
    exact h9
  · obtain ⟨hb, e⟩ := Env.cut_some e
    obtain ⟨g1, g2, g3⟩ := hs.mem.dom b x e
    refine ⟨hb, g2, ?_⟩
    rcases (fitM_at h2 b hb).1 with hg | ⟨hg, hu⟩
    · rw [hg]; exact .inl rfl
    · rw [← hg] at hu ⊢
      rcases g3 with g3 | ⟨q1, ql, qc, q2, q3⟩
      · exact .inl g3
      · refine .inr ⟨q1, ql, qc, fun i hi => ?_, q3⟩
        obtain ⟨l, s1, s2', s3, s4⟩ := q2 i hi
        refine ⟨l, ?_, s2', s3, s4⟩
        revert hu hi s1
        cases getAt .gone s.mem b with
        | gone => intro _ hi; simp [AB.n] at hi
        | one o ty cs => intro hu _ s1; exact VRs.cut _ hu s1
        | many o ty n g => intro _ _ s1; exact s1
  · obtain ⟨hb, e⟩ := Env.cut_some e
    obtain ⟨hb', e'⟩ := Env.cut_some e'
    rcases (fitM_at h2 b hb).1 with hgb | ⟨hgb, _⟩
    · rw [hgb] at ho; cases ho
    · rcases (fitM_at h2 b' hb').1 with hgb' | ⟨hgb', _⟩
      · exact absurd hgb' hg
      · rw [← hgb] at ho
        rw [← hgb'] at hg
        exact hs.mem.inj b b' x x' hne e e' ho hg
  · obtain ⟨hb, e⟩ := Env.cut_some e
    rcases (fitM_at h2 b hb).1 with hgb | ⟨hgb, _⟩
    · rw [hgb] at ho; cases ho
    · rw [← hgb] at ho
      exact hs.mem.apart b x e ho o
inductive Pos where
  | t (i : Nat)
  | tc (i j : Nat)
  | m (b j : Nat)
structure Cv where
  p : Pos
  e : TypeId
  cols : List CF
def newSl (m : Mem) (c : List CF) : AV := .sl (some true) (lenN m) 0 (lenN c)
def isNils : AV -> Bool
  | .nils => true
  | _ => false
def conv (st : VS) (c : Cv) : VS :=
  match c.p with
  | .t i => cond (isNils (getAt .dead st.tmps i)) ⟨setAt st.tmps i (newSl st.mem c.cols), st.mem ++ [.many true c.e 0 c.cols], st.df, st.pin⟩ st
  | .tc i j => match getAt .dead st.tmps i with
    | .agg cs => cond (isNils (getAt .dead cs j)) ⟨setAt st.tmps i (.agg (setAt cs j (newSl st.mem c.cols))), st.mem ++ [.many true c.e 0 c.cols], st.df, st.pin⟩ st
    | _ => st
  | .m b j => match getAt .gone st.mem b with
    | .one o t cs => cond (isNils (getAt .dead cs j)) ⟨st.tmps, setAt st.mem b (.one o t (setAt cs j (newSl st.mem c.cols))) ++ [.many true c.e 0 c.cols], st.df, st.pin⟩ st
    | _ => st
def convs (st : VS) : List Cv -> VS
  | [] => st
  | c :: cs => convs (conv st c) cs
theorem isNils_eq {a : AV} (h : isNils a = true) : a = .nils := by cases a <;> simp [isNils] at h ⊢
theorem VRs.upd {E : Env} {x : AV} : ∀ {xs : List AV} {l : List Value} (i : Nat), VRs E xs l -> (∀ v, VR E (getAt .dead xs i) v -> VR E x v) -> VRs E (setAt xs i x) l
  | [], l, i, h, _ => by simpa [setAt] using h
  | y :: ys, l, 0, h, hx => by
    obtain ⟨v, vs, rfl, h1, h2⟩ := h.cons_inv
    exact VRs.cons (hx v h1) h2
  | y :: ys, l, i + 1, h, hx => by
    obtain ⟨v, vs, rfl, h1, h2⟩ := h.cons_inv
    exact VRs.cons h1 (VRs.upd i h2 hx)
theorem VR.newSl {E : Env} {a : AV} (ha : isNils a = true) {m : Mem} {c : List CF} (v : Value) (h : VR E a v) : VR E (Ag.newSl m c) v := by
  rw [isNils_eq ha] at h
  unfold VR at h
  unfold Ag.newSl VR
  exact .inl ⟨by simp, rfl, h⟩
theorem conv_sr {C : Ctx} {E : Env} {st : VS} {a : Act} {w : World} (hs : SR C E st a w) (c : Cv) : SR C E (conv st c) a w := by
  unfold conv
  split
  · rename_i i hp
    cases hn : isNils (getAt .dead st.tmps i) with
    | false => exact hs
    | true => exact ⟨hs.tmps.upd i (VR.newSl hn), hs.mem.more _, hs.keep, hs.ext, hs.low, hs.nb, hs.df, hs.pin, hs.low', hs.no⟩
  · rename_i i j hp
    split
    · rename_i cs hg
      cases hn : isNils (getAt .dead cs j) with
      | false => exact hs
      | true =>
        refine ⟨hs.tmps.upd i (fun v hv => ?_), hs.mem.more _, hs.keep, hs.ext, hs.low, hs.nb, hs.df, hs.pin, hs.low', hs.no⟩
        rw [hg] at hv
        unfold VR at hv ⊢
        obtain ⟨l, hv, hl⟩ := hv
        exact ⟨l, hv, hl.upd j (VR.newSl hn)⟩
    · exact hs
  · rename_i b j hp
    split
    · rename_i o t cs hg
      cases hn : isNils (getAt .dead cs j) with
      | false => exact hs
      | true =>
        refine ⟨hs.tmps, MemRel.more ?_ _, hs.keep, hs.ext, hs.low, hs.nb, hs.df, hs.pin, hs.low', hs.no⟩
        have hm := hs.mem
        have hb : b < st.mem.length := by
          rcases Nat.lt_or_ge b st.mem.length with h | h
          · exact h
          · rw [getAt_ge _ h] at hg; cases hg
        have hget : ∀ b', getAt .gone (setAt st.mem b (.one o t (setAt cs j (newSl st.mem c.cols)))) b' = if b' = b then .one o t (setAt cs j (newSl st.mem c.cols)) else getAt .gone st.mem b' := by
          intro b'
          by_cases h : b' = b
          · subst h; rw [if_pos rfl, getAt_setAt_same _ _ hb]
          · rw [if_neg h, getAt_setAt_ne _ _ _ (Ne.symm h)]
        have hown : ∀ b', (getAt .gone (setAt st.mem b (.one o t (setAt cs j (newSl st.mem c.cols)))) b').own = (getAt .gone st.mem b').own := by
          intro b'
          rw [hget]
          by_cases h : b' = b
          · subst h; rw [if_pos rfl, hg]; rfl
          · rw [if_neg h]
        have hgone : ∀ b', getAt .gone (setAt st.mem b (.one o t (setAt cs j (newSl st.mem c.cols)))) b' ≠ .gone -> getAt .gone st.mem b' ≠ .gone := by
          intro b' hne
          rw [hget] at hne
          by_cases h : b' = b
          · subst h; rw [hg]; simp
          · rwa [if_neg h] at hne
        refine ⟨fun b' x e => ?_, fun b1 b2 x x' hne e e' ho hg' => hm.inj b1 b2 x x' hne e e' (by rw [← hown]; exact ho) (hgone _ hg'), hm.ro, fun b' x e ho o => hm.apart b' x e (by rw [← hown]; exact ho) o⟩
        obtain ⟨h1, h2, h3⟩ := hm.dom b' x e
        refine ⟨by rw [setAt_length]; exact h1, h2, ?_⟩
        rw [hget]
        by_cases h : b' = b
        · subst h
          rw [if_pos rfl]
          rw [hg] at h3
          rcases h3 with h3 | ⟨g1, g2, g3, g4, g5⟩
          · cases h3
          · refine .inr ⟨by rw [g1]; simp [AB.sz, setAt_length], g2, g3, fun i hi => ?_, fun ho => ?_⟩
            · obtain ⟨l, l1, l2, l3, l4⟩ := g4 i hi
              refine ⟨l, VRs.upd j l1 (VR.newSl hn), by rw [l2]; simp [AB.sz, setAt_length], l3, fun q hq => l4 q ?_⟩
              simpa [AB.sz, setAt_length] using hq
            · obtain ⟨p1, Cc, p2, p3⟩ := g5 ho
              exact ⟨p1, Cc, p2, by rw [p3]; simp [AB.sz, setAt_length]⟩
        · rw [if_neg h]; exact h3
    · exact hs
theorem convs_ref {C : Ctx} : ∀ (l : List Cv) (st : VS), Ref C st (convs st l)
  | [], st => Ref.refl C st
  | c :: cs, st => Ref.trans (fun E a w hs => ⟨E, conv_sr hs c⟩) (convs_ref cs (conv st c))
end Go.Ag
