import Derived.Test.YtbcegholicnflaaGreatBgN
set_option linter.unusedVariables false
set_option linter.unusedSimpArgs false
namespace Go.Ag
open Go.RowKit
def aeE (k : VS -> Prop) (Q : Exit -> VS -> Prop) (e : Exit) (s : VS) : Prop :=
  match e with
  | .normal => k s
  | .exit id => Q (.exit id) s
  | .goto l => Q (.goto l) s
  | .ret => Q .ret s
  | .panic c => Q (.panic c) s
  | .outgrown => Q .outgrown s
def YD (id:Nat) (Q : Exit -> VS -> Prop) (e : Exit) (s : VS) : Prop :=
  match e with
  | .exit i => cond (Nat.beq i id) (Q .normal s) (Q (.exit i) s)
  | .normal => Q .normal s
  | .goto l => Q (.goto l) s
  | .ret => Q .ret s
  | .panic c => Q (.panic c) s
  | .outgrown => Q .outgrown s
def VS.ak1 (st : VS) (c : Operand) (b:Bool) : VS :=
  match c with
  | .tmp t => st.JO t (.bool b)
  | _ => st
def iJ : Code -> Nat
  | .seq a b => iJ a + iJ b
  | .cond _ a b => iJ a + iJ b
  | .block _ c => iJ c
  | .scope c => iJ c
  | .skip => 0
  | .label _ => 0
  | .region .. => 0
  | .exit _ => 0
  | .ret => 0
  | _ => 1
def dA : Code -> Nat -> Code
  | .seq a b, k => cond (Nat.blt k (iJ a)) (dA a k) (dA b (k - iJ a))
  | .cond _ a b, k => cond (Nat.blt k (iJ a)) (dA a k) (dA b (k - iJ a))
  | .block _ c, k => dA c k
  | .scope c, k => dA c k
  | c, _ => c
def gY : Code -> Code
  | .loop c => c
  | .rangeFunc _ _ _ c => c
  | c => c
def Vd : Code -> Code
  | .rangeFunc _ _ a _ => a
  | c => c
def aeF (Q : Exit -> VS -> Prop) : Exit -> VS -> Prop
  | .goto _, _ => False
  | e, s => Q e s
noncomputable def vwp (T : Tab) (Γ : wK) (tr : Nat -> VS -> (Exit -> VS -> Prop) -> Prop) : Nat -> Code -> VS -> (Exit -> VS -> Prop) -> Prop
  | _, .skip, st, Q => Q .normal st
  | _, .label _, st, Q => Q .normal st
  | _, .region _ ops d, st, Q => cond d (aee T Γ ops.toList st (Q .normal)) (UY T Γ ops.toList st (Q .normal))
  | k, .seq a b, st, Q => vwp T Γ tr k a st (aeE (fun s => vwp T Γ tr (k + iJ a) b s Q) Q)
  | k, .cond c a b, st, Q =>
    match st.eval c with
    | .bool t => cond t (vwp T Γ tr k a (st.ak1 c true) Q) (vwp T Γ tr (k + iJ a) b (st.ak1 c false) Q)
    | _ => False
  | k, .block id c, st, Q => vwp T Γ tr k c st (YD id Q)
  | k, .scope c, st, Q => vwp T Γ tr k c st (aeF Q)
  | _, .exit id, st, Q => Q (.exit id) st
  | _, .ret, st, Q => Q .ret st
  | k, _, st, Q => tr k st Q
section
variable {X : Cx} {st : VS} {Q : Exit -> VS -> Prop}
theorem Tr.seq {a b : Code} (h : Tr X a st (aeE (fun s => Tr X b s Q) Q)) : Tr X (.seq a b) st Q := by
  intro n E x w hs
  refine wpIn_seq (wpIn_mono (h n E x w hs) fun e a' w' ⟨E', st', q, r⟩ => ?_)
  cases e with
  | normal => exact q n E' a' w' r
  | exit id => exact ⟨E', st', q, r⟩
  | goto l => exact ⟨E', st', q, r⟩
  | ret => exact ⟨E', st', q, r⟩
  | panic c => exact ⟨E', st', q, r⟩
  | outgrown => exact ⟨E', st', q, r⟩
theorem rO {P : Program} {b : Frame} {a : Act} {k : List Item} {cs : List Frame} {w : World} {c : Code} : step P (lone (b.atR a (.code (.scope c) :: k)) cs w) = .next (lone (b.atR a (.code c :: .inScope c :: k)) cs w) :=
  step_lone_go (by simp [stepG, stepG.exec, Frame.atR])
theorem TF {P : Program} {b : Frame} {a : Act} {k : List Item} {cs : List Frame} {w : World} {c : Code} : step P (lone (b.atR a (.inScope c :: k)) cs w) = .next (lone (b.atR a k) cs w) :=
  step_lone_go (by simp [stepG, stepG.exec, Frame.atR])
theorem YE {F : Fence} {n : Nat} {P : Program} {Q : Exit -> Act -> World -> Prop} {a : Act} {w : World} {c : Code} (h : c.wpIn F n P (fun e a w => match e with | .goto _ => False | e => Q e a w) a w) : (Code.scope c).wpIn F n P Q a w := by
  intro b k cs hro hb hr
  have h0 : (lone (b.atR a (.code (.scope c) :: k)) cs w).fenced P F := fenced_calm hb hr rfl
  obtain ⟨e, a₁, w₁, hq, harr⟩ := h b (.inScope c :: k) cs hro hb hr
  cases e with
  | normal => exact ⟨.normal, a₁, w₁, hq, .head h0 rO (StepsIn.trans harr (.one (fenced_calm hb hr rfl) TF))⟩
  | exit id =>
    have hx : exitTo id (.inScope c :: k) = exitTo id k := by simp [exitTo]
    exact ⟨.exit id, a₁, w₁, hq, fun k' hk => .head h0 rO (harr.1 k' (by rw [hx]; exact hk)),
      fun hr' hk => let ⟨k₁, h1, h2⟩ := harr.2 hr' (by rw [hx]; exact hk); ⟨k₁, h1, .head h0 rO h2⟩⟩
  | goto l => exact hq.elim
  | ret => exact ⟨_, a₁, w₁, hq, .of_steps (.one h0 rO) harr⟩
  | panic ch => exact ⟨_, a₁, w₁, hq, .of_steps (.one h0 rO) harr⟩
  | outgrown => exact ⟨_, a₁, w₁, hq, .of_steps (.one h0 rO) harr⟩
theorem Tr.scope {c : Code} (h : Tr X c st (aeF Q)) : Tr X (.scope c) st Q := by
  intro n E x w hs
  refine YE (wpIn_mono (h n E x w hs) fun e a' w' ⟨E', st', q, r⟩ => ?_)
  cases e with
  | normal => exact ⟨E', st', q, r⟩
  | exit id => exact ⟨E', st', q, r⟩
  | goto l => exact q.elim
  | ret => exact ⟨E', st', q, r⟩
  | panic c => exact ⟨E', st', q, r⟩
  | outgrown => exact ⟨E', st', q, r⟩
theorem Tr.block {id : Nat} {c : Code} (h : Tr X c st (YD id Q)) : Tr X (.block id c) st Q := by
  intro n E x w hs
  refine wpIn_block (wpIn_mono (h n E x w hs) fun e a' w' ⟨E', st', q, r⟩ => ?_)
  cases e with
  | normal => exact ⟨E', st', q, r⟩
  | exit i =>
    unfold Exit.inBlock
    simp only [YD] at q
    by_cases hi : i = id
    . subst hi
      rw [Nat.beq_refl] at q
      simp only [if_true]
      exact ⟨E', st', q, r⟩
    . rw [acJ hi] at q
      simp only [hi, if_false]
      exact ⟨E', st', q, r⟩
  | goto l => exact ⟨E', st', q, r⟩
  | ret => exact ⟨E', st', q, r⟩
  | panic c => exact ⟨E', st', q, r⟩
  | outgrown => exact ⟨E', st', q, r⟩
theorem VS.aaJ {c : Operand} {b : Bool} (h : st.eval c = .bool b) : st.ak1 c b = st := by
  cases c with
  | tmp t => exact VS.Vb h
  | _ => rfl
theorem ajb {a b : Nat} (h : a < b) : Nat.blt a b = true := by simpa using h
theorem ajc {a b : Nat} (h : b <= a) : Nat.blt a b = false := by
  cases hh : Nat.blt a b with
  | false => rfl
  | true => rw [Nat.blt_eq] at hh; omega
theorem BX (hX : X.OK) {tr : Nat -> VS -> (Exit -> VS -> Prop) -> Prop} : ∀ (c : Code) (k:Nat) (st : VS) (Q : Exit -> VS -> Prop), (∀ j, j < iJ c -> ∀ st Q, tr (k + j) st Q -> Tr X (dA c j) st Q) ->
    vwp X.T X.Γ tr k c st Q -> Tr X c st Q
  | .skip, k, st, Q, ht, h => fun n E a w hs => wpIn_skip ⟨E, st, h, hs⟩
  | .label _, k, st, Q, ht, h => fun n E a w hs => wpIn_label ⟨E, st, h, hs⟩
  | .region id ops d, k, st, Q, ht, h => by
    cases d with
    | true => exact (aeD hX h).mono fun e s hh => by rw [hh.1]; exact hh.2
    | false => exact (Yx hX h).mono fun e s hh => by rw [hh.1]; exact hh.2
  | .seq a b, k, st, Q, ht, h => by
    have ha : ∀ j, j < iJ a -> ∀ st Q, tr (k + j) st Q -> Tr X (dA a j) st Q := fun j hj st Q hh => by
      have := ht j (by simp only [iJ]; omega) st Q hh
      simpa [dA, ajb hj] using this
    have hb : ∀ j, j < iJ b -> ∀ st Q, tr (k + iJ a + j) st Q -> Tr X (dA b j) st Q := fun j hj st Q hh => by
      have := ht (iJ a + j) (by simp only [iJ]; omega) st Q (by rw [<- Nat.add_assoc]; exact hh)
      simpa [dA, ajc (Nat.le_add_right (iJ a) j)] using this
    exact Tr.seq ((BX hX a k st _ ha h).mono fun e s q => by
      cases e with
      | normal => exact BX hX b _ s Q hb q
      | exit id => exact q
      | goto l => exact q
      | ret => exact q
      | panic c => exact q
      | outgrown => exact q)
  | .cond c x y, k, st, Q, ht, h => by
    have hx' : ∀ j, j < iJ x -> ∀ st Q, tr (k + j) st Q -> Tr X (dA x j) st Q := fun j hj st Q hh => by
      have := ht j (by simp only [iJ]; omega) st Q hh
      simpa [dA, ajb hj] using this
    have hy' : ∀ j, j < iJ y -> ∀ st Q, tr (k + iJ x + j) st Q -> Tr X (dA y j) st Q := fun j hj st Q hh => by
      have := ht (iJ x + j) (by simp only [iJ]; omega) st Q (by rw [<- Nat.add_assoc]; exact hh)
      simpa [dA, ajc (Nat.le_add_right (iJ x) j)] using this
    unfold vwp at h
    split at h
    . rename_i t ht
      have hx := BX hX (tr := tr) x
      have hy := BX hX (tr := tr) y
      intro n E a w hs
      have hv := hs.eval c
      rw [ht] at hv
      have hv := hv.nU
      cases t with
      | true => rw [VS.aaJ ht] at h; exact wpIn_cond_true hv (hx _ st Q hx' h n E a w hs)
      | false => rw [VS.aaJ ht] at h; exact wpIn_cond_false hv (hy _ st Q hy' h n E a w hs)
    . exact h.elim
  | .block id c, k, st, Q, ht, h => Tr.block (BX hX c k st _ ht h)
  | .exit id, k, st, Q, ht, h => fun n E a w hs => wpIn_exit ⟨E, st, h, hs⟩
  | .ret, k, st, Q, ht, h => fun n E a w hs => wpIn_ret ⟨E, st, h, hs⟩
  | .loop _, k, _, _, ht, h => ht 0 (by simp [iJ]) _ _ h
  | .rangeFunc .., k, _, _, ht, h => ht 0 (by simp [iJ]) _ _ h
  | .scope c, k, st, Q, ht, h => Tr.scope (BX hX c k st _ ht h)
  | .goto _, k, _, _, ht, h => ht 0 (by simp [iJ]) _ _ h
  | .refuse _, k, _, _, ht, h => ht 0 (by simp [iJ]) _ _ h
theorem aeG : ∃ f : Cx -> Code -> Nat -> VS -> (Exit -> VS -> Prop) -> Prop, f = fun X b k st Q => Tr X (dA b k) st Q := ⟨_, rfl⟩
noncomputable def TrK : Cx -> Code -> Nat -> VS -> (Exit -> VS -> Prop) -> Prop := Classical.choose aeG
theorem Ve : TrK = fun X b k st Q => Tr X (dA b k) st Q := Classical.choose_spec aeG
theorem TrK.loop {b : Code} {k : Nat} {ι : Type} (hb : dA b k = .loop (gY (dA b k))) (S : ι -> VS) (μ : ι -> Nat) (i₀ : ι) (h₀ : Ref X.C st (S i₀)) (h : ∀ i, Tr X (gY (dA b k)) (S i) (aeu X.C S μ i Q)) : TrK X b k st Q := by
  rw [Ve]
  show Tr X (dA b k) st Q
  rw [hb]
  exact Tr.loop S μ i₀ h₀ h
end
mutual
def AV.under (p : Nat -> Prop) : AV -> Prop
  | .ptr _ b _ _ => p b
  | .sl _ b _ _ => p b
  | .agg cs => AV.um p cs
  | .tup cs => AV.um p cs
  | .ifc _ a => a.under p
  | .fn _ cap => AV.um p cap
  | .dead => True
  | .int _ _ => True
  | .bool _ => True
  | .nilp => True
  | .nils => True
  | .nili => True
  | .raw _ => True
  | .rs _ _ _ => True
  | .rp _ _ => True
def AV.um (p : Nat -> Prop) : List AV -> Prop
  | [] => True
  | a :: as => a.under p /\ AV.um p as
end
def Qe (p : Nat -> Prop) : List AV -> List AV -> Prop
  | [], [] => True
  | x :: xs, y :: ys => (match y with | .dead => True | y => x = y /\ y.under p) /\ Qe p xs ys
  | _, _ => False
def AB.aeH (p : Nat -> Prop) : AB -> Prop
  | .gone => True
  | .one _ _ cs => AV.um p cs
  | .many _ _ _ _ => True
def Qg (p : Nat -> Prop) : Mem -> Mem -> Prop
  | _, [] => True
  | x :: xs, y :: ys => (match y with | .gone => True | y => x = y /\ y.aeH p) /\ Qg p xs ys
  | [], _ :: _ => False
def fits (s s2 : VS) : Prop :=
  Qe (fun b => b < s2.mem.length) s.tmps s2.tmps /\ Qg (fun b => b < s2.mem.length) s.mem s2.mem /\ s.df = s2.df /\ s.pin = s2.pin /\ s2.pin <= s2.mem.length
def Env.cut (E : Env) (n:Nat) : Env := ⟨fun b => if b < n then E.bl b else none, E.ro⟩
theorem Env.FN {E : Env} {n b : Nat} {x : Bl} (h : (E.cut n).bl b = some x) : b < n /\ E.bl b = some x := by
  unfold Env.cut at h
  simp only at h
  split at h
  . exact ⟨by assumption, h⟩
  . cases h
mutual
theorem VR.cut {E : Env} {n : Nat} : ∀ (a : AV) {v : Value}, a.under (fun b => b < n) -> VR E a v -> VR (E.cut n) a v
  | .dead, _, _, hv => by unfold VR; trivial
  | .int k n, _, _, hv => by unfold VR at *; exact hv
  | .bool b, _, _, hv => by unfold VR at *; exact hv
  | .nilp, _, _, hv => by unfold VR at *; exact hv
  | .ptr e b i j, _, hu, hv => by
    unfold VR at *
    unfold AV.under at hu
    obtain ⟨x, hx, hv⟩ := hv
    exact ⟨x, by unfold Env.cut; simp [hu, hx], hv⟩
  | .nils, _, _, hv => by unfold VR at *; exact hv
  | .sl q b m s, _, hu, hv => by
    unfold VR at *
    unfold AV.under at hu
    rcases hv with hv | ⟨hq, x, hx, hv⟩
    . exact .inl hv
    . exact .inr ⟨hq, x, by unfold Env.cut; simp [hu, hx], hv⟩
  | .agg cs, _, hu, hv => by
    unfold VR at *
    unfold AV.under at hu
    obtain ⟨l, hv, hl⟩ := hv
    exact ⟨l, hv, VRs.cut cs hu hl⟩
  | .tup cs, _, hu, hv => by
    unfold VR at *
    unfold AV.under at hu
    obtain ⟨l, hv, hl⟩ := hv
    exact ⟨l, hv, VRs.cut cs hu hl⟩
  | .ifc t a, _, hu, hv => by
    unfold VR at *
    unfold AV.under at hu
    obtain ⟨y, hv, hy⟩ := hv
    exact ⟨y, hv, VR.cut a hu hy⟩
  | .nili, _, _, hv => by unfold VR at *; exact hv
  | .fn f cap, _, hu, hv => by
    unfold VR at *
    unfold AV.under at hu
    obtain ⟨l, hv, hl⟩ := hv
    exact ⟨l, hv, VRs.cut cap hu hl⟩
  | .raw u, _, _, hv => by unfold VR at *; exact hv
  | .rs q m cols, _, _, hv => VR.Pm (E := E) (E' := E.cut n) (fun _ _ _ h => h) hv
  | .rp cs j, _, _, hv => VR.Pn (E := E) (E' := E.cut n) (fun _ _ _ h => h) hv
theorem VRs.cut {E : Env} {n : Nat} : ∀ (as : List AV) {l : List Value}, AV.um (fun b => b < n) as -> VRs E as l -> VRs (E.cut n) as l
  | [], _, _, hl => hl.jO ▸ VRs.nil _
  | a :: as, _, hu, hl => by
    unfold AV.um at hu
    obtain ⟨v, vs, rfl, h1, h2⟩ := hl.cons_inv
    exact VRs.cons (VR.cut a hu.1 h1) (VRs.cut as hu.2 h2)
end
theorem aaK {E : Env} {n : Nat} : ∀ {xs ys : List AV} {l : List Value}, Qe (fun b => b < n) xs ys -> VRs E xs l -> VRs (E.cut n) ys l
  | [], [], l, _, h => by have := h.jO; subst this; exact VRs.nil _
  | x :: xs, y :: ys, l, hf, h => by
    obtain ⟨v, vs, rfl, h1, h2⟩ := h.cons_inv
    unfold Qe at hf
    refine VRs.cons ?_ (aaK hf.2 h2)
    have hf1 := hf.1
    split at hf1
    . unfold VR; trivial
    . obtain ⟨rfl, hu⟩ := hf1
      exact VR.cut _ hu h1
  | [], y :: ys, l, hf, h => by unfold Qe at hf; exact hf.elim
  | x :: xs, [], l, hf, h => by unfold Qe at hf; exact hf.elim
theorem J9 {p : Nat -> Prop} : ∀ {m m2 : Mem}, Qg p m m2 -> ∀ b, b < m2.length -> (aS .gone m2 b = .gone \/ (aS .gone m b = aS .gone m2 b /\ (aS .gone m2 b).aeH p)) /\ b < m.length
  | _, [], _, b, hb => by simp at hb
  | [], _ :: _, h, _, _ => by unfold Qg at h; exact h.elim
  | x :: xs, y :: ys, h, b, hb => by
    unfold Qg at h
    cases b with
    | zero =>
      refine ⟨?_, by simp⟩
      have h1 := h.1
      split at h1
      . exact .inl rfl
      . exact .inr ⟨h1.1, h1.2⟩
    | succ b =>
      obtain ⟨h1, h2⟩ := J9 h.2 b (by simpa using hb)
      exact ⟨h1, by simpa using h2⟩
theorem Ref.fits {C : Ctx} {s s2 : VS} (h : fits s s2) : Ref C s s2 := by
  intro E a w hs
  obtain ⟨h1, h2, h5, h6, h7⟩ := h
  refine ⟨E.cut s2.mem.length, aaK h1 hs.tmps, ⟨fun b x e => ?_, fun b b' x x' hne e e' ho hg => ?_, hs.mem.ro, fun b x e ho o => ?_⟩, hs.keep, hs.ext, hs.low, fun b x e => hs.nb b x (Env.FN e).2, by rw [<- h5]; exact hs.df, ⟨fun b x e => ?_, fun b o v e => hs.pin.ro b o v e⟩, fun b x e => by rw [<- h6]; exact hs.low' b x e, hs.no⟩
  rotate_right
  . have h8 := hs.low' b x e
    have h9 := hs.pin.bl b x e
    unfold Env.cut
    simp only
    rw [if_pos (by omega)]
    exact h9
  . obtain ⟨hb, e⟩ := Env.FN e
    obtain ⟨g1, g2, g3⟩ := hs.mem.dom b x e
    refine ⟨hb, g2, ?_⟩
    rcases (J9 h2 b hb).1 with hg | ⟨hg, hu⟩
    . rw [hg]; exact .inl rfl
    . rw [<- hg] at hu ⊢
      rcases g3 with g3 | ⟨q1, ql, qc, q2, q3⟩
      . exact .inl g3
      . refine .inr ⟨q1, ql, qc, fun i hi => ?_, q3⟩
        obtain ⟨l, s1, s2', s3, s4⟩ := q2 i hi
        refine ⟨l, ?_, s2', s3, s4⟩
        revert hu hi s1
        cases aS .gone s.mem b with
        | gone => intro _ hi; simp [AB.n] at hi
        | one o ty cs => intro hu _ s1; exact VRs.cut _ hu s1
        | many o ty n g => intro _ _ s1; exact s1
  . obtain ⟨hb, e⟩ := Env.FN e
    obtain ⟨hb', e'⟩ := Env.FN e'
    rcases (J9 h2 b hb).1 with hgb | ⟨hgb, _⟩
    . rw [hgb] at ho; cases ho
    . rcases (J9 h2 b' hb').1 with hgb' | ⟨hgb', _⟩
      . exact absurd hgb' hg
      . rw [<- hgb] at ho
        rw [<- hgb'] at hg
        exact hs.mem.inj b b' x x' hne e e' ho hg
  . obtain ⟨hb, e⟩ := Env.FN e
    rcases (J9 h2 b hb).1 with hgb | ⟨hgb, _⟩
    . rw [hgb] at ho; cases ho
    . rw [<- hgb] at ho
      exact hs.mem.apart b x e ho o
inductive Pos where
  | t (i:Nat)
  | tc (i j:Nat)
  | m (b j:Nat)
structure Cv where
  p : Pos
  e : TypeId
  cols : List CF
def BH (m : Mem) (c : List CF) : AV := .sl (some true) (jJ m) 0 (jJ c)
def BZ : AV -> Bool
  | .nils => true
  | _ => false
def conv (st : VS) (c : Cv) : VS :=
  match c.p with
  | .t i => cond (BZ (aS .dead st.tmps i)) ⟨setAt st.tmps i (BH st.mem c.cols), st.mem ++ [.many true c.e 0 c.cols], st.df, st.pin⟩ st
  | .tc i j => match aS .dead st.tmps i with
    | .agg cs => cond (BZ (aS .dead cs j)) ⟨setAt st.tmps i (.agg (setAt cs j (BH st.mem c.cols))), st.mem ++ [.many true c.e 0 c.cols], st.df, st.pin⟩ st
    | _ => st
  | .m b j => match aS .gone st.mem b with
    | .one o t cs => cond (BZ (aS .dead cs j)) ⟨st.tmps, setAt st.mem b (.one o t (setAt cs j (BH st.mem c.cols))) ++ [.many true c.e 0 c.cols], st.df, st.pin⟩ st
    | _ => st
def convs (st : VS) : List Cv -> VS
  | [] => st
  | c :: cs => convs (conv st c) cs
theorem acL {a : AV} (h : BZ a = true) : a = .nils := by cases a <;> simp [BZ] at h ⊢
theorem VRs.upd {E : Env} {x : AV} : ∀ {xs : List AV} {l : List Value} (i:Nat), VRs E xs l -> (∀ v, VR E (aS .dead xs i) v -> VR E x v) -> VRs E (setAt xs i x) l
  | [], l, i, h, _ => by simpa [setAt] using h
  | y :: ys, l, 0, h, hx => by
    obtain ⟨v, vs, rfl, h1, h2⟩ := h.cons_inv
    exact VRs.cons (hx v h1) h2
  | y :: ys, l, i + 1, h, hx => by
    obtain ⟨v, vs, rfl, h1, h2⟩ := h.cons_inv
    exact VRs.cons h1 (VRs.upd i h2 hx)
theorem VR.BH {E : Env} {a : AV} (ha : BZ a = true) {m : Mem} {c : List CF} (v : Value) (h : VR E a v) : VR E (Ag.BH m c) v := by
  rw [acL ha] at h
  unfold VR at h
  unfold Ag.BH VR
  exact .inl ⟨by simp, rfl, h⟩
theorem ahq {C : Ctx} {E : Env} {st : VS} {a : Act} {w : World} (hs : SR C E st a w) (c : Cv) : SR C E (conv st c) a w := by
  unfold conv
  split
  . rename_i i hp
    cases hn : BZ (aS .dead st.tmps i) with
    | false => exact hs
    | true => exact ⟨hs.tmps.upd i (VR.BH hn), hs.mem.more _, hs.keep, hs.ext, hs.low, hs.nb, hs.df, hs.pin, hs.low', hs.no⟩
  . rename_i i j hp
    split
    . rename_i cs hg
      cases hn : BZ (aS .dead cs j) with
      | false => exact hs
      | true =>
        refine ⟨hs.tmps.upd i (fun v hv => ?_), hs.mem.more _, hs.keep, hs.ext, hs.low, hs.nb, hs.df, hs.pin, hs.low', hs.no⟩
        rw [hg] at hv
        unfold VR at hv ⊢
        obtain ⟨l, hv, hl⟩ := hv
        exact ⟨l, hv, hl.upd j (VR.BH hn)⟩
    . exact hs
  . rename_i b j hp
    split
    . rename_i o t cs hg
      cases hn : BZ (aS .dead cs j) with
      | false => exact hs
      | true =>
        refine ⟨hs.tmps, bD.more ?_ _, hs.keep, hs.ext, hs.low, hs.nb, hs.df, hs.pin, hs.low', hs.no⟩
        have hm := hs.mem
        have hb : b < st.mem.length := by
          rcases Nat.lt_or_ge b st.mem.length with h | h
          . exact h
          . rw [kZ _ h] at hg; cases hg
        have hget : ∀ b', aS .gone (setAt st.mem b (.one o t (setAt cs j (BH st.mem c.cols)))) b' = if b' = b then .one o t (setAt cs j (BH st.mem c.cols)) else aS .gone st.mem b' := by
          intro b'
          by_cases h : b' = b
          . subst h; rw [if_pos rfl, bV _ _ hb]
          . rw [if_neg h, aP _ _ _ (Ne.symm h)]
        have hown : ∀ b', (aS .gone (setAt st.mem b (.one o t (setAt cs j (BH st.mem c.cols)))) b').own = (aS .gone st.mem b').own := by
          intro b'
          rw [hget]
          by_cases h : b' = b
          . subst h; rw [if_pos rfl, hg]; rfl
          . rw [if_neg h]
        have hgone : ∀ b', aS .gone (setAt st.mem b (.one o t (setAt cs j (BH st.mem c.cols)))) b' ≠ .gone -> aS .gone st.mem b' ≠ .gone := by
          intro b' hne
          rw [hget] at hne
          by_cases h : b' = b
          . subst h; rw [hg]; simp
          . rwa [if_neg h] at hne
        refine ⟨fun b' x e => ?_, fun b1 b2 x x' hne e e' ho hg' => hm.inj b1 b2 x x' hne e e' (by rw [<- hown]; exact ho) (hgone _ hg'), hm.ro, fun b' x e ho o => hm.apart b' x e (by rw [<- hown]; exact ho) o⟩
        obtain ⟨h1, h2, h3⟩ := hm.dom b' x e
        refine ⟨by rw [cu]; exact h1, h2, ?_⟩
        rw [hget]
        by_cases h : b' = b
        . subst h
          rw [if_pos rfl]
          rw [hg] at h3
          rcases h3 with h3 | ⟨g1, g2, g3, g4, g5⟩
          . cases h3
          . refine .inr ⟨by rw [g1]; simp [AB.sz, cu], g2, g3, fun i hi => ?_, fun ho => ?_⟩
            . obtain ⟨l, l1, l2, l3, l4⟩ := g4 i hi
              refine ⟨l, VRs.upd j l1 (VR.BH hn), by rw [l2]; simp [AB.sz, cu], l3, fun q hq => l4 q ?_⟩
              simpa [AB.sz, cu] using hq
            . obtain ⟨p1, Cc, p2, p3⟩ := g5 ho
              exact ⟨p1, Cc, p2, by rw [p3]; simp [AB.sz, cu]⟩
        . rw [if_neg h]; exact h3
    . exact hs
theorem Le {C : Ctx} : ∀ (l : List Cv) (st : VS), Ref C st (convs st l)
  | [], st => Ref.refl C st
  | c :: cs, st => Ref.trans (fun E a w hs => ⟨E, ahq hs c⟩) (Le cs (conv st c))
end Go.Ag
