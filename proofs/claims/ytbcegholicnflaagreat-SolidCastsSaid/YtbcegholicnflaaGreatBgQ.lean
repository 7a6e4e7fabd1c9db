import Derived.Test.YtbcegholicnflaaGreatBgP
set_option linter.unusedVariables false
set_option linter.unusedSimpArgs false
namespace Go.Ag
open Go.RowKit
def lookN {α : Type} : List (Nat × α) -> Nat -> Option α
  | [], _ => none
  | (k, v) :: r, n => if Nat.beq k n then some v else lookN r n
theorem lookN_mem {α : Type} : ∀ {l : List (Nat × α)} {n : Nat} {v : α}, lookN l n = some v -> (n, v) ∈ l
  | [], n, v, h => by cases h
  | (k, u) :: r, n, v, h => by
    unfold lookN at h
    split at h
    · rename_i hk
      cases h
      rw [Nat.eq_of_beq_eq_true hk]
      simp
    · exact List.mem_cons_of_mem _ (lookN_mem h)
def TyOK (P : Program) (t : TypeId) (i : TI) : Prop := P.underlying t = some i.desc /\ ∃ info, P.info? t = some info /\ info.size = i.size /\ info.bytes = i.bytes /\
    ∃ z, info.zero = some z /\ (∀ E, VR E i.zv z) /\ i.zv.cellsOf = some i.zv.cells /\ i.zv.cells.length = i.size
def TysOK (P : Program) : List (Nat × TI) -> Prop
  | [] => True
  | (t, i) :: r => TyOK P t i /\ TysOK P r
theorem TyOK.of {P : Program} {t : TypeId} {i : TI} (info : TypeInfo) (z : Value) (h1 : P.underlying t = some i.desc) (h2 : P.info? t = some info) (h3 : info.size = i.size) (h4 : info.bytes = i.bytes) (h5 : info.zero = some z) (h6 : i.zv = .ofValue z)
    (h7 : i.zv.cellsOf = some i.zv.cells) (h8 : i.zv.cells.length = i.size) : TyOK P t i := ⟨h1, info, h2, h3, h4, z, h5, fun E => by rw [h6]; exact VR.const z, h7, h8⟩
theorem TysOK.get {P : Program} : ∀ {l : List (Nat × TI)}, TysOK P l -> ∀ t i, (t, i) ∈ l -> TyOK P t i
  | [], _, t, i, h => by cases h
  | (t', i') :: r, hl, t, i, h => by
    rcases List.mem_cons.1 h with h | h
    · cases h; exact hl.1
    · exact hl.2.get t i h
def infoAt (P : Program) (t : Nat) : TypeInfo := match P.info? t with | some i => i | none => default
def zeroAt (P : Program) (t : Nat) : Value := match (infoAt P t).zero with | some z => z | none => undef
theorem TyOK.of' {P : Program} {t : TypeId} {i : TI} (h1 : P.underlying t = some i.desc) (h2 : P.info? t = some (infoAt P t)) (h3 : (infoAt P t).size = i.size) (h4 : (infoAt P t).bytes = i.bytes) (h5 : (infoAt P t).zero = some (zeroAt P t)) (h6 : i.zv = .ofValue (zeroAt P t))
    (h7 : i.zv.cellsOf = some i.zv.cells) (h8 : i.zv.cells.length = i.size) : TyOK P t i := .of _ _ h1 h2 h3 h4 h5 h6 h7 h8
def slotsN : Nat -> Nat -> List (Nat × AV) -> List AV
  | 0, _, _ => []
  | n + 1, i, [] => .dead :: slotsN n (i + 1) []
  | n + 1, i, (j, v) :: r => cond (Nat.beq i j) (v :: slotsN n (i + 1) r) (.dead :: slotsN n (i + 1) ((j, v) :: r))
def maskT (bs : List Nat) : Nat -> List AV -> List AV
  | _, [] => []
  | i, x :: xs => cond (memN i bs) (x :: maskT bs (i + 1) xs) (.dead :: maskT bs (i + 1) xs)
def maskM (bs : List Nat) : Nat -> Nat -> Mem -> Mem
  | _, 0, _ => []
  | _, _ + 1, [] => []
  | i, n + 1, x :: xs => cond (memN i bs) (x :: maskM bs (i + 1) n xs) (.gone :: maskM bs (i + 1) n xs)
def VS.mask (bs ms : List Nat) (nm : Nat) (s : VS) : VS := ⟨maskT bs 0 s.tmps, maskM ms 0 nm s.mem, s.df, s.pin⟩
mutual
def AV.underB (n : Nat) : AV -> Bool
  | .ptr _ b _ _ => Nat.blt b n
  | .sl _ b _ _ => Nat.blt b n
  | .agg cs => AV.undersB n cs
  | .tup cs => AV.undersB n cs
  | .ifc _ a => a.underB n
  | .fn _ cap => AV.undersB n cap
  | .dead => true
  | .int _ _ => true
  | .bool _ => true
  | .nilp => true
  | .nils => true
  | .nili => true
  | .raw _ => true
  | .rs _ _ _ => true
  | .rp _ _ => true
def AV.undersB (n : Nat) : List AV -> Bool
  | [] => true
  | a :: as => a.underB n && AV.undersB n as
end
mutual
theorem AV.underB_ok {n : Nat} : ∀ (a : AV), a.underB n = true -> a.under (fun b => b < n)
  | .ptr _ b _ _, h => by unfold AV.underB at h; unfold AV.under; simpa using h
  | .sl _ b _ _, h => by unfold AV.underB at h; unfold AV.under; simpa using h
  | .agg cs, h => by unfold AV.underB at h; unfold AV.under; exact AV.undersB_ok cs h
  | .tup cs, h => by unfold AV.underB at h; unfold AV.under; exact AV.undersB_ok cs h
  | .ifc _ a, h => by unfold AV.underB at h; unfold AV.under; exact AV.underB_ok a h
  | .fn _ cap, h => by unfold AV.underB at h; unfold AV.under; exact AV.undersB_ok cap h
  | .dead, h => by unfold AV.under; trivial
  | .int _ _, h => by unfold AV.under; trivial
  | .bool _, h => by unfold AV.under; trivial
  | .nilp, h => by unfold AV.under; trivial
  | .nils, h => by unfold AV.under; trivial
  | .nili, h => by unfold AV.under; trivial
  | .raw _, h => by unfold AV.under; trivial
  | .rs _ _ _, h => by unfold AV.under; trivial
  | .rp _ _, h => by unfold AV.under; trivial
theorem AV.undersB_ok {n : Nat} : ∀ (as : List AV), AV.undersB n as = true -> AV.unders (fun b => b < n) as
  | [], h => by unfold AV.unders; trivial
  | a :: as, h => by
    unfold AV.undersB at h
    rw [Bool.and_eq_true] at h
    unfold AV.unders
    exact ⟨AV.underB_ok a h.1, AV.undersB_ok as h.2⟩
end
def okM (nm : Nat) (bs : List Nat) : Nat -> Nat -> Mem -> Bool
  | _, 0, _ => true
  | _, _ + 1, [] => false
  | i, n + 1, x :: xs => cond (memN i bs) (match x with
      | .gone => okM nm bs (i + 1) n xs
      | .one _ _ cs => cond (AV.undersB nm cs) (okM nm bs (i + 1) n xs) false
      | .many _ _ _ _ => okM nm bs (i + 1) n xs) (okM nm bs (i + 1) n xs)
def okMask (bs ms : List Nat) (nm : Nat) (s : VS) (K : Prop) : Prop := cond (Nat.ble s.pin nm) (cond (AV.undersB nm (maskT bs 0 s.tmps)) (cond (okM nm ms 0 nm s.mem) K False) False) False
theorem fitT_mask {p : Nat -> Prop} {bs : List Nat} : ∀ (i : Nat) (l : List AV), AV.unders p (maskT bs i l) -> fitT p l (maskT bs i l)
  | _, [], _ => by unfold maskT fitT; trivial
  | i, x :: xs, h => by
    unfold maskT at h ⊢
    cases hm : memN i bs with
    | true =>
      simp only [hm, cond_true] at h ⊢
      unfold AV.unders at h
      unfold fitT
      refine ⟨?_, fitT_mask _ _ h.2⟩
      split
      · trivial
      · exact ⟨rfl, h.1⟩
    | false =>
      simp only [hm, cond_false] at h ⊢
      unfold AV.unders at h
      unfold fitT
      exact ⟨trivial, fitT_mask _ _ h.2⟩
theorem maskM_len {nm : Nat} {bs : List Nat} : ∀ (i n : Nat) (m : Mem), okM nm bs i n m = true -> (maskM bs i n m).length = n
  | _, 0, _, _ => by unfold maskM; rfl
  | _, _ + 1, [], h => by unfold okM at h; cases h
  | i, n + 1, x :: xs, h => by
    unfold okM at h
    unfold maskM
    have key : okM nm bs (i + 1) n xs = true -> (maskM bs (i + 1) n xs).length = n := maskM_len (i + 1) n xs
    cases hm : memN i bs with
    | true =>
      simp only [hm, cond_true] at h ⊢
      cases x with
      | gone => simp [key h]
      | one o t cs =>
        simp only at h
        cases hu : AV.undersB nm cs with
        | true => rw [hu] at h; simp [key h]
        | false => rw [hu] at h; cases h
      | many o t k g => simp [key h]
    | false =>
      simp only [hm, cond_false] at h ⊢
      simp [key h]
theorem fitM_mask {nm : Nat} {bs : List Nat} : ∀ (i n : Nat) (m : Mem), okM nm bs i n m = true -> fitM (fun b => b < nm) m (maskM bs i n m)
  | _, 0, _, _ => by unfold maskM fitM; trivial
  | _, _ + 1, [], h => by unfold okM at h; cases h
  | i, n + 1, x :: xs, h => by
    unfold okM at h
    unfold maskM
    have key : okM nm bs (i + 1) n xs = true -> fitM (fun b => b < nm) xs (maskM bs (i + 1) n xs) := fitM_mask (i + 1) n xs
    cases hm : memN i bs with
    | true =>
      simp only [hm, cond_true] at h ⊢
      unfold fitM
      cases x with
      | gone => exact ⟨trivial, key h⟩
      | one o t cs =>
        simp only at h
        cases hu : AV.undersB nm cs with
        | true => rw [hu] at h; exact ⟨⟨rfl, AV.undersB_ok _ hu⟩, key h⟩
        | false => rw [hu] at h; cases h
      | many o t k g => exact ⟨⟨rfl, trivial⟩, key h⟩
    | false =>
      simp only [hm, cond_false] at h ⊢
      unfold fitM
      exact ⟨trivial, key h⟩
theorem okMask_ref {C : Ctx} {bs ms : List Nat} {nm : Nat} {s : VS} {K : Prop} (h : okMask bs ms nm s K) : Ref C s (s.mask bs ms nm) /\ K := by
  unfold okMask at h
  cases hpn : Nat.ble s.pin nm with
  | false => rw [hpn] at h; exact h.elim
  | true =>
  rw [hpn, cond_true] at h
  have hpn := Nat.le_of_ble_eq_true hpn
  cases hu : AV.undersB nm (maskT bs 0 s.tmps) with
  | false => rw [hu] at h; exact h.elim
  | true =>
    rw [hu, cond_true] at h
    cases ho : okM nm ms 0 nm s.mem with
    | false => rw [ho] at h; exact h.elim
    | true =>
      rw [ho, cond_true] at h
      have hl := maskM_len 0 nm s.mem ho
      refine ⟨Ref.fits ⟨?_, ?_, rfl, rfl, by show s.pin <= (maskM ms 0 nm s.mem).length; rw [hl]; exact hpn⟩, h⟩
      · show fitT (fun b => b < (maskM ms 0 nm s.mem).length) _ _
        rw [hl]
        exact fitT_mask 0 _ (AV.undersB_ok _ hu)
      · show fitM (fun b => b < (maskM ms 0 nm s.mem).length) _ _
        rw [hl]
        exact fitM_mask 0 nm s.mem ho
def QM (bs ms : List Nat) (nm : Nat) (Q : Exit -> VS -> Prop) (e : Exit) (s : VS) : Prop := okMask bs ms nm s (Q e (s.mask bs ms nm))
theorem QM_ok {X : Cx} {c : Code} {st : VS} {bs ms : List Nat} {nm : Nat} {Q : Exit -> VS -> Prop} (h : Tr X c st (QM bs ms nm Q)) : Tr X c st Q :=
  Tr.post (h.mono fun e s q => ⟨_, (okMask_ref (C := X.C) q).1, (okMask_ref (C := X.C) q).2⟩)
def Ts : Nat -> Prop -> Prop
  | 0, q => q
  | n + 1, q => True /\ Ts n q
theorem Ts_iff : ∀ {n : Nat} {q : Prop}, Ts n q ↔ q
  | 0, q => Iff.rfl
  | n + 1, q => by unfold Ts; rw [true_and]; exact Ts_iff
theorem cond_intro {b : Bool} {p q : Prop} (h1 : b = true -> p) (h2 : b = false -> q) : cond b p q := by
  cases b
  · exact h2 rfl
  · exact h1 rfl
theorem cond_mono {b : Bool} {p q p' q' : Prop} (h : cond b p q) (h1 : p -> p') (h2 : q -> q') : cond b p' q' := by
  cases b
  · exact h2 h
  · exact h1 h
theorem Ts_mono {n : Nat} {p q : Prop} (h : Ts n p) (h1 : p -> q) : Ts n q := Ts_iff.2 (h1 (Ts_iff.1 h))
theorem and_mono {a p q : Prop} (h : a /\ p) (h1 : p -> q) : a /\ q := ⟨h.1, h1 h.2⟩
def intOf : AV -> Int
  | .int _ n => n
  | _ => 0
def boolOf : AV -> Bool
  | .bool b => b
  | _ => false
def slotI (st : VS) (t : Nat) : Int := intOf (getAt .dead st.tmps t)
def slotB (st : VS) (t : Nat) : Bool := boolOf (getAt .dead st.tmps t)
def oneAt (st : VS) (b c : Nat) : AV := match getAt .gone st.mem b with
  | .one _ _ cs => getAt .dead cs c
  | _ => .dead
def envL (l : List (Nat × Spec)) : Env0 := fun f => match lookN l f with | some s => s | none => .none
def SpecsOK (P : Program) : List (Nat × Spec) -> Prop
  | [] => True
  | (f, s) :: r => SpecOK P f s /\ SpecsOK P r
theorem SpecsOK.get {P : Program} : ∀ {l : List (Nat × Spec)}, SpecsOK P l -> ∀ f s, (f, s) ∈ l -> SpecOK P f s
  | [], _, f, s, h => by cases h
  | (f', s') :: r, hl, f, s, h => by
    rcases List.mem_cons.1 h with h | h
    · cases h; exact hl.1
    · exact hl.2.get f s h
theorem envL_ok {P : Program} {l : List (Nat × Spec)} (h : SpecsOK P l) : EnvOK P (envL l) := by
  intro f
  unfold envL
  cases hl : lookN l f with
  | none => trivial
  | some s => exact h.get f s (lookN_mem hl)
structure Std (P : Program) (T : Tab) (Γ : Env0) (X : Cx) : Prop where
  P : X.P = P
  T : X.T = T
  Γ : X.Γ = Γ
  ok : X.OK
theorem Std.mk' {P : Program} {T : Tab} {Γ : Env0} {C : Ctx} (hT : TabOK P T) (hΓ : EnvOK P Γ) : Std P T Γ ⟨P, T, Γ, C, none⟩ := ⟨rfl, rfl, rfl, hT, hΓ⟩
theorem vwp_std {P : Program} {T : Tab} {Γ : Env0} {X : Cx} (hX : Std P T Γ X) {b c : Code} (hb : b = c) {tr : Nat -> VS -> (Exit -> VS -> Prop) -> Prop} (htr : ∀ j st Q, tr j st Q -> TrK X b j st Q) {st : VS} {Q : Exit -> VS -> Prop}
    (h : vwp T Γ tr 0 c st Q) : Tr X b st Q := by
  subst hb
  have := hX.T; subst this
  have := hX.Γ; subst this
  exact vwp_ok' hX.ok b 0 st Q (fun j _ st Q hh => by have := htr _ st Q hh; rw [TrK_eq, Nat.zero_add] at this; exact this) h
theorem walk_pure' {P : Program} {T : Tab} {Γ : Env0} {f : FuncId} {fn : Func} {c : Code} {rs : List ResultVar} (hT : TabOK P T) (hΓ : EnvOK P Γ) (hf : P.funcs[f]? = some fn) (hb : fn.body = some c) (hnm : (fn.name == "runtime.NumGoroutine") = false) (hrs : fn.results = rs.toArray) (hlen : rs.length <= 4)
    {ys : List AV} {r : AV} (hw : ∀ X : Cx, Std P T Γ X -> X.ρ = none -> Tr X c (Ag.entry ys fn.ntmps) (fnPost T rs fun v s => v.frz s.mem = r)) :
    ∀ E w vs, RoOK E w -> VRs E.bare ys vs -> CallOK P f vs.toArray w (PureR E w r) :=
  walk_pure (Γ := Γ) hT hf hb hnm hrs hlen (fun C => hw _ (Std.mk' hT hΓ) rfl)
theorem Ts_imp {n : Nat} {p q : Prop} (h1 : p -> q) : Ts n p -> Ts n q := fun h => Ts_iff.2 (h1 (Ts_iff.1 h))
theorem cond_imp {b : Bool} {p q p' q' : Prop} (h1 : p -> p') (h2 : q -> q') : cond b p q -> cond b p' q' := fun h => cond_mono h h1 h2
theorem and_imp' {a p q : Prop} (h1 : p -> q) : a /\ p -> a /\ q := fun h => ⟨h.1, h1 h.2⟩
theorem loop_ok {X : Cx} {b : Code} {k : Nat} {V : Type} (S : V -> VS) (W : Nat -> V -> Prop) (W0 : ∀ v, ¬ W 0 v) {Q : Exit -> VS -> Prop} (hb : loopAt b k = .loop (lbody (loopAt b k)))
    (step : ∀ f v, W (f + 1) v -> Tr X (lbody (loopAt b k)) (S v) (eThen (fun s => ∃ v', s = S v' /\ W f v') Q)) {fuel : Nat} {v0 : V} (h : W fuel v0) : TrK X b k (S v0) Q := by
  refine TrK.loop (ι := { p : Nat × V // W p.1 p.2 }) hb (fun p => S p.1.2) (fun p => p.1.1) ⟨(fuel, v0), h⟩ (Ref.refl _ _) ?_
  rintro ⟨⟨f, v⟩, hw⟩
  cases f with
  | zero => exact absurd hw (W0 v)
  | succ f =>
    refine (step f v hw).mono fun e s q => ?_
    cases e with
    | normal =>
      obtain ⟨v', rfl, hv⟩ := q
      exact ⟨⟨(f, v'), hv⟩, Nat.lt_succ_self f, Ref.refl _ _⟩
    | exit id => exact q
    | goto l => exact q
    | ret => exact q
    | panic c => exact q
    | outgrown => exact q
theorem fuel_ex : ∃ n : Nat, n = 2000000 := ⟨_, rfl⟩
noncomputable def fuel : Nat := Classical.choose fuel_ex
theorem fuel_eq : fuel = 2000000 := Classical.choose_spec fuel_ex
theorem TrK.ref {X : Cx} {b : Code} {k : Nat} {st st2 : VS} {Q : Exit -> VS -> Prop} (hr : Ref X.C st st2) (h : TrK X b k st2 Q) : TrK X b k st Q := by
  rw [TrK_eq] at h ⊢
  exact Tr.ref hr h
theorem TrK.enter {X : Cx} {b : Code} {k : Nat} {st : VS} {Q : Exit -> VS -> Prop} (cv : List Cv) (bs ms : List Nat) (nm : Nat) (h : okMask bs ms nm (convs st cv) (TrK X b k ((convs st cv).mask bs ms nm) Q)) : TrK X b k st Q :=
  TrK.ref ((convs_ref cv st).trans (okMask_ref h).1) (okMask_ref (C := X.C) h).2
end Go.Ag
