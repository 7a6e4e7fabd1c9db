import Derived.Test.YtbcegholicnflaaGreatBgP
set_option linter.unusedVariables false
set_option linter.unusedSimpArgs false
namespace Go.Ag
open Go.RowKit
def H6 {α : Type} : List (Nat × α) -> Nat -> Option α
  | [], _ => none
  | (k, v) :: r, n => if Nat.beq k n then some v else H6 r n
theorem xU {α : Type} : ∀ {l : List (Nat × α)} {n : Nat} {v : α}, H6 l n = some v -> (n, v) ∈ l
  | [], n, v, h => by cases h
  | (k, u) :: r, n, v, h => by
    unfold H6 at h
    split at h
    . rename_i hk
      cases h
      rw [Nat.eq_of_beq_eq_true hk]
      simp
    . exact List.mem_cons_of_mem _ (xU h)
def YG (P : Program) (t : TypeId) (i : TI) : Prop := P.underlying t = some i.desc /\ ∃ info, P.info? t = some info /\ info.size = i.size /\ info.bytes = i.bytes /\
    ∃ z, info.zero = some z /\ (∀ E, VR E i.zv z) /\ i.zv.cellsOf = some i.zv.cells /\ i.zv.cells.length = i.size
def Xw (P : Program) : List (Nat × TI) -> Prop
  | [] => True
  | (t, i) :: r => YG P t i /\ Xw P r
theorem YG.of {P : Program} {t : TypeId} {i : TI} (info : TypeInfo) (z : Value) (h1 : P.underlying t = some i.desc) (h2 : P.info? t = some info) (h3 : info.size = i.size) (h4 : info.bytes = i.bytes) (h5 : info.zero = some z) (h6 : i.zv = .ofValue z)
    (h7 : i.zv.cellsOf = some i.zv.cells) (h8 : i.zv.cells.length = i.size) : YG P t i := ⟨h1, info, h2, h3, h4, z, h5, fun E => by rw [h6]; exact VR.const z, h7, h8⟩
theorem Xw.get {P : Program} : ∀ {l : List (Nat × TI)}, Xw P l -> ∀ t i, (t, i) ∈ l -> YG P t i
  | [], _, t, i, h => by cases h
  | (t', i') :: r, hl, t, i, h => by
    rcases List.mem_cons.1 h with h | h
    . cases h; exact hl.1
    . exact hl.2.get t i h
def infoAt (P : Program) (t:Nat) : TypeInfo := match P.info? t with | some i => i | none => default
def zeroAt (P : Program) (t:Nat) : Value := match (infoAt P t).zero with | some z => z | none => undef
theorem YG.of' {P : Program} {t : TypeId} {i : TI} (h1 : P.underlying t = some i.desc) (h2 : P.info? t = some (infoAt P t)) (h3 : (infoAt P t).size = i.size) (h4 : (infoAt P t).bytes = i.bytes) (h5 : (infoAt P t).zero = some (zeroAt P t)) (h6 : i.zv = .ofValue (zeroAt P t))
    (h7 : i.zv.cellsOf = some i.zv.cells) (h8 : i.zv.cells.length = i.size) : YG P t i := .of _ _ h1 h2 h3 h4 h5 h6 h7 h8
def dD : Nat -> Nat -> List (Nat × AV) -> List AV
  | 0, _, _ => []
  | n + 1, i, [] => .dead :: dD n (i + 1) []
  | n + 1, i, (j, v) :: r => cond (Nat.beq i j) (v :: dD n (i + 1) r) (.dead :: dD n (i + 1) ((j, v) :: r))
def EZ (bs : List Nat) : Nat -> List AV -> List AV
  | _, [] => []
  | i, x :: xs => cond (Fe i bs) (x :: EZ bs (i + 1) xs) (.dead :: EZ bs (i + 1) xs)
def yu (bs : List Nat) : Nat -> Nat -> Mem -> Mem
  | _, 0, _ => []
  | _, _ + 1, [] => []
  | i, n + 1, x :: xs => cond (Fe i bs) (x :: yu bs (i + 1) n xs) (.gone :: yu bs (i + 1) n xs)
def VS.mask (bs ms : List Nat) (nm:Nat) (s : VS) : VS := ⟨EZ bs 0 s.tmps, yu ms 0 nm s.mem, s.df, s.pin⟩
mutual
def AV.Af (n:Nat) : AV -> Bool
  | .ptr _ b _ _ => Nat.blt b n
  | .sl _ b _ _ => Nat.blt b n
  | .agg cs => AV.oQ n cs
  | .tup cs => AV.oQ n cs
  | .ifc _ a => a.Af n
  | .fn _ cap => AV.oQ n cap
  | .dead => true
  | .int _ _ => true
  | .bool _ => true
  | .nilp => true
  | .nils => true
  | .nili => true
  | .raw _ => true
  | .rs _ _ _ => true
  | .rp _ _ => true
def AV.oQ (n:Nat) : List AV -> Bool
  | [] => true
  | a :: as => a.Af n && AV.oQ n as
end
mutual
theorem AV.Uo {n : Nat} : ∀ (a : AV), a.Af n = true -> a.under (fun b => b < n)
  | .ptr _ b _ _, h => by unfold AV.Af at h; unfold AV.under; simpa using h
  | .sl _ b _ _, h => by unfold AV.Af at h; unfold AV.under; simpa using h
  | .agg cs, h => by unfold AV.Af at h; unfold AV.under; exact AV.uo cs h
  | .tup cs, h => by unfold AV.Af at h; unfold AV.under; exact AV.uo cs h
  | .ifc _ a, h => by unfold AV.Af at h; unfold AV.under; exact AV.Uo a h
  | .fn _ cap, h => by unfold AV.Af at h; unfold AV.under; exact AV.uo cap h
  | .dead, h => by unfold AV.under; trivial
  | .int _ _, h => by unfold AV.under; trivial
  | .bool _, h => by unfold AV.under; trivial
  | .nilp, h => by unfold AV.under; trivial
  | .nils, h => by unfold AV.under; trivial
  | .nili, h => by unfold AV.under; trivial
  | .raw _, h => by unfold AV.under; trivial
  | .rs _ _ _, h => by unfold AV.under; trivial
  | .rp _ _, h => by unfold AV.under; trivial
theorem AV.uo {n : Nat} : ∀ (as : List AV), AV.oQ n as = true -> AV.um (fun b => b < n) as
  | [], h => by unfold AV.um; trivial
  | a :: as, h => by
    unfold AV.oQ at h
    rw [Bool.and_eq_true] at h
    unfold AV.um
    exact ⟨AV.Uo a h.1, AV.uo as h.2⟩
end
def okM (nm:Nat) (bs : List Nat) : Nat -> Nat -> Mem -> Bool
  | _, 0, _ => true
  | _, _ + 1, [] => false
  | i, n + 1, x :: xs => cond (Fe i bs) (match x with
      | .gone => okM nm bs (i + 1) n xs
      | .one _ _ cs => cond (AV.oQ nm cs) (okM nm bs (i + 1) n xs) false
      | .many _ _ _ _ => okM nm bs (i + 1) n xs) (okM nm bs (i + 1) n xs)
def Lh (bs ms : List Nat) (nm:Nat) (s : VS) (K:Prop) : Prop := cond (Nat.ble s.pin nm) (cond (AV.oQ nm (EZ bs 0 s.tmps)) (cond (okM nm ms 0 nm s.mem) K False) False) False
theorem Lj {p : Nat -> Prop} {bs : List Nat} : ∀ (i:Nat) (l : List AV), AV.um p (EZ bs i l) -> Qe p l (EZ bs i l)
  | _, [], _ => by unfold EZ Qe; trivial
  | i, x :: xs, h => by
    unfold EZ at h ⊢
    cases hm : Fe i bs with
    | true =>
      simp only [hm, cond_true] at h ⊢
      unfold AV.um at h
      unfold Qe
      refine ⟨?_, Lj _ _ h.2⟩
      split
      . trivial
      . exact ⟨rfl, h.1⟩
    | false =>
      simp only [hm, cond_false] at h ⊢
      unfold AV.um at h
      unfold Qe
      exact ⟨trivial, Lj _ _ h.2⟩
theorem Ur {nm : Nat} {bs : List Nat} : ∀ (i n:Nat) (m : Mem), okM nm bs i n m = true -> (yu bs i n m).length = n
  | _, 0, _, _ => by unfold yu; rfl
  | _, _ + 1, [], h => by unfold okM at h; cases h
  | i, n + 1, x :: xs, h => by
    unfold okM at h
    unfold yu
    have key : okM nm bs (i + 1) n xs = true -> (yu bs (i + 1) n xs).length = n := Ur (i + 1) n xs
    cases hm : Fe i bs with
    | true =>
      simp only [hm, cond_true] at h ⊢
      cases x with
      | gone => simp [key h]
      | one o t cs =>
        simp only at h
        cases hu : AV.oQ nm cs with
        | true => rw [hu] at h; simp [key h]
        | false => rw [hu] at h; cases h
      | many o t k g => simp [key h]
    | false =>
      simp only [hm, cond_false] at h ⊢
      simp [key h]
theorem Us {nm : Nat} {bs : List Nat} : ∀ (i n:Nat) (m : Mem), okM nm bs i n m = true -> Qg (fun b => b < nm) m (yu bs i n m)
  | _, 0, _, _ => by unfold yu Qg; trivial
  | _, _ + 1, [], h => by unfold okM at h; cases h
  | i, n + 1, x :: xs, h => by
    unfold okM at h
    unfold yu
    have key : okM nm bs (i + 1) n xs = true -> Qg (fun b => b < nm) xs (yu bs (i + 1) n xs) := Us (i + 1) n xs
    cases hm : Fe i bs with
    | true =>
      simp only [hm, cond_true] at h ⊢
      unfold Qg
      cases x with
      | gone => exact ⟨trivial, key h⟩
      | one o t cs =>
        simp only at h
        cases hu : AV.oQ nm cs with
        | true => rw [hu] at h; exact ⟨⟨rfl, AV.uo _ hu⟩, key h⟩
        | false => rw [hu] at h; cases h
      | many o t k g => exact ⟨⟨rfl, trivial⟩, key h⟩
    | false =>
      simp only [hm, cond_false] at h ⊢
      unfold Qg
      exact ⟨trivial, key h⟩
theorem uq {C : Ctx} {bs ms : List Nat} {nm : Nat} {s : VS} {K : Prop} (h : Lh bs ms nm s K) : Ref C s (s.mask bs ms nm) /\ K := by
  unfold Lh at h
  cases hpn : Nat.ble s.pin nm with
  | false => rw [hpn] at h; exact h.elim
  | true =>
  rw [hpn, cond_true] at h
  have hpn := Nat.le_of_ble_eq_true hpn
  cases hu : AV.oQ nm (EZ bs 0 s.tmps) with
  | false => rw [hu] at h; exact h.elim
  | true =>
    rw [hu, cond_true] at h
    cases ho : okM nm ms 0 nm s.mem with
    | false => rw [ho] at h; exact h.elim
    | true =>
      rw [ho, cond_true] at h
      have hl := Ur 0 nm s.mem ho
      refine ⟨Ref.fits ⟨?_, ?_, rfl, rfl, by show s.pin <= (yu ms 0 nm s.mem).length; rw [hl]; exact hpn⟩, h⟩
      . show Qe (fun b => b < (yu ms 0 nm s.mem).length) _ _
        rw [hl]
        exact Lj 0 _ (AV.uo _ hu)
      . show Qg (fun b => b < (yu ms 0 nm s.mem).length) _ _
        rw [hl]
        exact Us 0 nm s.mem ho
def QM (bs ms : List Nat) (nm:Nat) (Q : Exit -> VS -> Prop) (e : Exit) (s : VS) : Prop := Lh bs ms nm s (Q e (s.mask bs ms nm))
theorem mO {X : Cx} {c : Code} {st : VS} {bs ms : List Nat} {nm : Nat} {Q : Exit -> VS -> Prop} (h : Tr X c st (QM bs ms nm Q)) : Tr X c st Q :=
  Tr.post (h.mono fun e s q => ⟨_, (uq (C := X.C) q).1, (uq (C := X.C) q).2⟩)
def Ts : Nat -> Prop -> Prop
  | 0, q => q
  | n + 1, q => True /\ Ts n q
theorem aH : ∀ {n : Nat} {q : Prop}, Ts n q ↔ q
  | 0, q => Iff.rfl
  | n + 1, q => by unfold Ts; rw [true_and]; exact aH
theorem aC {b : Bool} {p q : Prop} (h1 : b = true -> p) (h2 : b = false -> q) : cond b p q := by
  cases b
  . exact h2 rfl
  . exact h1 rfl
theorem acN {b : Bool} {p q p' q' : Prop} (h : cond b p q) (h1 : p -> p') (h2 : q -> q') : cond b p' q' := by
  cases b
  . exact h2 h
  . exact h1 h
def intOf : AV -> Int
  | .int _ n => n
  | _ => 0
def gV : AV -> Bool
  | .bool b => b
  | _ => false
def bC (l : List (Nat × Spec)) : wK := fun f => match H6 l f with | some s => s | none => .none
def aO (P : Program) : List (Nat × Spec) -> Prop
  | [] => True
  | (f, s) :: r => aU P f s /\ aO P r
theorem aO.get {P : Program} : ∀ {l : List (Nat × Spec)}, aO P l -> ∀ f s, (f, s) ∈ l -> aU P f s
  | [], _, f, s, h => by cases h
  | (f', s') :: r, hl, f, s, h => by
    rcases List.mem_cons.1 h with h | h
    . cases h; exact hl.1
    . exact hl.2.get f s h
theorem gB {P : Program} {l : List (Nat × Spec)} (h : aO P l) : J5 P (bC l) := by
  intro f
  unfold bC
  cases hl : H6 l f with
  | none => trivial
  | some s => exact h.get f s (xU hl)
structure Std (P : Program) (T : Tab) (Γ : wK) (X : Cx) : Prop where
  P : X.P = P
  T : X.T = T
  Γ : X.Γ = Γ
  ok : X.OK
theorem Std.mk' {P : Program} {T : Tab} {Γ : wK} {C : Ctx} (hT : kP P T) (hΓ : J5 P Γ) : Std P T Γ ⟨P, T, Γ, C, none⟩ := ⟨rfl, rfl, rfl, hT, hΓ⟩
theorem dG {P : Program} {T : Tab} {Γ : wK} {X : Cx} (hX : Std P T Γ X) {b c : Code} (hb : b = c) {tr : Nat -> VS -> (Exit -> VS -> Prop) -> Prop} (htr : ∀ j st Q, tr j st Q -> TrK X b j st Q) {st : VS} {Q : Exit -> VS -> Prop}
    (h : vwp T Γ tr 0 c st Q) : Tr X b st Q := by
  subst hb
  have := hX.T; subst this
  have := hX.Γ; subst this
  exact BX hX.ok b 0 st Q (fun j _ st Q hh => by have := htr _ st Q hh; rw [Ve, Nat.zero_add] at this; exact this) h
theorem eF {P : Program} {T : Tab} {Γ : wK} {f : FuncId} {fn : Func} {c : Code} {rs : List ResultVar} (hT : kP P T) (hΓ : J5 P Γ) (hf : P.funcs[f]? = some fn) (hb : fn.body = some c) (hnm : (fn.name == "runtime.NumGoroutine") = false) (hrs : fn.results = rs.toArray) (hlen : rs.length <= 4)
    {ys : List AV} {r : AV} (hw : ∀ X : Cx, Std P T Γ X -> X.ρ = none -> Tr X c (Ag.entry ys fn.ntmps) (aV T rs fun v s => v.frz s.mem = r)) :
    ∀ E w vs, OJ E w -> VRs E.bare ys vs -> Lc P f vs.toArray w (J4 E w r) :=
  acM (Γ := Γ) hT hf hb hnm hrs hlen (fun C => hw _ (Std.mk' hT hΓ) rfl)
theorem dU {n : Nat} {p q : Prop} (h1 : p -> q) : Ts n p -> Ts n q := fun h => aH.2 (h1 (aH.1 h))
theorem cO {b : Bool} {p q p' q' : Prop} (h1 : p -> p') (h2 : q -> q') : cond b p q -> cond b p' q' := fun h => acN h h1 h2
theorem cZ {a p q : Prop} (h1 : p -> q) : a /\ p -> a /\ q := fun h => ⟨h.1, h1 h.2⟩
theorem iF {X : Cx} {b : Code} {k : Nat} {V : Type} (S : V -> VS) (W : Nat -> V -> Prop) (W0 : ∀ v, ¬ W 0 v) {Q : Exit -> VS -> Prop} (hb : dA b k = .loop (gY (dA b k)))
    (step : ∀ f v, W (f + 1) v -> Tr X (gY (dA b k)) (S v) (aeE (fun s => ∃ v', s = S v' /\ W f v') Q)) {fuel : Nat} {v0 : V} (h : W fuel v0) : TrK X b k (S v0) Q := by
  refine TrK.loop (ι := { p : Nat × V // W p.1 p.2 }) hb (fun p => S p.1.2) (fun p => p.1.1) ⟨(fuel, v0), h⟩ (Ref.refl _ _) ?_
  rintro ⟨⟨f, v⟩, hw⟩
  cases f with
  | zero => exact absurd hw (W0 v)
  | succ f =>
    refine (step f v hw).mono fun e s q => ?_
    cases e with
    | normal =>
      obtain ⟨v', rfl, hv⟩ := q
      exact ⟨⟨(f, v'), hv⟩, Nat.lt_succ_self f, Ref.refl _ _⟩
    | exit id => exact q
    | goto l => exact q
    | ret => exact q
    | panic c => exact q
    | outgrown => exact q
theorem aaL : ∃ n : Nat, n = 2000000 := ⟨_, rfl⟩
noncomputable def fuel : Nat := Classical.choose aaL
theorem gW : fuel = 2000000 := Classical.choose_spec aaL
theorem TrK.ref {X : Cx} {b : Code} {k : Nat} {st st2 : VS} {Q : Exit -> VS -> Prop} (hr : Ref X.C st st2) (h : TrK X b k st2 Q) : TrK X b k st Q := by
  rw [Ve] at h ⊢
  exact Tr.ref hr h
theorem TrK.enter {X : Cx} {b : Code} {k : Nat} {st : VS} {Q : Exit -> VS -> Prop} (cv : List Cv) (bs ms : List Nat) (nm:Nat) (h : Lh bs ms nm (convs st cv) (TrK X b k ((convs st cv).mask bs ms nm) Q)) : TrK X b k st Q :=
  TrK.ref ((Le cv st).trans (uq h).1) (uq (C := X.C) h).2
end Go.Ag
