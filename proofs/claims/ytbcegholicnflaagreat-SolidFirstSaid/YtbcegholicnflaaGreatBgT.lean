import Derived.Test.YtbcegholicnflaaGreatBgS
set_option linter.unusedVariables false
set_option linter.unusedSimpArgs false
namespace Go.Ag
open Go.RowKit
def dO {α : Type} (n:Nat) (f g : Nat -> α) : Nat -> α := fun i => cond (Nat.blt i n) (f i) (g (i - n))
def ay {α : Type} (n:Nat) (f : Nat -> α) (x : α) : Nat -> α := fun i => cond (Nat.blt i n) (f i) x
def Kq {α : Type} (i:Nat) (f : Nat -> α) (x : α) : Nat -> α := fun k => cond (Nat.beq k i) x (f k)
def Oo {α : Type} (l:Nat) (f : Nat -> α) : Nat -> α := fun i => f (l + i)
def Qj {α : Type} (n:Nat) (f : Nat -> Nat -> α) (g : Nat -> α) : Nat -> Nat -> α := fun i j => cond (Nat.blt i n) (f i j) (g j)
inductive KC where
  | I (k : IntKind)
  | B
  | S
def KC.is : KC -> CF -> Bool
  | .I k, .I k' _ => decide (k = k')
  | .B, .B _ => true
  | .S, .S _ _ => true
  | _, _ => false
def Ll : List KC -> List CF -> Bool
  | [], [] => true
  | k :: ks, c :: cs => k.is c && Ll ks cs
  | _, _ => false
def fG (ks : List KC) : List CF -> Bool
  | [] => true
  | c :: cs => Ll ks (c :: cs)
def nOf (n:Nat) : List CF -> Nat
  | [] => 0
  | _ :: _ => n
def CF.int : CF -> Nat -> Int
  | .I _ f => f
  | _ => fun _ => 0
def CF.boo : CF -> Nat -> Bool
  | .B f => f
  | _ => fun _ => false
def CF.sn : CF -> Nat -> Nat
  | .S n _ => n
  | _ => fun _ => 0
def CF.sc : CF -> Nat -> List CF
  | .S _ c => c
  | _ => fun _ => []
def Xz : List CF -> Nat -> CF
  | [], _ => .B (fun _ => false)
  | c :: _, 0 => c
  | _ :: cs, n + 1 => Xz cs n
def aA (cs : List CF) (j:Nat) : Nat -> Int := (Xz cs j).int
def bP (cs : List CF) (j:Nat) : Nat -> Bool := (Xz cs j).boo
def Ah (cs : List CF) (j:Nat) : Nat -> Nat := (Xz cs j).sn
def iW (cs : List CF) (j:Nat) : Nat -> List CF := (Xz cs j).sc
def Hg : List KC -> Nat -> List CF -> List CF
  | [], _, _ => []
  | .I k :: ks, j, cs => .I k (aA cs j) :: Hg ks (j + 1) cs
  | .B :: ks, j, cs => .B (bP cs j) :: Hg ks (j + 1) cs
  | .S :: ks, j, cs => .S (Ah cs j) (iW cs j) :: Hg ks (j + 1) cs
theorem xW (c : CF) : ∀ (ks : List KC) (j:Nat) (cs : List CF), Hg ks (j + 1) (c :: cs) = Hg ks j cs
  | [], j, cs => rfl
  | .I k :: ks, j, cs => by simp only [Hg, xW c ks]; rfl
  | .B :: ks, j, cs => by simp only [Hg, xW c ks]; rfl
  | .S :: ks, j, cs => by simp only [Hg, xW c ks]; rfl
theorem aaM : ∀ {ks : List KC} {cs : List CF}, Ll ks cs = true -> Hg ks 0 cs = cs
  | [], [], _ => rfl
  | [], c :: cs, h => by simp [Ll] at h
  | k :: ks, [], h => by simp [Ll] at h
  | k :: ks, c :: cs, h => by
    simp only [Ll, Bool.and_eq_true] at h
    obtain ⟨h1, h2⟩ := h
    have ih := aaM h2
    cases k <;> cases c <;> simp [KC.is] at h1
    . subst h1; simp only [Hg, xW, ih]; rfl
    . simp only [Hg, xW, ih]; rfl
    . simp only [Hg, xW, ih]; rfl
def AV.le (a b : AV) : Prop := ∀ (E : Env) (v : Value), VR E a v -> VR E b v
def AV.les (as bs : List AV) : Prop := ∀ (E : Env) (l : List Value), VRs E as l -> VRs E bs l
theorem AV.le.refl (a : AV) : AV.le a a := fun _ _ h => h
theorem AV.les.nil : AV.les [] [] := fun _ _ h => h
theorem AV.les.cons {a b : AV} {as bs : List AV} (h : AV.le a b) (hs : AV.les as bs) : AV.les (a :: as) (b :: bs) := fun E l hl => by
  obtain ⟨v, vs, rfl, h1, h2⟩ := hl.cons_inv
  exact VRs.cons (h E v h1) (hs E vs h2)
theorem AV.le.agg {as bs : List AV} (h : AV.les as bs) : AV.le (.agg as) (.agg bs) := fun E v hv => by
  unfold VR at *
  obtain ⟨l, h1, h2⟩ := hv
  exact ⟨l, h1, h E l h2⟩
theorem AV.le.ifc {t : TypeId} {a b : AV} (h : AV.le a b) : AV.le (.ifc t a) (.ifc t b) := fun E v hv => by
  unfold VR at *
  obtain ⟨y, h1, h2⟩ := hv
  exact ⟨y, h1, h E y h2⟩
theorem AV.le.fn {f : FuncId} {as bs : List AV} (h : AV.les as bs) : AV.le (.fn f as) (.fn f bs) := fun E v hv => by
  unfold VR at *
  obtain ⟨l, h1, h2⟩ := hv
  exact ⟨l, h1, h E l h2⟩
theorem AV.le.rs {q : Option Bool} {n : Nat} {c : List CF} {ks : List KC} (h : fG ks c = true) : AV.le (.rs q n c) (.rs none (nOf n c) (Hg ks 0 c)) := fun E v hv => by
  cases c with
  | nil =>
    have hv := hv.Yq
    rcases hv with ⟨h1, h2⟩ | ⟨a, cp, h1, h2, h3⟩
    . unfold VR; exact .inl ⟨by simp, rfl, h2⟩
    . have h0 : n = 0 := by
        rcases Nat.eq_zero_or_pos n with h | h
        . exact h
        . exact absurd rfl (h3 0 h).2.1
      subst h0
      unfold VR
      exact .inr ⟨by simp, a, cp, h1, h2, fun i hi => absurd hi (Nat.not_lt_zero _)⟩
  | cons c0 cs =>
    rw [aaM h]
    exact hv.U0
theorem CFR.le {ro : Nat -> Nat -> Option Value} {n n' : Nat -> Nat} {c c' : Nat -> List CF} {k : Nat} {v : Value} (hn : n k = n' k) (hne : c k ≠ [] -> c' k ≠ []) (hc : c k ≠ [] -> c k = c' k) (h : CFR ro (.S n c) k v) : CFR ro (.S n' c') k v := by
  rw [CFR.BD] at *
  exact h.congr hn hne (fun hh i us hu => (hc hh) ▸ hu)
def qAV : AV -> Bool
  | .rs (some z) _ _ => z
  | .sl (some z) _ _ _ => z
  | _ => false
def nAB : AB -> Nat
  | .many _ _ n _ => n
  | _ => 0
def cAB : AB -> List CF
  | .many _ _ _ c => c
  | _ => []
def fK (st : VS) (b:Nat) : AB := aS .gone st.mem b
def tAt (st : VS) (t:Nat) : AV := aS .dead st.tmps t
def mAt (st : VS) (b c:Nat) : AV := match aS .gone st.mem b with
  | .one _ _ cs => aS .dead cs c
  | _ => .dead
def TL (ks ms : List Nat) (nm:Nat) (st : VS) (S : VS -> VS) (W : VS -> Prop) : Prop := Lh ks ms nm st (st.mask ks ms nm = S st /\ W st)
theorem lF {X : Cx} {b : Code} {k : Nat} {ks ms : List Nat} {nm : Nat} {st : VS} {cv : List Cv} {S : VS -> VS} {W : VS -> Prop} {Q : Exit -> VS -> Prop} (h : TL ks ms nm (convs st cv) S W) (hL : W (convs st cv) -> TrK X b k (S (convs st cv)) Q) : TrK X b k st Q := by
  obtain ⟨h1, h2, h3⟩ := uq (C := X.C) h
  refine TrK.ref ((Le cv st).trans h1) ?_
  rw [h2]
  exact hL h3
def XA : List (Nat × String × Nat) -> Nat -> String -> Option Nat
  | [], _, _ => none
  | (t', n', f) :: r, t, n => cond (Nat.beq t' t && (n' == n)) (some f) (XA r t n)
theorem Ut : ∀ {l : List (Nat × String × Nat)} {t : Nat} {n : String} {f : Nat}, XA l t n = some f -> (t, n, f) ∈ l
  | [], t, n, f, h => by cases h
  | (t', n', f') :: r, t, n, f, h => by
    unfold XA at h
    cases hc : (Nat.beq t' t && (n' == n)) with
    | true =>
      rw [hc, cond_true] at h
      rw [Bool.and_eq_true] at hc
      have e1 := Nat.eq_of_beq_eq_true hc.1
      have e2 : n' = n := by simpa using hc.2
      cases h
      subst e1 e2
      exact List.mem_cons_self
    | false =>
      rw [hc, cond_false] at h
      exact List.mem_cons_of_mem _ (Ut h)
end Go.Ag
