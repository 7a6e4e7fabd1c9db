import Derived.Test.YtbcegholicnflaaGreatBgT
import Derived.OpenShut
import Derived.ProofKit
set_option linter.unusedVariables false
set_option linter.unusedSimpArgs false
namespace Go.Ag
open Go.RowKit Go.ChangeShapes Go.WideShapes
inductive FT where
  | I (k : IntKind)
  | B
  | S (fs : List FT)
def FP (F : TypeId -> Option (List FT)) (C : TypeId -> Nat) : List Field -> Nat -> Option (List FT)
  | [], _ => some []
  | f :: r, off => match F f.type with
    | none => none
    | some a => cond (Nat.beq f.offset off && Nat.beq a.length (C f.type)) (match FP F C r (off + a.length) with
      | some b => some (a ++ b)
      | none => none) none
def Qk (P : Program) : Nat -> TypeId -> Option (List FT)
  | 0, _ => none
  | n + 1, t => match P.underlying t with
    | some .bool => some [.B]
    | some (.int k) => some [.I k]
    | some (.slice e) => match Qk P n e with
      | some fs => cond (Nat.beq fs.length (P.cellsOf e) && Nat.blt 0 fs.length) (some [.S fs]) none
      | none => none
    | some (.struct fs) => match FP (Qk P n) P.cellsOf fs.toList 0 with
      | some l => cond (Nat.beq l.length (P.cellsOf t)) (some l) none
      | none => none
    | some (.array m e) => match Qk P n e with
      | some fs => cond (Nat.beq fs.length (P.cellsOf e) && Nat.beq (m * fs.length) (P.cellsOf t)) (some (List.replicate m fs).flatten) none
      | none => none
    | _ => none
mutual
def uw (w : World) : FT -> Value -> Prop
  | .I k, v => ∃ n, v = .int k n /\ (Lit.int k n).wf = true
  | .B, v => ∃ b, v = .bool b
  | .S fs, v => v = .slice none 0 0 \/ ∃ (a : Addr) (len cap:Nat), v = .slice (some a) len cap /\ len <= cap /\ 0 < fs.length /\ ∀ i, i < len -> ∃ us, w.cells? 0 (a.add (i * fs.length)) fs.length = some us /\ eU w fs us
def eU (w : World) : List FT -> List Value -> Prop
  | [], vs => vs = []
  | f :: fs, vs => ∃ v r, vs = v :: r /\ uw w f v /\ eU w fs r
end
theorem eU.append {w : World} : ∀ {fs gs : List FT} {us vs : List Value}, eU w fs us -> eU w gs vs -> eU w (fs ++ gs) (us ++ vs)
  | [], gs, us, vs, h, h' => by unfold eU at h; subst h; exact h'
  | f :: fs, gs, us, vs, h, h' => by
    unfold eU at h
    obtain ⟨v, r, rfl, h1, h2⟩ := h
    show eU w (f :: (fs ++ gs)) (v :: (r ++ vs))
    unfold eU
    exact ⟨v, _, rfl, h1, eU.append h2 h'⟩
theorem eU.len {w : World} : ∀ {fs : List FT} {us : List Value}, eU w fs us -> us.length = fs.length
  | [], us, h => by unfold eU at h; subst h; rfl
  | f :: fs, us, h => by
    unfold eU at h
    obtain ⟨v, r, rfl, h1, h2⟩ := h
    simp [eU.len h2]
theorem Oq {w : World} {F : TypeId -> Option (List FT)} {C : TypeId -> Nat} {cs : List Value} : ∀ (l : List Field) (off:Nat) (fts : List FT), FP F C l off = some fts ->
    (∀ f ∈ l, ∀ a, F f.type = some a -> eU w a ((cs.drop f.offset).take (C f.type))) -> off + fts.length = cs.length -> eU w fts (cs.drop off)
  | [], off, fts, h, _, hl => by
    simp only [FP, Option.some.injEq] at h
    subst h
    simp only [List.length_nil, Nat.add_zero] at hl
    unfold eU
    rw [hl]
    exact List.drop_length
  | f :: r, off, fts, h, hr, hl => by
    unfold FP at h
    split at h
    . cases h
    . rename_i a ha
      cases hc : (Nat.beq f.offset off && Nat.beq a.length (C f.type)) with
      | false => rw [hc] at h; cases h
      | true =>
        rw [hc, cond_true] at h
        rw [Bool.and_eq_true] at hc
        have e1 := Nat.eq_of_beq_eq_true hc.1
        have e2 := Nat.eq_of_beq_eq_true hc.2
        split at h
        . rename_i b hb
          simp only [Option.some.injEq] at h
          subst h
          have h1 := hr f (by simp) a ha
          rw [e1, <- e2] at h1
          have h2 := Oq r (off + a.length) b hb (fun g hg => hr g (by simp [hg])) (by simp only [List.length_append] at hl; omega)
          have : cs.drop off = (cs.drop off).take a.length ++ cs.drop (off + a.length) := by
            rw [<- List.drop_drop, List.take_append_drop]
          rw [this]
          exact h1.append h2
        . cases h
theorem XB {w : World} {cs : List Value} {fs : List FT} : ∀ (m i:Nat), (∀ k, k < m -> eU w fs ((cs.drop ((i + k) * fs.length)).take fs.length)) -> (i + m) * fs.length = cs.length -> eU w (List.replicate m fs).flatten (cs.drop (i * fs.length))
  | 0, i, _, hl => by
    simp only [Nat.add_zero] at hl
    show eU w [] _
    unfold eU
    rw [hl]
    exact List.drop_length
  | m + 1, i, h, hl => by
    have h1 := h 0 (by omega)
    rw [Nat.add_zero] at h1
    have h2 := XB m (i + 1) (fun k hk => by have := h (k + 1) (by omega); rwa [show i + (k + 1) = i + 1 + k by omega] at this) (by rw [<- hl]; congr 1; omega)
    have : cs.drop (i * fs.length) = (cs.drop (i * fs.length)).take fs.length ++ cs.drop ((i + 1) * fs.length) := by
      rw [show (i + 1) * fs.length = i * fs.length + fs.length by rw [Nat.add_mul, Nat.one_mul], <- List.drop_drop, List.take_append_drop]
    rw [this, List.replicate_succ, List.flatten_cons]
    exact h1.append h2
section
variable {H : Type} {enc : TypeId × Value -> H} {P : Program} {w : World} {sp : Nat -> Bool} {held : Bool}
theorem Ce : ∀ (n fuel:Nat) (t : TypeId) (cs : List Value) (x : DataW H × List MemPlace) (fts : List FT), DataW.trod enc P w 0 sp held fuel t cs = some x -> Qk P n t = some fts -> eU w fts cs
  | 0, _, _, _, _, _, _, h => by cases h
  | n + 1, fuel, t, cs, x, fts, hd, h => by
    unfold Qk at h
    split at h
    . rename_i hu
      obtain ⟨b, rfl, _⟩ := DataW.trod_bool hu hd
      simp only [Option.some.injEq] at h
      subst h
      unfold eU eU uw
      exact ⟨_, _, rfl, ⟨b, rfl⟩, rfl⟩
    . rename_i k hu
      obtain ⟨m, rfl, _, hw⟩ := DataW.trod_int hu hd
      simp only [Option.some.injEq] at h
      subst h
      unfold eU eU uw
      exact ⟨_, _, rfl, ⟨m, rfl, hw⟩, rfl⟩
    . rename_i e hu
      split at h
      . rename_i fs hfs
        cases hc : (Nat.beq fs.length (P.cellsOf e) && Nat.blt 0 fs.length) with
        | false => rw [hc] at h; cases h
        | true =>
          rw [hc, cond_true] at h
          simp only [Option.some.injEq] at h
          subst h
          rw [Bool.and_eq_true, Nat.blt_eq] at hc
          have e1 := Nat.eq_of_beq_eq_true hc.1
          unfold eU eU uw
          rcases DataW.trod_slice hu hd with ⟨rfl, _⟩ | ⟨a, len, cap, elems, rest, m, _, rfl, _, _, hlc, _, hlen, hel, _⟩
          . exact ⟨_, _, rfl, .inl rfl, rfl⟩
          . refine ⟨_, _, rfl, .inr ⟨a, len, cap, rfl, hlc, hc.2, fun i hi => ?_⟩, rfl⟩
            have := hel i hi
            rw [List.getElem?_eq_getElem (by omega), Option.bind_eq_some_iff] at this
            obtain ⟨us, u1, u2⟩ := this
            rw [<- e1] at u1
            exact ⟨us, u1, Ce n m e us _ fs u2 hfs⟩
      . cases h
    . rename_i fs hu
      split at h
      . rename_i l hl
        cases hc : Nat.beq l.length (P.cellsOf t) with
        | false => rw [hc] at h; cases h
        | true =>
          rw [hc, cond_true] at h
          simp only [Option.some.injEq] at h
          subst h
          have e1 := Nat.eq_of_beq_eq_true hc
          obtain ⟨xs, m, _, _, hlen, hxs, hf⟩ := DataW.trod_struct hu hd
          have := Oq (w := w) (cs := cs) fs.toList 0 l hl (fun f hfm a ha => by
            obtain ⟨i, hi, he⟩ := List.getElem_of_mem hfm
            have h1 := hf i f (by rw [<- he]; simp at hi ⊢)
            have hi' : i < xs.length := by rw [hxs]; simpa using hi
            rw [List.getElem?_eq_getElem hi'] at h1
            exact Ce n m f.type _ _ a h1 ha) (by omega)
          simpa using this
      . cases h
    . rename_i m e hu
      split at h
      . rename_i fs hfs
        cases hc : (Nat.beq fs.length (P.cellsOf e) && Nat.beq (m * fs.length) (P.cellsOf t)) with
        | false => rw [hc] at h; cases h
        | true =>
          rw [hc, cond_true] at h
          simp only [Option.some.injEq] at h
          subst h
          rw [Bool.and_eq_true] at hc
          have e1 := Nat.eq_of_beq_eq_true hc.1
          have e2 := Nat.eq_of_beq_eq_true hc.2
          obtain ⟨xs, q, _, _, hlen, hxs, hf⟩ := DataW.trod_array hu hd
          have := XB (w := w) (cs := cs) (fs := fs) m 0 (fun k hk => by
            have h1 := hf k hk
            rw [List.getElem?_eq_getElem (by omega)] at h1
            rw [Nat.zero_add, e1]
            exact Ce n q e _ _ fs h1 hfs) (by rw [Nat.zero_add, hlen, e2])
          simpa using this
      . cases h
    . cases h
end
def Ew (w : World) : Env := ⟨fun _ => none, fun b o => w.cell? ⟨b, o, none⟩⟩
theorem apJ (w : World) : OJ (Ew w) w := fun b o v h => by
  have h : w.cell? ⟨b, o, none⟩ = some v := h
  refine ⟨?_, h⟩
  unfold World.cell? at h
  rcases Nat.lt_or_ge b w.heap.size with hb | hb
  . exact hb
  . rw [show w.heap[(⟨b, o, none⟩ : Addr).block]? = none from Array.getElem?_eq_none hb] at h
    cases h
mutual
def COk : FT -> Nat -> CF -> Prop
  | .I k, n, c => ∃ f : Nat -> Int, c = .I k f /\ ∀ i, i < n -> (Lit.int k (f i)).wf = true
  | .B, n, c => ∃ f : Nat -> Bool, c = .B f
  | .S fs, n, c => ∃ (nn : Nat -> Nat) (cc : Nat -> List CF), c = .S nn cc /\ ∀ i, i < n -> Lm fs (nn i) (cc i)
def Lm : List FT -> Nat -> List CF -> Prop
  | [], _, cs => cs = []
  | f :: fs, n, cs => ∃ c r, cs = c :: r /\ COk f n c /\ Lm fs n r
end
def FOk : FT -> AV -> Prop
  | .I k, a => ∃ n, a = .int k n /\ (Lit.int k n).wf = true
  | .B, a => ∃ b, a = .bool b
  | .S fs, a => ∃ n cols, a = .rs none n cols /\ Lm fs n cols
def ak4 : List FT -> List AV -> Prop
  | [], as => as = []
  | f :: fs, as => ∃ a r, as = a :: r /\ FOk f a /\ ak4 fs r
mutual
def aeI : FT -> CF
  | .I k => .I k (fun _ => 0)
  | .B => .B (fun _ => false)
  | .S fs => .S (fun _ => 0) (fun _ => Ql fs)
def Ql : List FT -> List CF
  | [] => []
  | f :: fs => aeI f :: Ql fs
end
mutual
theorem ahr : ∀ (f : FT), COk f 0 (aeI f)
  | .I k => by unfold COk aeI; exact ⟨_, rfl, fun i hi => by omega⟩
  | .B => by unfold COk aeI; exact ⟨_, rfl⟩
  | .S fs => by unfold COk aeI; exact ⟨_, _, rfl, fun i hi => by omega⟩
theorem Qm : ∀ (fs : List FT), Lm fs 0 (Ql fs)
  | [] => by unfold Lm Ql; rfl
  | f :: fs => by unfold Lm Ql; exact ⟨_, _, rfl, ahr f, Qm fs⟩
end
mutual
def acO (w : World) (b o s:Nat) : FT -> Nat -> CF
  | .I k, j => .I k (fun i => match w.cell? ⟨b, o + (i * s + j), none⟩ with | some (.int _ n) => n | _ => 0)
  | .B, j => .B (fun i => match w.cell? ⟨b, o + (i * s + j), none⟩ with | some (.bool x) => x | _ => false)
  | .S fs, j => .S (fun i => match w.cell? ⟨b, o + (i * s + j), none⟩ with | some (.slice _ l _) => l | _ => 0)
    (fun i => match w.cell? ⟨b, o + (i * s + j), none⟩ with | some (.slice (some a) _ _) => vJ w a.block a.off fs.length fs 0 | _ => Ql fs)
def vJ (w : World) (b o s:Nat) : List FT -> Nat -> List CF
  | [], _ => []
  | f :: fs, j => acO w b o s f j :: vJ w b o s fs (j + 1)
end
theorem Lp {w : World} {a : Addr} {s : Nat} {us : List Value} (h : w.cells? 0 a s = some us) : us.length = s /\ ∀ j, j < s -> w.cell? (a.add j) = us[j]? := by
  unfold World.cells? at h
  rw [if_pos (Nat.zero_le _)] at h
  refine ⟨by simpa using mapM_some_length h, fun j hj => ?_⟩
  exact mapM_some_get h j j (by simp [hj])
theorem cell_spot {w : World} {a : Addr} {v : Value} (h : w.cell? a = some v) : a.spot = none := by
  unfold World.cell? at h
  split at h
  . cases hs : a.spot with
    | none => rfl
    | some x => rw [hs] at h; cases h
  . cases h
theorem Uu (b o i q:Nat) : ((⟨b, o, none⟩ : Addr).add i).add q = ⟨b, o + (i + q), none⟩ := by
  unfold Addr.add
  by_cases h : i = 0 <;> by_cases h' : q = 0 <;> simp [h, h', Nat.add_assoc]
theorem acP (a : Addr) (n:Nat) : (a.add (0 * n)).add 0 = a := by
  rw [Nat.zero_mul]
  unfold Addr.add
  simp
theorem XC (w : World) (a : Addr) (len:Nat) : ∀ (fs : List FT), (∀ (b o s n j:Nat), (∀ i, i < n -> ∃ us : List Value, eU w fs us /\ ∀ q, q < us.length -> w.cell? ⟨b, o + (i * s + (j + q)), none⟩ = us[q]?) ->
    Lm fs n (vJ w b o s fs j) /\ ∀ (i:Nat) (us : List Value), i < n -> us.length = fs.length -> (∀ q, q < us.length -> w.cell? ⟨b, o + (i * s + (j + q)), none⟩ = us[q]?) -> fD (Ew w).ro (vJ w b o s fs j) i us) -> 0 < fs.length -> (∀ i, i < len -> ∃ us, w.cells? 0 (a.add (i * fs.length)) fs.length = some us /\ eU w fs us) ->
    Lm fs len (vJ w a.block a.off fs.length fs 0) /\ ∀ k, k < len -> a.spot = none /\ ∃ us, fD (Ew w).ro (vJ w a.block a.off fs.length fs 0) k us /\ us.length = fs.length /\ ∀ q, q < us.length -> (Ew w).ro a.block (a.off + (k * us.length + q)) = us[q]?
  | fs, go, hpos, h => by
    have hsp : ∀ i, i < len -> a.spot = none := fun i hi => by
      obtain ⟨us, u1, u2⟩ := h 0 (by omega)
      obtain ⟨g1, g2⟩ := Lp u1
      have := g2 0 hpos
      rw [List.getElem?_eq_getElem (by omega), acP] at this
      exact cell_spot this
    obtain ⟨c1, c2⟩ := go a.block a.off fs.length len 0 (fun i hi => by
      obtain ⟨us, u1, u2⟩ := h i hi
      obtain ⟨g1, g2⟩ := Lp u1
      refine ⟨us, u2, fun q hq => ?_⟩
      have := g2 q (by omega)
      have hs := hsp i hi
      have e : (a.add (i * fs.length)).add q = ⟨a.block, a.off + (i * fs.length + (0 + q)), none⟩ := by
        cases a
        cases hs
        rw [Uu, Nat.zero_add]
      rw [e] at this
      exact this)
    refine ⟨c1, fun k hk => ⟨hsp k hk, ?_⟩⟩
    obtain ⟨us, u1, u2⟩ := h k hk
    obtain ⟨g1, g2⟩ := Lp u1
    have hs := hsp k hk
    have hread : ∀ q, q < us.length -> w.cell? ⟨a.block, a.off + (k * fs.length + (0 + q)), none⟩ = us[q]? := fun q hq => by
      have := g2 q (by omega)
      have e : (a.add (k * fs.length)).add q = ⟨a.block, a.off + (k * fs.length + (0 + q)), none⟩ := by
        cases a
        cases hs
        rw [Uu, Nat.zero_add]
      rw [e] at this
      exact this
    refine ⟨us, c2 k us hk g1 hread, g1, fun q hq => ?_⟩
    have := hread q hq
    rw [Nat.zero_add, <- g1] at this
    exact this
mutual
theorem ahs (w : World) (b o s n:Nat) : ∀ (f : FT) (j:Nat), (∀ i, i < n -> ∃ v, w.cell? ⟨b, o + (i * s + j), none⟩ = some v /\ uw w f v) -> COk f n (acO w b o s f j) /\ ∀ i v, i < n -> w.cell? ⟨b, o + (i * s + j), none⟩ = some v -> CFR (Ew w).ro (acO w b o s f j) i v
  | .I k, j, h => by
    unfold COk acO
    refine ⟨⟨_, rfl, fun i hi => ?_⟩, fun i v hi hv => ?_⟩
    . obtain ⟨v, h1, h2⟩ := h i hi
      unfold uw at h2
      obtain ⟨m, rfl, hw⟩ := h2
      rw [h1]
      exact hw
    . obtain ⟨v', h1, h2⟩ := h i hi
      rw [hv] at h1
      cases h1
      unfold uw at h2
      obtain ⟨m, rfl, hw⟩ := h2
      unfold CFR
      simp only [hv]
  | .B, j, h => by
    unfold COk acO
    refine ⟨⟨_, rfl⟩, fun i v hi hv => ?_⟩
    obtain ⟨v', h1, h2⟩ := h i hi
    rw [hv] at h1
    cases h1
    unfold uw at h2
    obtain ⟨m, rfl⟩ := h2
    unfold CFR
    simp only [hv]
  | .S fs, j, h => by
    have key : ∀ i v, i < n -> w.cell? ⟨b, o + (i * s + j), none⟩ = some v -> v = .slice none 0 0 \/ ∃ (a : Addr) (len cap:Nat), v = .slice (some a) len cap /\ len <= cap /\ 0 < fs.length /\ (∀ k, k < len -> ∃ us, w.cells? 0 (a.add (k * fs.length)) fs.length = some us /\ eU w fs us) /\ Lm fs len (vJ w a.block a.off fs.length fs 0) /\
        ∀ k, k < len -> a.spot = none /\ ∃ us, fD (Ew w).ro (vJ w a.block a.off fs.length fs 0) k us /\ us.length = fs.length /\ ∀ q, q < us.length -> (Ew w).ro a.block (a.off + (k * us.length + q)) = us[q]? := by
      intro i v hi hv
      obtain ⟨v', h1, h2⟩ := h i hi
      rw [hv] at h1
      cases h1
      unfold uw at h2
      rcases h2 with h2 | ⟨a, len, cap, rfl, hlc, hpos, hel⟩
      . exact .inl h2
      . obtain ⟨c1, c2⟩ := XC w a len fs (fun b o s n j h => Qo w b o s n fs j h) hpos hel
        exact .inr ⟨a, len, cap, rfl, hlc, hpos, hel, c1, c2⟩
    unfold COk acO
    refine ⟨⟨_, _, rfl, fun i hi => ?_⟩, fun i v hi hv => ?_⟩
    . obtain ⟨v, h1, h2⟩ := h i hi
      rcases key i v hi h1 with rfl | ⟨a, len, cap, rfl, _, _, _, hc, _⟩
      . simp only [h1]; exact Qm fs
      . simp only [h1]; exact hc
    . unfold CFR
      rcases key i v hi hv with rfl | ⟨a, len, cap, rfl, hlc, hpos, _, _, hr⟩
      . simp only [hv]; exact .inl ⟨trivial, trivial⟩
      . simp only [hv]
        refine .inr ⟨a, cap, rfl, hlc, fun k hk => ?_⟩
        obtain ⟨r1, us, r2, r3, r4⟩ := hr k hk
        refine ⟨r1, ?_, us, r2, r4⟩
        cases fs with
        | nil => simp at hpos
        | cons f fs => unfold vJ; simp
theorem Qo (w : World) (b o s n:Nat) : ∀ (fs : List FT) (j:Nat), (∀ i, i < n -> ∃ us : List Value, eU w fs us /\ ∀ q, q < us.length -> w.cell? ⟨b, o + (i * s + (j + q)), none⟩ = us[q]?) ->
    Lm fs n (vJ w b o s fs j) /\ ∀ (i:Nat) (us : List Value), i < n -> us.length = fs.length -> (∀ q, q < us.length -> w.cell? ⟨b, o + (i * s + (j + q)), none⟩ = us[q]?) -> fD (Ew w).ro (vJ w b o s fs j) i us
  | [], j, h => by
    unfold Lm vJ fD
    exact ⟨rfl, fun i us _ hl _ => List.length_eq_zero_iff.1 hl⟩
  | f :: fs, j, h => by
    unfold Lm vJ
    obtain ⟨a1, a2⟩ := ahs w b o s n f j (fun i hi => by
      obtain ⟨us, u1, u2⟩ := h i hi
      unfold eU at u1
      obtain ⟨v, r, rfl, hv, _⟩ := u1
      exact ⟨v, by simpa using u2 0 (by simp), hv⟩)
    obtain ⟨b1, b2⟩ := Qo w b o s n fs (j + 1) (fun i hi => by
      obtain ⟨us, u1, u2⟩ := h i hi
      unfold eU at u1
      obtain ⟨v, r, rfl, _, hr⟩ := u1
      refine ⟨r, hr, fun q hq => ?_⟩
      have := u2 (q + 1) (by simp; omega)
      rw [show j + (q + 1) = j + 1 + q by omega] at this
      simpa using this)
    refine ⟨⟨_, _, rfl, a1, b1⟩, fun i us hi hl hu => ?_⟩
    cases us with
    | nil => simp at hl
    | cons v r =>
      unfold fD
      refine ⟨v, r, rfl, a2 i v hi (by simpa using hu 0 (by simp)), b2 i r hi (by simpa using hl) (fun q hq => ?_)⟩
      have := hu (q + 1) (by simp; omega)
      rw [show j + (q + 1) = j + 1 + q by omega] at this
      simpa using this
end
theorem aeJ (w : World) (a : Addr) (len:Nat) (fs : List FT) (hpos : 0 < fs.length) (h : ∀ i, i < len -> ∃ us, w.cells? 0 (a.add (i * fs.length)) fs.length = some us /\ eU w fs us) :
    Lm fs len (vJ w a.block a.off fs.length fs 0) /\ ∀ k, k < len -> a.spot = none /\ ∃ us, fD (Ew w).ro (vJ w a.block a.off fs.length fs 0) k us /\ us.length = fs.length /\ ∀ q, q < us.length -> (Ew w).ro a.block (a.off + (k * us.length + q)) = us[q]? :=
  XC w a len fs (fun b o s n j h => Qo w b o s n fs j h) hpos h
theorem open_cell {w : World} : ∀ {f : FT} {v : Value}, uw w f v -> ∃ a, FOk f a /\ VR (Ew w) a v
  | .I k, v, h => by
    unfold uw at h
    obtain ⟨n, rfl, hw⟩ := h
    exact ⟨.int k n, ⟨n, rfl, hw⟩, by unfold VR; rfl⟩
  | .B, v, h => by
    unfold uw at h
    obtain ⟨b, rfl⟩ := h
    exact ⟨.bool b, ⟨b, rfl⟩, by unfold VR; rfl⟩
  | .S fs, v, h => by
    unfold uw at h
    rcases h with rfl | ⟨a, len, cap, rfl, hlc, hpos, hel⟩
    . exact ⟨.rs none 0 (Ql fs), ⟨0, _, rfl, Qm fs⟩, by unfold VR; exact .inl ⟨by simp, rfl, rfl⟩⟩
    . obtain ⟨c1, c2⟩ := aeJ w a len fs hpos hel
      refine ⟨.rs none len (vJ w a.block a.off fs.length fs 0), ⟨len, _, rfl, c1⟩, ?_⟩
      unfold VR
      refine .inr ⟨by simp, a, cap, rfl, hlc, fun i hi => ?_⟩
      obtain ⟨r1, us, r2, r3, r4⟩ := c2 i hi
      refine ⟨r1, ?_, us, r2, r4⟩
      cases fs with
      | nil => simp at hpos
      | cons f fs => unfold vJ; simp
theorem Qp {w : World} : ∀ {fs : List FT} {vs : List Value}, eU w fs vs -> ∃ as, ak4 fs as /\ VRs (Ew w) as vs
  | [], vs, h => by unfold eU at h; subst h; exact ⟨[], rfl, by unfold VRs; rfl⟩
  | f :: fs, vs, h => by
    unfold eU at h
    obtain ⟨v, r, rfl, h1, h2⟩ := h
    obtain ⟨a, a1, a2⟩ := open_cell h1
    obtain ⟨as, b1, b2⟩ := Qp h2
    exact ⟨a :: as, ⟨a, as, rfl, a1, b1⟩, by unfold VRs; exact ⟨v, r, rfl, a2, b2⟩⟩
def Ot : Bool -> List FT -> AV -> Prop
  | true, fts, a => ∃ as, a = .agg as /\ ak4 fts as
  | false, [f], a => FOk f a
  | false, _, _ => False
def YH (P : Program) (t : TypeId) : Option Bool := match P.underlying t with
  | some (.struct _) => some true
  | some (.array _ _) => some true
  | some (.int _) => some false
  | some .bool => some false
  | some (.slice _) => some false
  | _ => none
section
variable {H : Type} {enc : TypeId × Value -> H} {P : Program} {W : World} {sp : Nat -> Bool} {held : Bool} {r : Reach} {base : Nat}
theorem open_arg {n : Nat} {t : TypeId} {v : Value} {d : DataW H} {ps : List MemPlace} {b : Bool} {fts : List FT} (hval : Value.okWide P W r base t v) (hd : DataW.Trod enc P W 0 sp held t v d ps) (hb : YH P t = some b) (hf : Qk P n t = some fts) :
    ∃ a, Ot b fts a /\ VR (Ew W) a v := by
  obtain ⟨fuel, hd⟩ := hd
  have hr := Ce n fuel t _ _ fts hd hf
  obtain ⟨as, h1, h2⟩ := Qp hr
  have one : v.cells = #[v] -> b = false -> ∃ a, Ot b fts a /\ VR (Ew W) a v := by
    rintro e rfl
    rw [e] at h2
    match as, h2 with
    | [a], h2 =>
      unfold VRs VRs at h2
      obtain ⟨v', vs, hl, h3, rfl⟩ := h2
      simp only [List.cons.injEq, and_true] at hl
      subst hl
      match fts, h1 with
      | [f], h1 =>
        obtain ⟨a', r', he, h4, _⟩ := h1
        simp only [List.cons.injEq] at he
        rw [<- he.1] at h4
        exact ⟨a, h4, h3⟩
      | f :: g :: fs, h1 =>
        obtain ⟨a', r', he, h4, h5⟩ := h1
        obtain ⟨a2, r2, he2, _⟩ := h5
        rw [he2] at he
        simp at he
      | [], h1 => cases h1
    | [], h2 => unfold VRs at h2; simp at h2
    | a :: a' :: as, h2 =>
      unfold VRs VRs at h2
      obtain ⟨v1, vs, hl, _, v2, vs2, rfl, _⟩ := h2
      simp at hl
  have many : (∃ cs, v = .agg cs) -> b = true -> ∃ a, Ot b fts a /\ VR (Ew W) a v := by
    rintro ⟨cs, rfl⟩ rfl
    refine ⟨.agg as, ⟨as, rfl, h1⟩, ?_⟩
    unfold VR
    exact ⟨_, rfl, h2⟩
  unfold YH at hb
  split at hb
  . rename_i fs hu
    simp only [Option.some.injEq] at hb
    unfold Value.okWide at hval
    rw [hu] at hval
    obtain ⟨cs, hc, _⟩ := hval
    exact many ⟨cs, hc⟩ hb.symm
  . rename_i m e hu
    simp only [Option.some.injEq] at hb
    unfold Value.okWide at hval
    rw [hu] at hval
    obtain ⟨cs, hc, _⟩ := hval
    exact many ⟨cs, hc⟩ hb.symm
  . rename_i k hu
    simp only [Option.some.injEq] at hb
    obtain ⟨m, rfl⟩ := okWide_int hu hval
    exact one rfl hb.symm
  . rename_i hu
    simp only [Option.some.injEq] at hb
    obtain ⟨m, rfl⟩ := okWide_bool hu hval
    exact one rfl hb.symm
  . rename_i e hu
    simp only [Option.some.injEq] at hb
    obtain ⟨a, l, c, rfl⟩ := okWide_slice hu hval
    exact one rfl hb.symm
  . cases hb
theorem acQ {f : FuncId} {fn : Func} {c : Code} {g : List AV -> Option (Prop × RT)} (hS : aU P f (.pure g)) (hf : P.funcs[f]? = some fn) (hb : fn.body = some c) (hnm : (fn.name == "runtime.NumGoroutine") = false)
    {as : List AV} {vs : List Value} {p : Prop} {rt : RT} (hg : g as = some (p, rt)) (hp : p) (hr : rt.val = .bool true) (hv : VRs (Ew W) as vs) :
    Calls P f vs.toArray W fun e w' => e = .returned (.bool true) /\ Below W.heap.size W w' := by
  have hv' : VRs (Ew W).bare as vs := hv
  rcases hS as p rt hg hp (Ew W) W vs (apJ W) hv' with ⟨_, h⟩ | ⟨v, w', h, _⟩
  . refine h.mono fun e w' hR => ?_
    obtain ⟨E', v, rfl, h1, _, _, _, hk⟩ := hR
    rw [hr] at h1
    unfold VR at h1
    subst h1
    exact ⟨rfl, hk.os, hk.tape, hk.output, hk.size, fun i hi => hk.block i hi (by omega)⟩
  . rw [rY hf hb hnm] at h
    cases h
theorem H7 (hl : laidOutB P = true) {W' : World} (hb : Below W.heap.size W W') {sp' : Nat -> Bool} : ∀ {ts : List TypeId} {vs : List Value} {ds : List (DataW H)} {ps : List MemPlace}, (∀ t ∈ ts, P.readableRec t = true /\ t < P.types.size) ->
    DataW.TrodAll enc P W 0 (fun _ => true) true ts vs ds ps -> (∀ x ∈ ps, x.block < W.heap.size) -> (∀ x ∈ ps, sp' x.block = true) -> DataW.TrodAll enc P W' 0 sp' true ts vs ds ps
  | [], vs, ds, ps, _, h, _, _ => by
    obtain ⟨rfl, rfl, rfl⟩ := trodAll_nil h
    exact trodAll_mk0
  | t :: ts, vs, ds, ps, ht, h, hlt, hs => by
    obtain ⟨v, vs', d, ds', p, q, rfl, rfl, rfl, h1, h2⟩ := trodAll_cons h
    obtain ⟨r1, r2⟩ := ht t (by simp)
    exact trodAll_cons_mk (WideElems.Trod_stays hl r1 r2 h1 (fun x hx => hb.same (hlt x (by simp [hx]))) (fun x hx => hs x (by simp [hx])))
      (H7 hl hb (fun t' ht' => ht t' (by simp [ht'])) h2 (fun x hx => hlt x (by simp [hx])) (fun x hx => hs x (by simp [hx])))
theorem aeK {f : Func} {s : ChangeSpec} {apart fresh handsOn again : Bool} {W' : World} {args : Array Value} {ds : List (DataW H)} {before : List MemPlace} (hl : laidOutB P = true) (ht : ∀ t ∈ f.params.toList, P.readableRec t = true /\ t < P.types.size)
    (hsv : s.vars = []) (hW : DataW.Whole enc P f.params.toList s.vars apart W args.toList ds [] before) (hres : (s.fn H (ds ++ [])).results = [.lit (.bool true)]) (harg : (s.fn H (ds ++ [])).args = ds) (hvar : (s.fn H (ds ++ [])).vars = [])
    (hb : Below W.heap.size W W') {tb : TypeId} (hrt : f.resultTypes = #[tb]) (hub : P.underlying tb = some .bool) : s.post enc P f apart fresh handsOn again W args (.bool true) W' := by
  have hold : ∀ p ∈ before, (fun b => decide (b < W.heap.size)) p.block = true := fun p hp => by simpa using hW.lt p hp
  have hW2 := hW
  obtain ⟨p, q, hA, hV, hpq, hz, hn⟩ := hW2
  rw [hsv] at hV
  obtain ⟨_, rfl⟩ := trodVars_none hV
  rw [List.append_nil] at hpq
  subst hpq
  have hlt : ∀ x ∈ before, x.block < W.heap.size := fun x hx => hW.lt x hx
  have args' : ∀ sp : Nat -> Bool, (∀ x ∈ before, sp x.block = true) -> DataW.TrodAll enc P W' 0 sp true f.params.toList args.toList (s.fn H (ds ++ [])).args before := fun sp hsp => by
    rw [harg]; exact H7 hl hb ht hA hlt hsp
  have vars' : ∀ sp : Nat -> Bool, DataW.TrodVars enc P W' sp s.vars (s.fn H (ds ++ [])).vars [] := fun sp => by rw [hsv, hvar]; rfl
  have res' : ∀ (b:Nat) (sp : Nat -> Bool) (hd:Bool), DataW.TrodAll enc P W' b sp hd f.resultTypes.toList ((Value.bool true).resultList f.resultTypes.size) (s.fn H (ds ++ [])).results [] := fun b sp hd => by
    rw [hres, hrt]
    exact trodAll_mk1 (shut_bool hub true)
  refine ⟨ds, [], before, [], before, [], hW, res' _ _ _, args' _ hold, vars' _, ?_, fun _ => ?_⟩
  . exact ⟨hb.os, hb.output, fun i hi => by
      rw [hb.block i hi]
      cases W.heap[i]? with
      | none => rfl
      | some o => cases o <;> first | exact ⟨rfl, rfl, rfl, fun _ _ => rfl⟩ | exact .inr ⟨rfl, rfl⟩ | rfl⟩
  . refine ⟨ok_one hrt rfl (okWide_bool_mk hub true), _, _, ([] ++ before) ++ [], ⟨[] ++ before, [], trodAll_append (args' _ (fun _ _ => rfl)) (res' _ _ _), vars' _, rfl, ?_, ?_⟩, ?_⟩
    . intro b off hp
      have hp' : MemPlace.cell b off ∈ before := by simpa using hp
      have hbb : b < W.heap.size := hlt _ hp'
      have : W'.frozen? ⟨b, off, none⟩ = W.frozen? ⟨b, off, none⟩ := by
        unfold World.frozen?
        rw [hb.block b hbb]
      rw [this]
      exact hz b off hp'
    . intro ha
      simpa using hn ha
    . intro p hp _
      simpa using hp
end
end Go.Ag
