import Derived.Test.YtbcegholicnflaaGreatBgA
set_option linter.unusedVariables false
set_option linter.unusedSimpArgs false
namespace Go.Ag
theorem gy {α : Type} (d : α) : ∀ (l : List α) (n:Nat), aS d l n = l.getD n d
  | [], n => by simp [aS]
  | x :: xs, 0 => by simp [aS]
  | x :: xs, n + 1 => by simp [aS, gy d xs n]
theorem pR {α : Type} : ∀ (l : List α) (n:Nat) (y : α), setAt l n y = l.set n y
  | [], n, y => by simp [setAt]
  | x :: xs, 0, y => by simp [setAt]
  | x :: xs, n + 1, y => by simp [setAt, pR xs n y]
theorem JR {α : Type} : ∀ (n:Nat) (l : List α), takeN n l = l.take n
  | 0, l => by simp [takeN]
  | n + 1, [] => by simp [takeN]
  | n + 1, x :: xs => by simp [takeN, JR n xs]
theorem JU {α : Type} : ∀ (n:Nat) (l : List α), EW n l = l.drop n
  | 0, l => by simp [EW]
  | n + 1, [] => by simp [EW]
  | n + 1, x :: xs => by simp [EW, JU n xs]
theorem jE {α : Type} : ∀ (l : List α), jJ l = l.length
  | [] => rfl
  | x :: xs => by simp [jJ, jE xs]
theorem Gy : ∀ (m : Mem) (n:Nat), extend m n = m ++ List.replicate n AB.gone
  | [], n => by simp [extend]
  | x :: xs, n => by simp [extend, Gy xs n]
theorem cu {α : Type} (l : List α) (n:Nat) (y : α) : (setAt l n y).length = l.length := by simp [pR]
theorem bV {α : Type} (d : α) {l : List α} {n : Nat} (y : α) (h : n < l.length) : aS d (setAt l n y) n = y := by
  simp [gy, pR, h]
theorem aP {α : Type} (d : α) (l : List α) {n k : Nat} (y : α) (h : n ≠ k) : aS d (setAt l n y) k = aS d l k := by
  simp [gy, pR, h]
theorem kZ {α : Type} (d : α) {l : List α} {n : Nat} (h : l.length <= n) : aS d l n = d := by
  simp [gy, h]
structure Bl where
  blk : Nat
  cap : Nat
  sz : Nat
  len : Nat
structure Env where
  bl : Nat -> Option Bl
  ro : Nat -> Nat -> Option Value
def Bl.addr (x : Bl) (i j:Nat) : Addr := ⟨x.blk, i * x.sz + j, none⟩
def Env.bare (E : Env) : Env := ⟨fun _ => none, E.ro⟩
structure Env.le (E E' : Env) : Prop where
  bl : ∀ b x, E.bl b = some x -> E'.bl b = some x
  ro : ∀ b o v, E.ro b o = some v -> E'.ro b o = some v
theorem Env.le.refl (E : Env) : E.le E := ⟨fun _ _ h => h, fun _ _ _ h => h⟩
theorem Env.le.trans {E E' E'' : Env} (h : E.le E') (h' : E'.le E'') : E.le E'' := ⟨fun b x e => h'.bl b x (h.bl b x e), fun b o v e => h'.ro b o v (h.ro b o v e)⟩
structure Env.leX (k:Nat) (E E' : Env) : Prop where
  bl : ∀ b x, b ≠ k -> E.bl b = some x -> E'.bl b = some x
  ro : ∀ b o v, E.ro b o = some v -> E'.ro b o = some v
mutual
def CFR (ro : Nat -> Nat -> Option Value) : CF -> Nat -> Value -> Prop
  | .I kk f, k, v => v = .int kk (f k)
  | .B f, k, v => v = .bool (f k)
  | .S n c, k, v => (n k = 0 /\ v = .slice none 0 0) \/ ∃ (a : Addr) (cp:Nat), v = .slice (some a) (n k) cp /\ n k <= cp /\
      ∀ i, i < n k -> a.spot = none /\ c k ≠ [] /\ ∃ us : List Value, fD ro (c k) i us /\ ∀ j, j < us.length -> ro a.block (a.off + (i * us.length + j)) = us[j]?
def fD (ro : Nat -> Nat -> Option Value) : List CF -> Nat -> List Value -> Prop
  | [], _, us => us = []
  | c :: cs, k, us => ∃ v vs, us = v :: vs /\ CFR ro c k v /\ fD ro cs k vs
end
mutual
def VR (E : Env) : AV -> Value -> Prop
  | .dead, _ => True
  | .int k n, v => v = .int k n
  | .bool b, v => v = .bool b
  | .nilp, v => v = .pointer none
  | .ptr _ b i j, v => ∃ x, E.bl b = some x /\ v = .pointer (some (x.addr i j))
  | .nils, v => v = .slice none 0 0
  | .sl q b n s, v => (q ≠ some false /\ n = 0 /\ v = .slice none 0 0) \/ (q ≠ some true /\ ∃ x, E.bl b = some x /\ x.sz = s /\ 0 < s /\ x.len = n /\ n <= x.cap /\ v = .slice (some (x.addr 0 0)) n x.cap)
  | .agg cs, v => ∃ l : List Value, v = .agg l.toArray /\ VRs E cs l
  | .tup cs, v => ∃ l : List Value, v = .tuple l.toArray /\ VRs E cs l
  | .ifc t a, v => ∃ y, v = .iface t y /\ VR E a y
  | .nili, v => v = .nilIface
  | .fn f cap, v => ∃ l : List Value, v = .func (.func f) #[] l.toArray /\ VRs E cap l
  | .raw u, v => v = u
  | .rs q n cols, v => (q ≠ some false /\ n = 0 /\ v = .slice none 0 0) \/ (q ≠ some true /\ ∃ (a : Addr) (cp:Nat), v = .slice (some a) n cp /\ n <= cp /\
      ∀ i, i < n -> a.spot = none /\ cols ≠ [] /\ ∃ us : List Value, fD E.ro cols i us /\ ∀ j, j < us.length -> E.ro a.block (a.off + (i * us.length + j)) = us[j]?)
  | .rp cells j, v => ∃ (a : Addr) (us : List Value), v = .pointer (some (a.add j)) /\ a.spot = none /\ VRs E.bare cells us /\ ∀ k, k < us.length -> E.ro a.block (a.off + k) = us[k]?
def VRs (E : Env) : List AV -> List Value -> Prop
  | [], l => l = []
  | a :: as, l => ∃ v vs, l = v :: vs /\ VR E a v /\ VRs E as vs
end
theorem Xg {s : Nat} {us : List Value} {f f' : Nat -> Option Value} (hl : us.length = s) (h : ∀ j v, f j = some v -> f' j = some v) (hu : ∀ j, j < s -> f j = us[j]?) : ∀ j, j < s -> f' j = us[j]? := by
  intro j hj
  have := hu j hj
  rw [List.getElem?_eq_getElem (by omega)] at this ⊢
  exact h j _ this
mutual
theorem CFR.mono {ro ro' : Nat -> Nat -> Option Value} (h : ∀ b o v, ro b o = some v -> ro' b o = some v) : ∀ (c : CF) (k:Nat) {v : Value}, CFR ro c k v -> CFR ro' c k v
  | .I kk f, k, _, hv => by unfold CFR at *; exact hv
  | .B f, k, _, hv => by unfold CFR at *; exact hv
  | .S n c, k, _, hv => by
    unfold CFR at *
    rcases hv with hv | ⟨a, cp, hv, hc, hg⟩
    . exact .inl hv
    . refine .inr ⟨a, cp, hv, hc, fun i hi => ?_⟩
      obtain ⟨h1, h2, us, h3, h4⟩ := hg i hi
      exact ⟨h1, h2, us, fD.mono h (c k) i h3, Xg rfl (fun j v e => h _ _ v e) h4⟩
theorem fD.mono {ro ro' : Nat -> Nat -> Option Value} (h : ∀ b o v, ro b o = some v -> ro' b o = some v) : ∀ (cs : List CF) (k:Nat) {us : List Value}, fD ro cs k us -> fD ro' cs k us
  | [], _, _, hv => by unfold fD at *; exact hv
  | c :: cs, k, _, hv => by
    unfold fD at *
    obtain ⟨v, vs, h1, h2, h3⟩ := hv
    exact ⟨v, vs, h1, CFR.mono h c k h2, fD.mono h cs k h3⟩
end
theorem Env.le.bare {E E' : Env} (h : E.le E') : E.bare.le E'.bare := ⟨fun b x e => e, fun b o v e => h.ro b o v e⟩
theorem Env.aav (E : Env) : E.bare.le E := ⟨fun _ _ e => (by cases e), fun _ _ _ h => h⟩
theorem Env.aaw {E E' : Env} (h : ∀ b o v, E.ro b o = some v -> E'.ro b o = some v) : E.bare.le E'.bare := ⟨fun b x e => e, fun b o v e => h b o v e⟩
mutual
theorem VR.mono {E E' : Env} (h : E.le E') : ∀ (a : AV) {v : Value}, VR E a v -> VR E' a v
  | .dead, _, hv => by unfold VR; trivial
  | .int k n, _, hv => by unfold VR at *; exact hv
  | .bool b, _, hv => by unfold VR at *; exact hv
  | .nilp, _, hv => by unfold VR at *; exact hv
  | .ptr e b i j, _, hv => by
    unfold VR at *
    obtain ⟨x, hx, hv⟩ := hv
    exact ⟨x, h.bl _ _ hx, hv⟩
  | .nils, _, hv => by unfold VR at *; exact hv
  | .sl q b n s, _, hv => by
    unfold VR at *
    rcases hv with hv | ⟨hq, x, hx, hv⟩
    . exact .inl hv
    . exact .inr ⟨hq, x, h.bl _ _ hx, hv⟩
  | .agg cs, _, hv => by
    unfold VR at *
    obtain ⟨l, hv, hl⟩ := hv
    exact ⟨l, hv, VRs.mono h cs hl⟩
  | .tup cs, _, hv => by
    unfold VR at *
    obtain ⟨l, hv, hl⟩ := hv
    exact ⟨l, hv, VRs.mono h cs hl⟩
  | .ifc t a, _, hv => by
    unfold VR at *
    obtain ⟨y, hv, hy⟩ := hv
    exact ⟨y, hv, VR.mono h a hy⟩
  | .nili, _, hv => by unfold VR at *; exact hv
  | .fn f cap, _, hv => by
    unfold VR at *
    obtain ⟨l, hv, hl⟩ := hv
    exact ⟨l, hv, VRs.mono h cap hl⟩
  | .raw u, _, hv => by unfold VR at *; exact hv
  | .rs q n cols, _, hv => by
    unfold VR at *
    rcases hv with hv | ⟨hq, a, c, hv, hc, hg⟩
    . exact .inl hv
    . refine .inr ⟨hq, a, c, hv, hc, fun i hi => ?_⟩
      obtain ⟨h1, h2, us, h3, h4⟩ := hg i hi
      exact ⟨h1, h2, us, fD.mono h.ro cols i h3, Xg rfl (fun j v e => h.ro _ _ v e) h4⟩
  | .rp cells j, _, hv => by
    unfold VR at *
    obtain ⟨a, us, hv, hsp, h1, h2⟩ := hv
    exact ⟨a, us, hv, hsp, VRs.mono h.bare cells h1, Xg rfl (fun j v e => h.ro _ _ v e) h2⟩
theorem VRs.mono {E E' : Env} (h : E.le E') : ∀ (as : List AV) {l : List Value}, VRs E as l -> VRs E' as l
  | [], _, hl => by unfold VRs at *; exact hl
  | a :: as, _, hl => by
    unfold VRs at *
    obtain ⟨v, vs, hl, h1, h2⟩ := hl
    exact ⟨v, vs, hl, VR.mono h a h1, VRs.mono h as h2⟩
end
theorem VR.Pm {E E' : Env} (h : ∀ b o v, E.ro b o = some v -> E'.ro b o = some v) {q : Option Bool} {n : Nat} {cols : List CF} {v : Value} (hv : VR E (.rs q n cols) v) : VR E' (.rs q n cols) v := by
  unfold VR at *
  rcases hv with hv | ⟨hq, a, c, hv, hc, hg⟩
  . exact .inl hv
  . refine .inr ⟨hq, a, c, hv, hc, fun i hi => ?_⟩
    obtain ⟨h1, h2, us, h3, h4⟩ := hg i hi
    exact ⟨h1, h2, us, fD.mono h cols i h3, Xg rfl (fun j v e => h _ _ v e) h4⟩
theorem VR.Pn {E E' : Env} (h : ∀ b o v, E.ro b o = some v -> E'.ro b o = some v) {cells : List AV} {j : Nat} {v : Value} (hv : VR E (.rp cells j) v) : VR E' (.rp cells j) v := by
  unfold VR at *
  obtain ⟨a, us, hv, hsp, h1, h2⟩ := hv
  exact ⟨a, us, hv, hsp, VRs.mono (Env.aaw h) cells h1, Xg rfl (fun j v e => h _ _ v e) h2⟩
theorem VR.U0 {E : Env} {q : Option Bool} {n : Nat} {cols : List CF} {v : Value} (hv : VR E (.rs q n cols) v) : VR E (.rs none n cols) v := by
  unfold VR at *
  rcases hv with ⟨_, hv⟩ | ⟨_, hv⟩
  . exact .inl ⟨by simp, hv⟩
  . exact .inr ⟨by simp, hv⟩
theorem VR.acD {E : Env} {v : Value} (hv : VR E .nils v) : VR E (.rs none 0 []) v := by
  unfold VR at *
  exact .inl ⟨by simp, rfl, hv⟩
mutual
theorem VR.free {E E' : Env} (h : ∀ b o v, E.ro b o = some v -> E'.ro b o = some v) : ∀ (a : AV) {v : Value}, a.free = true -> VR E a v -> VR E' a v
  | .dead, _, _, hv => by unfold VR; trivial
  | .int k n, _, _, hv => by unfold VR at *; exact hv
  | .bool b, _, _, hv => by unfold VR at *; exact hv
  | .nilp, _, _, hv => by unfold VR at *; exact hv
  | .ptr e b i j, _, hf, hv => by unfold AV.free at hf; cases hf
  | .nils, _, _, hv => by unfold VR at *; exact hv
  | .sl q b n s, _, hf, hv => by unfold AV.free at hf; cases hf
  | .agg cs, _, hf, hv => by
    unfold AV.free at hf
    unfold VR at *
    obtain ⟨l, hv, hl⟩ := hv
    exact ⟨l, hv, VRs.free h cs hf hl⟩
  | .tup cs, _, hf, hv => by
    unfold AV.free at hf
    unfold VR at *
    obtain ⟨l, hv, hl⟩ := hv
    exact ⟨l, hv, VRs.free h cs hf hl⟩
  | .ifc t a, _, hf, hv => by
    unfold AV.free at hf
    unfold VR at *
    obtain ⟨y, hv, hy⟩ := hv
    exact ⟨y, hv, VR.free h a hf hy⟩
  | .nili, _, _, hv => by unfold VR at *; exact hv
  | .fn f cap, _, hf, hv => by
    unfold AV.free at hf
    unfold VR at *
    obtain ⟨l, hv, hl⟩ := hv
    exact ⟨l, hv, VRs.free h cap hf hl⟩
  | .raw u, _, _, hv => by unfold VR at *; exact hv
  | .rs q n cols, _, _, hv => VR.Pm h hv
  | .rp cells j, _, _, hv => VR.Pn h hv
theorem VRs.free {E E' : Env} (h : ∀ b o v, E.ro b o = some v -> E'.ro b o = some v) : ∀ (as : List AV) {l : List Value}, AV.frees as = true -> VRs E as l -> VRs E' as l
  | [], _, _, hl => by unfold VRs at *; exact hl
  | a :: as, _, hf, hl => by
    unfold AV.frees at hf
    rw [Bool.and_eq_true] at hf
    unfold VRs at *
    obtain ⟨v, vs, hl, h1, h2⟩ := hl
    exact ⟨v, vs, hl, VR.free h a hf.1 h1, VRs.free h as hf.2 h2⟩
end
mutual
theorem VR.norm {E : Env} : ∀ (a : AV) {v : Value}, VR E a v -> VR E a.norm v
  | .dead, _, hv => by unfold AV.norm; exact hv
  | .int k n, _, hv => by unfold AV.norm; exact hv
  | .bool b, _, hv => by unfold AV.norm; exact hv
  | .nilp, _, hv => by unfold AV.norm; exact hv
  | .ptr e b i j, _, hv => by unfold AV.norm; exact hv
  | .nils, _, hv => by unfold AV.norm; exact hv.acD
  | .sl q b n s, _, hv => by unfold AV.norm; exact hv
  | .agg cs, _, hv => by
    unfold AV.norm; unfold VR at *
    obtain ⟨l, hv, hl⟩ := hv
    exact ⟨l, hv, VRs.norm cs hl⟩
  | .tup cs, _, hv => by
    unfold AV.norm; unfold VR at *
    obtain ⟨l, hv, hl⟩ := hv
    exact ⟨l, hv, VRs.norm cs hl⟩
  | .ifc t a, _, hv => by
    unfold AV.norm; unfold VR at *
    obtain ⟨y, hv, hy⟩ := hv
    exact ⟨y, hv, VR.norm a hy⟩
  | .nili, _, hv => by unfold AV.norm; exact hv
  | .fn f cap, _, hv => by
    unfold AV.norm; unfold VR at *
    obtain ⟨l, hv, hl⟩ := hv
    exact ⟨l, hv, VRs.norm cap hl⟩
  | .raw u, _, hv => by unfold AV.norm; exact hv
  | .rs q n cols, _, hv => by unfold AV.norm; exact hv.U0
  | .rp cells j, _, hv => by unfold AV.norm; exact hv
theorem VRs.norm {E : Env} : ∀ (as : List AV) {l : List Value}, VRs E as l -> VRs E (AV.PL as) l
  | [], _, hl => by unfold AV.PL; exact hl
  | a :: as, _, hl => by
    unfold AV.PL
    unfold VRs at *
    obtain ⟨v, vs, hl, h1, h2⟩ := hl
    exact ⟨v, vs, hl, VR.norm a h1, VRs.norm as h2⟩
end
theorem VR.dead {E : Env} {v : Value} : VR E .dead v := by unfold VR; trivial
theorem beq_false {n m : Nat} (h : Nat.beq n m = false) : n ≠ m := fun e => by subst e; rw [Nat.beq_refl] at h; cases h
mutual
theorem VR.kill {E E' : Env} {k : Nat} (h : E.leX k E') : ∀ (a : AV) {v : Value}, VR E a v -> VR E' (a.kill k) v
  | .dead, _, hv => by unfold AV.kill; exact VR.dead
  | .int _ n, _, hv => by unfold AV.kill; unfold VR at *; exact hv
  | .bool b, _, hv => by unfold AV.kill; unfold VR at *; exact hv
  | .nilp, _, hv => by unfold AV.kill; unfold VR at *; exact hv
  | .ptr e b i j, _, hv => by
    unfold AV.kill
    cases hb : Nat.beq b k with
    | true => exact VR.dead
    | false =>
      simp only [cond_false]
      unfold VR at *
      obtain ⟨x, hx, hv⟩ := hv
      exact ⟨x, h.bl _ _ (beq_false hb) hx, hv⟩
  | .nils, _, hv => by unfold AV.kill; unfold VR at *; exact hv
  | .sl q b n s, _, hv => by
    unfold AV.kill
    cases hb : Nat.beq b k with
    | true => exact VR.dead
    | false =>
      simp only [cond_false]
      unfold VR at *
      rcases hv with hv | ⟨hq, x, hx, hv⟩
      . exact .inl hv
      . exact .inr ⟨hq, x, h.bl _ _ (beq_false hb) hx, hv⟩
  | .agg cs, _, hv => by
    unfold AV.kill; unfold VR at *
    obtain ⟨l, hv, hl⟩ := hv
    exact ⟨l, hv, VRs.kill h cs hl⟩
  | .tup cs, _, hv => by
    unfold AV.kill; unfold VR at *
    obtain ⟨l, hv, hl⟩ := hv
    exact ⟨l, hv, VRs.kill h cs hl⟩
  | .ifc t a, _, hv => by
    unfold AV.kill; unfold VR at *
    obtain ⟨y, hv, hy⟩ := hv
    exact ⟨y, hv, VR.kill h a hy⟩
  | .nili, _, hv => by unfold AV.kill; unfold VR at *; exact hv
  | .fn f cap, _, hv => by
    unfold AV.kill; unfold VR at *
    obtain ⟨l, hv, hl⟩ := hv
    exact ⟨l, hv, VRs.kill h cap hl⟩
  | .raw u, _, hv => by unfold AV.kill; unfold VR at *; exact hv
  | .rs q n cols, _, hv => by unfold AV.kill; exact VR.Pm h.ro hv
  | .rp cells j, _, hv => by unfold AV.kill; exact VR.Pn h.ro hv
theorem VRs.kill {E E' : Env} {k : Nat} (h : E.leX k E') : ∀ (as : List AV) {l : List Value}, VRs E as l -> VRs E' (AV.kills k as) l
  | [], _, hl => by unfold AV.kills; unfold VRs at *; exact hl
  | a :: as, _, hl => by
    unfold AV.kills
    unfold VRs at *
    obtain ⟨v, vs, hl, h1, h2⟩ := hl
    exact ⟨v, vs, hl, VR.kill h a h1, VRs.kill h as h2⟩
end
theorem VRs.PO {E : Env} {l : List Value} (h : VRs E [] l) : l = [] := by unfold VRs at h; exact h
theorem VRs.Ub {E : Env} {a : AV} {as : List AV} {l : List Value} (h : VRs E (a :: as) l) : ∃ v vs, l = v :: vs /\ VR E a v /\ VRs E as vs := by
  unfold VRs at h; exact h
theorem CFR.at {E : Env} : ∀ (c : CF) (k:Nat) {v : Value}, VR E (c.at k) v ↔ CFR E.ro c k v
  | .I kk f, k, v => by unfold CF.at CFR VR; exact Iff.rfl
  | .B f, k, v => by unfold CF.at CFR VR; exact Iff.rfl
  | .S n c, k, v => by
    unfold CF.at CFR VR
    constructor
    . rintro (⟨_, h⟩ | ⟨_, h⟩)
      . exact .inl h
      . exact .inr h
    . rintro (h | h)
      . exact .inl ⟨by simp, h⟩
      . exact .inr ⟨by simp, h⟩
theorem fD.row {E : Env} : ∀ (cs : List CF) (k:Nat) {us : List Value}, VRs E (rowOf cs k) us ↔ fD E.ro cs k us
  | [], k, us => by unfold rowOf fD VRs; exact Iff.rfl
  | c :: cs, k, us => by
    unfold rowOf fD VRs
    constructor
    . rintro ⟨v, vs, h1, h2, h3⟩
      exact ⟨v, vs, h1, (CFR.at c k).1 h2, (fD.row cs k).1 h3⟩
    . rintro ⟨v, vs, h1, h2, h3⟩
      exact ⟨v, vs, h1, (CFR.at c k).2 h2, (fD.row cs k).2 h3⟩
theorem fD.length {ro : Nat -> Nat -> Option Value} : ∀ {cs : List CF} {k : Nat} {us : List Value}, fD ro cs k us -> us.length = cs.length
  | [], k, us, h => by unfold fD at h; subst h; rfl
  | c :: cs, k, us, h => by
    unfold fD at h
    obtain ⟨v, vs, rfl, _, h3⟩ := h
    simp [fD.length h3]
theorem CFR.one {ro : Nat -> Nat -> Option Value} : ∀ {c : CF} {k : Nat} {v : Value}, CFR ro c k v -> v.oneCell' = true
  | .I kk f, k, v, h => by unfold CFR at h; subst h; rfl
  | .B f, k, v, h => by unfold CFR at h; subst h; rfl
  | .S n c, k, v, h => by
    unfold CFR at h
    rcases h with ⟨_, rfl⟩ | ⟨a, cp, rfl, _⟩ <;> rfl
theorem fD.one {ro : Nat -> Nat -> Option Value} : ∀ {cs : List CF} {k : Nat} {us : List Value}, fD ro cs k us -> ∀ u ∈ us, u.oneCell' = true
  | [], k, us, h => by unfold fD at h; subst h; simp
  | c :: cs, k, us, h => by
    unfold fD at h
    obtain ⟨v, vs, rfl, h2, h3⟩ := h
    intro u hu
    rcases List.mem_cons.1 hu with rfl | hu
    . exact h2.one
    . exact fD.one h3 u hu
theorem yg {E : Env} {cs : List CF} {k : Nat} {us : List Value} : VRs E.bare (rowOf cs k) us ↔ VRs E (rowOf cs k) us := (fD.row (E := E.bare) cs k).trans (fD.row (E := E) cs k).symm
section
variable {ro : Nat -> Nat -> Option Value}
theorem fD.jO {k : Nat} {us : List Value} (h : fD ro [] k us) : us = [] := by unfold fD at h; exact h
theorem fD.cons_inv {c : CF} {cs : List CF} {k : Nat} {us : List Value} (h : fD ro (c :: cs) k us) : ∃ v vs, us = v :: vs /\ CFR ro c k v /\ fD ro cs k vs := by unfold fD at h; exact h
theorem fD.cons {c : CF} {cs : List CF} {k : Nat} {v : Value} {vs : List Value} (h : CFR ro c k v) (hs : fD ro cs k vs) : fD ro (c :: cs) k (v :: vs) := by unfold fD; exact ⟨v, vs, rfl, h, hs⟩
def SlR (ro : Nat -> Nat -> Option Value) (n:Nat) (cols : List CF) (v : Value) : Prop := (n = 0 /\ v = .slice none 0 0) \/ ∃ (a : Addr) (cp:Nat), v = .slice (some a) n cp /\ n <= cp /\
      ∀ i, i < n -> a.spot = none /\ cols ≠ [] /\ ∃ us : List Value, fD ro cols i us /\ ∀ j, j < us.length -> ro a.block (a.off + (i * us.length + j)) = us[j]?
theorem CFR.BD {n : Nat -> Nat} {c : Nat -> List CF} {k : Nat} {v : Value} : CFR ro (.S n c) k v ↔ SlR ro (n k) (c k) v := by unfold CFR SlR; exact Iff.rfl
theorem SlR.congr {n n' : Nat} {cols cols' : List CF} {v : Value} (h : SlR ro n cols v) (hn : n = n') (hne : cols ≠ [] -> cols' ≠ []) (hc : cols ≠ [] -> ∀ i us, fD ro cols i us -> fD ro cols' i us) : SlR ro n' cols' v := by
  subst hn
  rcases h with h | ⟨a, cp, h1, h2, h3⟩
  . exact .inl h
  . refine .inr ⟨a, cp, h1, h2, fun i hi => ?_⟩
    obtain ⟨g1, g2, us, g3, g4⟩ := h3 i hi
    exact ⟨g1, hne g2, us, hc g2 i us g3, g4⟩
theorem VR.Yq {E : Env} {q : Option Bool} {n : Nat} {cols : List CF} {v : Value} (h : VR E (.rs q n cols) v) : SlR E.ro n cols v := by
  unfold VR at h
  rcases h with ⟨_, h⟩ | ⟨_, h⟩
  . exact .inl h
  . exact .inr h
theorem SlR.VR {E : Env} {n : Nat} {cols : List CF} {v : Value} (h : SlR E.ro n cols v) : VR E (.rs none n cols) v := by
  unfold Ag.VR
  rcases h with h | h
  . exact .inl ⟨by simp, h⟩
  . exact .inr ⟨by simp, h⟩
mutual
theorem aax {b : Bool} : ∀ (x y : CF) (k:Nat) (v : Value), CFR ro (cond b x y) k v -> CFR ro (OI b x y) k v
  | .I k f, .I k' g, i, v, h => by
    unfold OI
    split
    . rename_i hk; subst hk
      cases b <;> simpa [CFR] using h
    . exact h
  | .B f, .B g, i, v, h => by unfold OI; cases b <;> simpa [CFR] using h
  | .S n c, .S n' c', i, v, h => by
    unfold OI
    rw [CFR.BD]
    have key := Fv (b := b) (c i) (c' i)
    cases b with
    | true => exact SlR.congr (CFR.BD.1 h) rfl (fun hne => (key.1 hne)) (fun hne j us hj => key.2 hne j us hj)
    | false => exact SlR.congr (CFR.BD.1 h) rfl (fun hne => (key.1 hne)) (fun hne j us hj => key.2 hne j us hj)
  | .I _ _, .B _, i, v, h => by unfold OI; exact h
  | .I _ _, .S _ _, i, v, h => by unfold OI; exact h
  | .B _, .I _ _, i, v, h => by unfold OI; exact h
  | .B _, .S _ _, i, v, h => by unfold OI; exact h
  | .S _ _, .I _ _, i, v, h => by unfold OI; exact h
  | .S _ _, .B _, i, v, h => by unfold OI; exact h
theorem Fv {b : Bool} : ∀ (xs ys : List CF), ((cond b xs ys) ≠ [] -> EU b xs ys ≠ []) /\ ((cond b xs ys) ≠ [] -> ∀ k us, fD ro (cond b xs ys) k us -> fD ro (EU b xs ys) k us)
  | [], ys => by
    unfold EU
    cases b
    . exact ⟨fun h => h, fun _ _ _ h => h⟩
    . exact ⟨fun h => absurd rfl h, fun h => absurd rfl h⟩
  | x :: xs, [] => by
    unfold EU
    cases b
    . exact ⟨fun h => absurd rfl h, fun h => absurd rfl h⟩
    . exact ⟨fun h => h, fun _ _ _ h => h⟩
  | x :: xs, y :: ys => by
    unfold EU
    refine ⟨fun _ => by simp, fun _ k us h => ?_⟩
    have h : fD ro (cond b x y :: cond b xs ys) k us := by cases b <;> exact h
    obtain ⟨v, vs, rfl, h1, h2⟩ := h.cons_inv
    exact .cons (aax x y k v h1) (aay xs ys k vs h2)
theorem aay {b : Bool} : ∀ (xs ys : List CF) (k:Nat) (us : List Value), fD ro (cond b xs ys) k us -> fD ro (Yj b xs ys) k us
  | [], [], k, us, h => by unfold Yj; cases b <;> exact h
  | x :: xs, y :: ys, k, us, h => by
    unfold Yj
    have h : fD ro (cond b x y :: cond b xs ys) k us := by cases b <;> exact h
    obtain ⟨v, vs, rfl, h1, h2⟩ := h.cons_inv
    exact .cons (aax x y k v h1) (aay xs ys k vs h2)
  | [], y :: ys, k, us, h => by unfold Yj; exact h
  | x :: xs, [], k, us, h => by unfold Yj; exact h
end
theorem aaz {E : Env} {i : Nat} : ∀ {c c' : CF} {a : AV}, akX i c a = some c' -> (∀ v, VR E a v -> CFR E.ro c' i v) /\ ∀ k v, k ≠ i -> CFR E.ro c k v -> CFR E.ro c' k v := by
  intro c c' a h
  have hne : ∀ k, k ≠ i -> Nat.beq k i = false := fun k hk => by
    cases hb : Nat.beq k i with
    | false => rfl
    | true => exact absurd (Nat.eq_of_beq_eq_true hb) hk
  unfold akX at h
  split at h
  . split at h
    . rename_i hk; subst hk
      cases h
      refine ⟨fun v hv => ?_, fun k v hk hv => ?_⟩
      . unfold VR at hv; unfold CFR; simp [Nat.beq_refl, hv]
      . unfold CFR at *; simp [hne k hk, hv]
    . cases h
  . cases h
    refine ⟨fun v hv => ?_, fun k v hk hv => ?_⟩
    . unfold VR at hv; unfold CFR; simp [Nat.beq_refl, hv]
    . unfold CFR at *; simp [hne k hk, hv]
  . rename_i n c q m cs
    cases h
    refine ⟨fun v hv => ?_, fun k v hk hv => ?_⟩
    . rw [CFR.BD]
      have key := Fv (ro := E.ro) (b := true) cs (c i)
      have := SlR.congr (cols' := EU true cs (c i)) hv.Yq rfl key.1 key.2
      simpa [Nat.beq_refl] using this
    . rw [CFR.BD] at hv ⊢
      have key := Fv (ro := E.ro) (b := false) cs (c k)
      have := SlR.congr (cols' := EU false cs (c k)) hv rfl key.1 key.2
      simpa [hne k hk] using this
  . rename_i n c
    cases h
    refine ⟨fun v hv => ?_, fun k v hk hv => ?_⟩
    . unfold VR at hv
      rw [CFR.BD]
      exact .inl ⟨by simp [Nat.beq_refl], hv⟩
    . rw [CFR.BD] at hv ⊢
      simpa [hne k hk] using hv
  . cases h
theorem Ib {E : Env} {i : Nat} : ∀ {j : Nat} {cs cs' : List CF} {vs : List AV}, xY i j cs vs = some cs' -> cs'.length = cs.length /\ (∀ k us, k ≠ i -> fD E.ro cs k us -> fD E.ro cs' k us)
  | j, cs, cs', [], h => by
    unfold xY at h
    cases h
    exact ⟨rfl, fun _ _ _ h => h⟩
  | 0, c :: cs, cs', v :: vs, h => by
    unfold xY at h
    split at h
    . rename_i c1 cs1 h1 h2
      cases h
      obtain ⟨g1, g2⟩ := Ib (E := E) h2
      refine ⟨by simp [g1], fun k us hk hu => ?_⟩
      obtain ⟨u, us, rfl, u1, u2⟩ := hu.cons_inv
      exact .cons ((aaz (E := E) h1).2 k u hk u1) (g2 k us hk u2)
    . cases h
  | j + 1, c :: cs, cs', v :: vs, h => by
    unfold xY at h
    split at h
    . rename_i cs1 h2
      cases h
      obtain ⟨g1, g2⟩ := Ib (E := E) h2
      refine ⟨by simp [g1], fun k us hk hu => ?_⟩
      obtain ⟨u, us, rfl, u1, u2⟩ := hu.cons_inv
      exact .cons u1 (g2 k us hk u2)
    . cases h
  | 0, [], cs', v :: vs, h => by unfold xY at h; cases h
  | j + 1, [], cs', v :: vs, h => by unfold xY at h; cases h
theorem aef {E : Env} {i : Nat} : ∀ {j : Nat} {cs cs' : List CF} {vs : List AV}, xY i j cs vs = some cs' -> j + vs.length <= cs.length \/ vs = [] -> ∀ {l us : List Value}, fD E.ro cs i l -> VRs E vs us ->
    fD E.ro cs' i (us.zipIdx.foldl (fun cs (x : Value × Nat) => cs.set (j + x.2) x.1) l) := by
  have e : ∀ (us : List Value) (n j:Nat) (l : List Value), (us.zipIdx (n + 1)).foldl (fun cs (x : Value × Nat) => cs.set (j + x.2) x.1) l = (us.zipIdx n).foldl (fun cs (x : Value × Nat) => cs.set (j + 1 + x.2) x.1) l := by
    intro us
    induction us with
    | nil => intro n j l; rfl
    | cons c us ih =>
      intro n j l
      simp only [List.zipIdx_cons, List.foldl_cons]
      rw [ih]
      congr 2
      omega
  -- a cell ahead of the turned ones stays
  have ahead : ∀ (us : List Value) (n j:Nat) (x : Value) (l : List Value), (us.zipIdx n).foldl (fun cs (y : Value × Nat) => cs.set (j + 1 + y.2) y.1) (x :: l) = x :: (us.zipIdx n).foldl (fun cs (y : Value × Nat) => cs.set (j + y.2) y.1) l := by
    intro us
    induction us with
    | nil => intro n j x l; rfl
    | cons c us ih =>
      intro n j x l
      simp only [List.zipIdx_cons, List.foldl_cons]
      have : (x :: l).set (j + 1 + n) c = x :: l.set (j + n) c := by
        rw [show j + 1 + n = (j + n) + 1 by omega, List.set_cons_succ]
      rw [this, ih]
  intro j cs
  induction cs generalizing j with
  | nil =>
    intro cs' vs h hj l us hl hv
    cases vs with
    | nil =>
      have := hv.PO; subst this
      unfold xY at h
      cases h
      exact hl
    | cons v vs => cases j <;> (unfold xY at h; cases h)
  | cons c cs ih =>
    intro cs' vs h hj l us hl hv
    cases vs with
    | nil =>
      have := hv.PO; subst this
      unfold xY at h
      cases h
      exact hl
    | cons v vs =>
      obtain ⟨x, l, rfl, x1, x2⟩ := hl.cons_inv
      cases j with
      | zero =>
        unfold xY at h
        split at h
        . rename_i c1 cs1 h1 h2
          cases h
          obtain ⟨u, us, rfl, u1, u2⟩ := hv.Ub
          simp only [List.zipIdx_cons, List.foldl_cons, Nat.add_zero, List.set_cons_zero]
          rw [Nat.zero_add, e us 0 0, ahead us 0 0]
          exact .cons ((aaz (E := E) h1).1 u u1) (ih h2 (.inl (by simpa using hj)) x2 u2)
        . cases h
      | succ j =>
        unfold xY at h
        split at h
        . rename_i cs1 h2
          cases h
          rw [ahead us 0 j]
          exact .cons x1 (ih h2 (.inl (by simp at hj ⊢; omega)) x2 hv)
        . cases h
theorem aeg {E : Env} {a : AV} {c : CF} (h : cellC a = some c) {v : Value} (hv : VR E a v) (k:Nat) : CFR E.ro c k v := by
  unfold cellC at h
  split at h <;> try cases h
  . unfold VR at hv; unfold CFR; exact hv
  . unfold VR at hv; unfold CFR; exact hv
  . rw [CFR.BD]; exact hv.Yq
  . unfold VR at hv; rw [CFR.BD]; exact .inl ⟨rfl, hv⟩
theorem BF {E : Env} : ∀ {as : List AV} {cs : List CF}, Fp as = some cs -> cs.length = as.length /\ ∀ {us : List Value}, VRs E as us -> ∀ k, fD E.ro cs k us
  | [], cs, h => by
    unfold Fp at h
    cases h
    exact ⟨rfl, fun hv k => by have := hv.PO; subst this; unfold fD; rfl⟩
  | a :: as, cs, h => by
    unfold Fp at h
    split at h
    . rename_i c cs1 h1 h2
      cases h
      obtain ⟨g1, g2⟩ := BF (E := E) h2
      refine ⟨by simp [g1], fun hv k => ?_⟩
      obtain ⟨u, us, rfl, u1, u2⟩ := hv.Ub
      exact .cons (aeg h1 u1 k) (g2 u2 k)
    . cases h
theorem aaA {a b : Nat} : (Nat.blt a b = true) ↔ a < b := by simp
theorem KW {a b : Nat} (h : b <= a) : Nat.blt a b = false := by
  cases hb : Nat.blt a b with
  | false => rfl
  | true => have := aaA.1 hb; omega
theorem PS {a b : Nat} (h : a < b) : Nat.blt a b = true := aaA.2 h
theorem ahi {n : Nat} {c d x : CF} (h : akY n c d = some x) : (∀ k v, k < n -> CFR ro c k v -> CFR ro x k v) /\ ∀ k v, n <= k -> CFR ro d (k - n) v -> CFR ro x k v := by
  unfold akY at h
  split at h
  . split at h
    . rename_i hk; subst hk
      cases h
      exact ⟨fun k v hk hv => by unfold CFR at *; simp [PS hk, hv], fun k v hk hv => by unfold CFR at *; simp [KW hk, hv]⟩
    . cases h
  . cases h
    exact ⟨fun k v hk hv => by unfold CFR at *; simp [PS hk, hv], fun k v hk hv => by unfold CFR at *; simp [KW hk, hv]⟩
  . rename_i m c m' c'
    cases h
    refine ⟨fun k v hk hv => ?_, fun k v hk hv => ?_⟩
    . rw [CFR.BD] at hv ⊢
      have key := Fv (ro := ro) (b := true) (c k) (c' (k - n))
      have := SlR.congr (cols' := EU true (c k) (c' (k - n))) hv rfl key.1 key.2
      simpa [PS hk] using this
    . rw [CFR.BD] at hv ⊢
      have key := Fv (ro := ro) (b := false) (c k) (c' (k - n))
      have := SlR.congr (cols' := EU false (c k) (c' (k - n))) hv rfl key.1 key.2
      simpa [KW hk] using this
  . cases h
theorem PU {n : Nat} : ∀ {cs ds xs : List CF}, N7 n cs ds = some xs -> xs.length = cs.length /\ xs.length = ds.length /\ (∀ k us, k < n -> fD ro cs k us -> fD ro xs k us) /\ ∀ k us, n <= k -> fD ro ds (k - n) us -> fD ro xs k us
  | [], [], xs, h => by
    unfold N7 at h
    cases h
    exact ⟨rfl, rfl, fun _ _ _ h => h, fun _ _ _ h => by unfold fD at *; exact h⟩
  | c :: cs, d :: ds, xs, h => by
    unfold N7 at h
    split at h
    . rename_i x xs1 h1 h2
      cases h
      obtain ⟨g1, g2, g3, g4⟩ := PU h2
      obtain ⟨k1, k2⟩ := ahi (ro := ro) h1
      refine ⟨by simp [g1], by simp [g2], fun k us hk hu => ?_, fun k us hk hu => ?_⟩
      . obtain ⟨u, us, rfl, u1, u2⟩ := hu.cons_inv
        exact .cons (k1 k u hk u1) (g3 k us hk u2)
      . obtain ⟨u, us, rfl, u1, u2⟩ := hu.cons_inv
        exact .cons (k2 k u hk u1) (g4 k us hk u2)
    . cases h
  | [], d :: ds, xs, h => by unfold N7 at h; cases h
  | c :: cs, [], xs, h => by unfold N7 at h; cases h
theorem Xh {E : Env} : ∀ {rs : List (List AV)} {cols : List CF}, Xc rs = some cols -> ∀ k r, rs[k]? = some r -> cols.length = r.length /\ ∀ us, VRs E r us -> fD E.ro cols k us
  | [], cols, h, k, r, hr => by simp at hr
  | [r0], cols, h, k, r, hr => by
    unfold Xc at h
    obtain ⟨g1, g2⟩ := BF (E := E) h
    cases k with
    | zero => simp at hr; subst hr; exact ⟨g1, fun us hu => g2 hu 0⟩
    | succ k => simp at hr
  | r0 :: r1 :: rs, cols, h, k, r, hr => by
    unfold Xc at h
    split at h
    . rename_i c d h1 h2
      obtain ⟨g1, g2⟩ := BF (E := E) h1
      obtain ⟨a1, a2, a3, a4⟩ := PU (ro := E.ro) h
      cases k with
      | zero =>
        simp at hr
        subst hr
        exact ⟨by omega, fun us hu => a3 0 us (by omega) (g2 hu 0)⟩
      | succ k =>
        obtain ⟨b1, b2⟩ := Xh (E := E) h2 k r (by simpa using hr)
        exact ⟨by omega, fun us hu => a4 (k + 1) us (by omega) (b2 us hu)⟩
    . cases h
theorem CFR.drop {l : Nat} : ∀ {c : CF} {k : Nat} {v : Value}, CFR ro c (l + k) v -> CFR ro (c.drop l) k v := by
  intro c k v h
  cases c with
  | I k f => unfold CF.drop; unfold CFR at *; exact h
  | B f => unfold CF.drop; unfold CFR at *; exact h
  | S n c => unfold CF.drop; rw [CFR.BD] at *; exact h
theorem fD.drop {l : Nat} : ∀ {cs : List CF} {k : Nat} {us : List Value}, fD ro cs (l + k) us -> fD ro (JL l cs) k us
  | [], k, us, h => by unfold JL; unfold fD at *; exact h
  | c :: cs, k, us, h => by
    obtain ⟨v, vs, rfl, h1, h2⟩ := h.cons_inv
    unfold JL
    exact .cons h1.drop (fD.drop h2)
theorem aeh {l : Nat} {cs : List CF} (h : cs ≠ []) : JL l cs ≠ [] := by cases cs <;> simp [JL] at h ⊢
end
theorem VRs.length {E : Env} : ∀ {as : List AV} {l : List Value}, VRs E as l -> l.length = as.length
  | [], l, h => by unfold VRs at h; subst h; rfl
  | a :: as, l, h => by
    unfold VRs at h
    obtain ⟨v, vs, rfl, _, h2⟩ := h
    simp [VRs.length h2]
theorem VRs.nil (E : Env) : VRs E [] [] := by unfold VRs; rfl
theorem VRs.cons {E : Env} {a : AV} {v : Value} {as : List AV} {vs : List Value} (h : VR E a v) (hs : VRs E as vs) : VRs E (a :: as) (v :: vs) := by
  unfold VRs; exact ⟨v, vs, rfl, h, hs⟩
theorem VRs.cons_inv {E : Env} {a : AV} {as : List AV} {l : List Value} (h : VRs E (a :: as) l) : ∃ v vs, l = v :: vs /\ VR E a v /\ VRs E as vs := by
  unfold VRs at h; exact h
theorem VRs.jO {E : Env} {l : List Value} (h : VRs E [] l) : l = [] := by unfold VRs at h; exact h
theorem VRs.append {E : Env} : ∀ {as bs : List AV} {l k : List Value}, VRs E as l -> VRs E bs k -> VRs E (as ++ bs) (l ++ k)
  | [], bs, l, k, h, h' => by have := h.jO; subst this; simpa using h'
  | a :: as, bs, l, k, h, h' => by
    obtain ⟨v, vs, rfl, h1, h2⟩ := h.cons_inv
    exact VRs.cons h1 (VRs.append h2 h')
theorem VRs.get {E : Env} : ∀ {as : List AV} {l : List Value} (n:Nat) (d : Value), VRs E as l -> VR E (aS .dead as n) (l.getD n d)
  | [], l, n, d, h => by simp [aS]; unfold VR; trivial
  | a :: as, l, 0, d, h => by
    obtain ⟨v, vs, rfl, h1, h2⟩ := h.cons_inv
    simpa [aS] using h1
  | a :: as, l, n + 1, d, h => by
    obtain ⟨v, vs, rfl, h1, h2⟩ := h.cons_inv
    simpa [aS] using VRs.get n d h2
theorem VRs.set {E : Env} : ∀ {as : List AV} {l : List Value} (n:Nat) {a : AV} {v : Value}, VRs E as l -> VR E a v -> VRs E (setAt as n a) (l.set n v)
  | [], l, n, a, v, h, hv => by have := h.jO; subst this; simpa [setAt] using VRs.nil E
  | b :: as, l, 0, a, v, h, hv => by
    obtain ⟨u, vs, rfl, h1, h2⟩ := h.cons_inv
    simpa [setAt] using VRs.cons hv h2
  | b :: as, l, n + 1, a, v, h, hv => by
    obtain ⟨u, vs, rfl, h1, h2⟩ := h.cons_inv
    simpa [setAt] using VRs.cons h1 (VRs.set n h2 hv)
theorem VRs.take {E : Env} : ∀ {as : List AV} {l : List Value} (n:Nat), VRs E as l -> VRs E (takeN n as) (l.take n)
  | as, l, 0, h => by simpa [takeN] using VRs.nil E
  | [], l, n + 1, h => by have := h.jO; subst this; simpa [takeN] using VRs.nil E
  | b :: as, l, n + 1, h => by
    obtain ⟨u, vs, rfl, h1, h2⟩ := h.cons_inv
    simpa [takeN] using VRs.cons h1 (VRs.take n h2)
theorem VRs.drop {E : Env} : ∀ {as : List AV} {l : List Value} (n:Nat), VRs E as l -> VRs E (EW n as) (l.drop n)
  | as, l, 0, h => by simpa [EW] using h
  | [], l, n + 1, h => by have := h.jO; subst this; simpa [EW] using VRs.nil E
  | b :: as, l, n + 1, h => by
    obtain ⟨u, vs, rfl, h1, h2⟩ := h.cons_inv
    simpa [EW] using VRs.drop n h2
theorem VRs.setCells {E : Env} : ∀ {vs : List AV} {us : List Value} {as : List AV} {l : List Value} (j:Nat), VRs E as l -> VRs E vs us ->
    VRs E (Ag.setCells as j vs) (us.zipIdx.foldl (fun cs (c, k) => cs.set (j + k) c) l)
  | [], us, as, l, j, h, hv => by have := hv.jO; subst this; simpa [Ag.setCells] using h
  | v :: vs, us, as, l, j, h, hv => by
    obtain ⟨u, us, rfl, h1, h2⟩ := hv.cons_inv
    have := VRs.setCells (j + 1) (VRs.set j h h1) h2
    simp only [Ag.setCells, List.zipIdx_cons, List.foldl_cons, Nat.add_zero]
    have e : ∀ (us : List Value) (n:Nat) (l : List Value), (us.zipIdx (n + 1)).foldl (fun cs (x : Value × Nat) => cs.set (j + x.2) x.1) l = (us.zipIdx n).foldl (fun cs (x : Value × Nat) => cs.set (j + 1 + x.2) x.1) l := by
      intro us
      induction us with
      | nil => intro n l; rfl
      | cons c us ih =>
        intro n l
        simp only [List.zipIdx_cons, List.foldl_cons]
        rw [ih]
        congr 2
        omega
    rw [Nat.zero_add, e us 0]
    exact this
theorem VR.const {E : Env} (v : Value) : VR E (.ofValue v) v := by
  have hs : ∀ v, VR E (.JE v) v := by
    intro v
    unfold AV.JE
    split <;> (unfold VR; rfl)
  unfold AV.ofValue
  split
  . rename_i cs
    unfold VR
    refine ⟨cs.toList, by simp, ?_⟩
    generalize cs.toList = l
    induction l with
    | nil => exact VRs.nil E
    | cons x xs ih => exact VRs.cons (hs x) ih
  . exact hs v
theorem JV {E : Env} {a : AV} {v : Value} (h : a.KP = true) (hv : VR E a v) : v.cells = #[v] /\ (∀ cs, v ≠ .agg cs) /\ (∀ cs, v ≠ .tuple cs) := by
  cases a <;> simp [AV.KP] at h <;> unfold VR at hv
  case int => subst hv; simp [Value.cells]
  case bool => subst hv; simp [Value.cells]
  case nilp => subst hv; simp [Value.cells]
  case ptr => obtain ⟨x, _, rfl⟩ := hv; simp [Value.cells]
  case nils => subst hv; simp [Value.cells]
  case sl => rcases hv with ⟨_, _, rfl⟩ | ⟨_, x, _, _, _, _, _, rfl⟩ <;> simp [Value.cells]
  case rs => rcases hv with ⟨_, _, rfl⟩ | ⟨_, a, c, rfl, _⟩ <;> simp [Value.cells]
  case rp => obtain ⟨a, us, rfl, _⟩ := hv; simp [Value.cells]
  case ifc => obtain ⟨y, rfl, _⟩ := hv; simp [Value.cells]
  case nili => subst hv; simp [Value.cells]
  case fn => obtain ⟨y, rfl, _⟩ := hv; simp [Value.cells]
  case raw u => subst hv; cases v <;> simp [AV.KP] at h; simp [Value.cells]
theorem lC {E : Env} {a : AV} {v : Value} {vs : List AV} (h : a.cellsOf = some vs) (hv : VR E a v) : VRs E vs v.cells.toList /\ ∀ c ∈ v.cells.toList, c.oneCell' = true := by
  have key : ∀ (cs : List AV) (l : List Value), cs.all AV.KP = true -> VRs E cs l -> ∀ c ∈ l, c.oneCell' = true := by
    intro cs
    induction cs with
    | nil => intro l _ hl; have := hl.jO; subst this; simp
    | cons a cs ih =>
      intro l ha hl
      obtain ⟨u, us, rfl, h1, h2⟩ := hl.cons_inv
      simp only [List.all_cons, Bool.and_eq_true] at ha
      intro c hc
      rcases List.mem_cons.1 hc with rfl | hc
      . obtain ⟨_, h3, h4⟩ := JV ha.1 h1
        unfold Value.oneCell'
        split
        . exact absurd rfl (h3 _)
        . exact absurd rfl (h4 _)
        . rfl
      . exact ih us ha.2 h2 c hc
  unfold AV.cellsOf at h
  split at h
  . rename_i cs
    split at h
    . rename_i hall
      simp only [Option.some.injEq] at h
      subst h
      unfold VR at hv
      obtain ⟨l, rfl, hl⟩ := hv
      exact ⟨by simpa [Value.cells] using hl, by simpa [Value.cells] using key cs l hall hl⟩
    . simp at h
  . split at h
    . rename_i hok
      simp only [Option.some.injEq] at h
      subst h
      obtain ⟨h1, h2, h3⟩ := JV hok hv
      rw [h1]
      refine ⟨VRs.cons hv (VRs.nil E), fun c hc => ?_⟩
      simp at hc
      subst hc
      unfold Value.oneCell'
      split
      . exact absurd rfl (h2 _)
      . exact absurd rfl (h3 _)
      . rfl
    . simp at h
end Go.Ag
