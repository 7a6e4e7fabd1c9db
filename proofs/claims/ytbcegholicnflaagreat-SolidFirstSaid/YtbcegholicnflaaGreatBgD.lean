import Derived.Test.YtbcegholicnflaaGreatBgC
set_option linter.unusedVariables false
set_option linter.unusedSimpArgs false
namespace Go.Ag
open Go.RowKit
structure kP (P : Program) (T : Tab) : Prop where
  ty : ∀ t i, T.ty t = some i -> P.underlying t = some i.desc /\ ∃ info, P.info? t = some info /\ info.size = i.size /\ info.bytes = i.bytes /\
    ∃ z, info.zero = some z /\ (∀ E, VR E i.zv z) /\ i.zv.cellsOf = some i.zv.cells /\ i.zv.cells.length = i.size
  meth : ∀ t name f, T.meth t name = some f -> ∀ v w, (method (P.types.size + Made.depth) t v name).run P w = .ok (f, v) w
  plainB : ∀ t, T.plain t = some [.B] -> ∀ a b w, (Op.equal t (.bool a) (.bool b)).run P w = .ok (a == b) w
  plainA : ∀ t k1 k2 s, T.plain t = some (k1 :: k2 :: s) -> ∀ xs ys r l l' E w, lY (k1 :: k2 :: s) xs ys = some r -> VRs E xs l -> VRs E ys l' -> (Op.equal t (.agg l.toArray) (.agg l'.toArray)).run P w = .ok r w
  plainG : ∀ t s, T.plain t = some s -> P.eqGuardType P.depth t = false
  mixed : P.follows .mixedOrders = true
section
variable {P : Program} {T : Tab} {E : Env} {W : Nat -> Prop} {m : Mem} {w : World}
theorem addr_add (x : Bl) (i j k:Nat) : (x.addr i j).add k = x.addr i (j + k) := by
  unfold Bl.addr Addr.add
  split
  . rename_i h; subst h; rfl
  . simp; omega
theorem add_add (a : Addr) (j k:Nat) : (a.add j).add k = a.add (j + k) := by
  unfold Addr.add
  by_cases hk : k = 0
  . subst hk; simp
  . by_cases hj : j = 0
    . subst hj; simp [hk]
    . rw [if_neg hk, if_neg hj, if_neg (by omega)]
      simp; omega
theorem BG {a : Addr} (h : a.spot = none) (k:Nat) : a.add k = ⟨a.block, a.off + k, none⟩ := by
  unfold Addr.add
  split
  . rename_i hk; subst hk; cases a; simp only at h; subst h; rfl
  . rfl
theorem fM {t : TypeId} {d : TypeDesc} (h : P.underlying t = some d) : (underlying t).run P w = .ok d w := by simp [underlying, h]
theorem run_sizeOf {t : TypeId} {i : TypeInfo} (h : P.info? t = some i) : (sizeOf t).run P w = .ok i.size w := by simp [sizeOf, typeInfo, h]
theorem fV {t : TypeId} {d : TypeDesc} (h : P.underlying t = some d) : (isAgg t).run P w = .ok (lH d) w := by
  unfold isAgg
  rw [Sem.run_bind, fM h]
  cases d <;> simp [lH]
theorem Oa {agg : Bool} {size j : Nat} {cells : List AV} {v : AV} {l : List Value} (h : vO agg size j cells = some v) (hl : VRs E cells l) :
    (agg = true /\ j + size <= l.length /\ VR E v (.agg ((l.drop j).take size).toArray)) \/ (agg = false /\ j < l.length /\ VR E v (l.getD j undef)) := by
  unfold vO at h
  have hlen := hl.length
  split at h
  . rename_i ha
    split at h
    . rename_i hle
      simp only [Option.some.injEq] at h
      subst h
      rw [Nat.ble_eq, jE] at hle
      refine .inl ⟨ha, by omega, ?_⟩
      unfold VR
      exact ⟨_, rfl, (hl.drop j).take size⟩
    . cases h
  . rename_i ha
    split at h
    . rename_i hlt
      simp only [Option.some.injEq] at h
      subst h
      rw [Nat.blt_eq, jE] at hlt
      exact .inr ⟨by simpa using ha, by omega, hl.get j undef⟩
    . cases h
theorem FB {t : TypeId} {ti : TI} (hT : kP P T) (ht : T.ty t = some ti) {ad : Nat -> Addr} (had : ∀ j k, (ad j).add k = ad (j + k)) {j : Nat} {cells : List AV} {l : List Value} {v : AV}
    (h : vO (lH ti.desc) ti.size j cells = some v) (hl : VRs E cells l) (hc : ∀ j, j < l.length -> w.cell? (ad j) = l[j]?) :
    ∃ u, (loadVar t (ad j)).run P w = .ok u w /\ VR E v u := by
  obtain ⟨h1, info, h2, h3, h4, _⟩ := hT.ty t ti ht
  unfold loadVar
  rw [Sem.run_bind, fV h1, Result.andThen_ok]
  rcases Oa h hl with ⟨ha, hle, hv⟩ | ⟨ha, hlt, hv⟩
  . refine ⟨_, ?_, hv⟩
    rw [ha, if_pos rfl]
    simp only [Sem.run_bind, run_sizeOf h2, Result.andThen_ok, h3]
    have hlen : ((l.drop j).take ti.size).length = ti.size := by simp; omega
    have := run_loadCells_list (P := P) w (ad j) ((l.drop j).take ti.size) (fun k c hk => by
      rw [had]
      have hk' : k < ti.size := by
        rcases Nat.lt_or_ge k ti.size with h | h
        . exact h
        . rw [List.getElem?_eq_none (by omega)] at hk; cases hk
      rw [hc (j + k) (by omega)]
      rw [List.getElem?_take_of_lt hk', List.getElem?_drop] at hk
      exact hk)
    rw [hlen] at this
    rw [this]
    rfl
  . refine ⟨_, ?_, hv⟩
    rw [ha]
    simp only [Bool.false_eq_true, if_false, run_load, hc j hlt]
    rw [List.getElem?_eq_getElem hlt]
    simp [List.getD, hlt]
theorem Ad.read {x : Bl} {ab : AB} (h : Ad W E x ab w) {i : Nat} (hi : i < ab.n) : ∃ l : List Value, VRs (ab.env E) (ab.get i) l /\ (∀ j, j < l.length -> w.cell? (x.addr i j) = l[j]?) := by
  rcases h with rfl | ⟨h1, _, _, h2, h3⟩
  . exact absurd hi (Nat.not_lt_zero _)
  . obtain ⟨l, a, b, _, c⟩ := h2 i hi
    exact ⟨l, a, fun j hj => c j (by omega)⟩
theorem Xi {t : TypeId} {ti : TI} (hT : kP P T) (ht : T.ty t = some ti) (hm : bD W E m w) {a : AV} {ua : Value} (ha : VR E a ua) {p : Prop} {v : AV} {m' : Mem}
    (h : xX ti a m = .val p v m') (hp : p) : m' = m /\ ∃ u, (Instr.loadAt t ua).run P w = .ok u w /\ VR E v u := by
  unfold xX at h
  split at h
  . rename_i e b i j
    unfold VR at ha
    obtain ⟨x, hx, rfl⟩ := ha
    obtain ⟨hb1, hb2, hb3⟩ := hm.dom b x hx
    have hrun : (Instr.loadAt t (.pointer (some (x.addr i j)))).run P w = (loadVar t (x.addr i j)).run P w := by simp [Instr.loadAt, Instr.sureAddr]
    rw [hrun]
    split at h
    . rename_i own ty cells hg
      rw [hg] at hb3
      split at h
      . rename_i hi
        split at h
        . rename_i v' hr
          simp only [R.val.injEq] at h
          obtain ⟨rfl, rfl, rfl⟩ := h
          obtain ⟨l, hl, hc⟩ := hb3.read (i := i) (by simp [AB.n]; simpa using hi)
          exact ⟨rfl, FB hT ht (addr_add x i) hr hl hc⟩
        . cases h
      . cases h
    . rename_i own ty n cols hg
      rw [hg] at hb3
      split at h
      . rename_i v' hr
        simp only [R.val.injEq] at h
        obtain ⟨rfl, rfl, rfl⟩ := h
        obtain ⟨l, hl, hc⟩ := hb3.read (i := i) hp
        obtain ⟨u, h1, h2⟩ := FB hT ht (addr_add x i) hr hl hc
        exact ⟨rfl, u, h1, VR.mono (Env.aav E) _ h2⟩
      . cases h
    . cases h
  . rename_i cells j
    split at h
    . rename_i v' hr
      simp only [R.val.injEq] at h
      obtain ⟨rfl, rfl, rfl⟩ := h
      unfold VR at ha
      obtain ⟨a, us, rfl, hsp, h1, h2⟩ := ha
      have hrun : (Instr.loadAt t (.pointer (some (a.add j)))).run P w = (loadVar t (a.add j)).run P w := by simp [Instr.loadAt, Instr.sureAddr]
      rw [hrun]
      obtain ⟨u, h3, h4⟩ := FB hT ht (add_add a) hr h1 (fun k hk => by
        have := h2 k hk
        rw [List.getElem?_eq_getElem hk] at this ⊢
        rw [BG hsp]
        exact (hm.ro _ _ _ this).2)
      exact ⟨rfl, u, h3, VR.mono (Env.aav E) _ h4⟩
    . cases h
  . cases h
end
end Go.Ag
