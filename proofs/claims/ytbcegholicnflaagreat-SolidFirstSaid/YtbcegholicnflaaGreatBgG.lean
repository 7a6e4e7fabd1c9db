import Derived.Test.YtbcegholicnflaaGreatBgF
set_option linter.unusedVariables false
set_option linter.unusedSimpArgs false
namespace Go.Ag
open Go.RowKit
section
variable {P : Program} {T : Tab} {E : Env} {W : Nat -> Prop} {m : Mem} {w : World}
theorem gather (sz:Nat) (g : Nat -> List AV) (cell : Nat -> Option Value) : ∀ (n:Nat),
    (∀ k, k < n -> ∃ l : List Value, VRs E (g k) l /\ l.length = sz /\ (∀ c ∈ l, c.oneCell' = true) /\ ∀ j, j < sz -> cell (k * sz + j) = l[j]?) ->
    ∃ l : List Value, l.length = n * sz /\ (∀ c ∈ l, c.oneCell' = true) /\ (∀ q, q < n * sz -> cell q = l[q]?) /\ ∀ k, k < n -> VRs E (g k) ((l.drop (k * sz)).take sz)
  | 0, _ => ⟨[], by simp, by simp, by simp, fun k hk => absurd hk (Nat.not_lt_zero _)⟩
  | n + 1, h => by
    obtain ⟨l, h1, h2, h3, h4⟩ := gather sz g cell n (fun k hk => h k (by omega))
    obtain ⟨l', g1, g2, g3, g4⟩ := h n (by omega)
    refine ⟨l ++ l', by rw [List.length_append, h1, g2, Nat.add_mul, Nat.one_mul], fun c hc => ?_, fun q hq => ?_, fun k hk => ?_⟩
    . rcases List.mem_append.1 hc with hc | hc
      . exact h2 c hc
      . exact g3 c hc
    . rw [Nat.add_mul, Nat.one_mul] at hq
      by_cases hlt : q < n * sz
      . rw [List.getElem?_append_left (by omega)]; exact h3 q hlt
      . rw [List.getElem?_append_right (by omega), h1, <- g4 (q - n * sz) (by omega)]
        congr 1
        omega
    . by_cases hkn : k < n
      . have := h4 k hkn
        have hle : (k + 1) * sz <= n * sz := Nat.mul_le_mul_right _ hkn
        rw [Nat.add_mul, Nat.one_mul] at hle
        rw [List.drop_append_of_le_length (by omega), List.take_append_of_le_length (by simp; omega)]
        exact this
      . have : k = n := by omega
        subst this
        rw [<- h1, List.drop_left, <- g2, List.take_length]
        exact g1
theorem U6 (hm : bD W E m w) {x : AV} {ux : Value} (hx : VR E x ux) {nx sz : Nat} {gx : List CF} (h : acC sz m x = some (nx, gx)) :
    (gx = [] \/ gx.length = sz) /\ ((nx = 0 /\ ux = .slice none 0 0) \/ ∃ a c, ux = .slice (some a) nx c /\ nx <= c /\
      ∃ news : List Value, news.length = nx * sz /\ (∀ u ∈ news, u.oneCell' = true) /\ (∀ j u, news[j]? = some u -> w.cell? (a.add j) = some u) /\ ∀ k, k < nx -> gx ≠ [] /\ VRs E.bare (rowOf gx k) ((news.drop (k * sz)).take sz)) := by
  unfold acC at h
  split at h
  . simp only [Option.some.injEq, Prod.mk.injEq] at h
    obtain ⟨rfl, rfl⟩ := h
    unfold VR at hx
    exact ⟨.inl rfl, .inl ⟨rfl, hx⟩⟩
  . rename_i q b n s0
    unfold VR at hx
    split at h
    . rename_i own ty n' cols hg
      split at h
      . rename_i hs0
        rw [Bool.and_eq_true] at hs0
        have hs1 := Nat.eq_of_beq_eq_true hs0.2
        have hs0 := Nat.eq_of_beq_eq_true hs0.1
        rw [jE] at hs1
        subst hs0
        simp only [Option.some.injEq, Prod.mk.injEq] at h
        obtain ⟨rfl, rfl⟩ := h
        refine ⟨.inr hs1, ?_⟩
        rcases hx with ⟨_, rfl, rfl⟩ | ⟨_, x, hx, hxs, hx0, hxl, hxc, rfl⟩
        . exact .inl ⟨rfl, rfl⟩
        . refine .inr ⟨_, _, rfl, hxc, ?_⟩
          have hb3 := (hm.dom b x hx).2.2
          rw [hg] at hb3
          rcases hb3 with hb3 | ⟨g1, gl, gc, g2, _⟩
          . cases hb3
          . simp only [AB.sz, AB.n] at g1 gl
            have hne : cols ≠ [] := by rintro rfl; simp at hs1; omega
            obtain ⟨news, a1, a2, a3, a4⟩ := gather (E := E.bare) s0 (rowOf cols) (fun q => w.cell? (x.addr 0 q)) n (fun k hk => by
              obtain ⟨l, l1, l2, l3, l4⟩ := g2 k (by simp only [AB.n]; omega)
              simp only [AB.sz] at l2 l4
              refine ⟨l, l1, by omega, l3, fun j hj => ?_⟩
              rw [<- l4 j (by omega)]
              congr 1
              unfold Bl.addr
              rw [g1, hs1]
              congr 1
              omega)
            refine ⟨news, a1, a2, fun j u hu => ?_, fun k hk => ⟨hne, a4 k hk⟩⟩
            have hj : j < n * s0 := by
              rcases Nat.lt_or_ge j (n * s0) with h | h
              . exact h
              . rw [List.getElem?_eq_none (by omega)] at hu; cases hu
            rw [addr_add, Nat.zero_add, a3 j hj]
            exact hu
      . cases h
    . cases h
  . rename_i q n cols
    unfold VR at hx
    split at h
    . simp only [Option.some.injEq, Prod.mk.injEq] at h
      obtain ⟨rfl, rfl⟩ := h
      refine ⟨.inl rfl, ?_⟩
      rcases hx with ⟨_, rfl, rfl⟩ | ⟨_, a, c, rfl, hc, hg⟩
      . exact .inl ⟨rfl, rfl⟩
      . refine .inr ⟨_, _, rfl, hc, ?_⟩
        have h0 : n = 0 := by
          rcases Nat.eq_zero_or_pos n with h | h
          . exact h
          . exact absurd rfl (hg 0 h).2.1
        subst h0
        exact ⟨[], by simp, by simp, by simp, fun k hk => absurd hk (Nat.not_lt_zero _)⟩
    . rename_i c0 cs0
      split at h
      . rename_i hs0
        have hs0 := Nat.eq_of_beq_eq_true hs0
        rw [jE] at hs0
        simp only [Option.some.injEq, Prod.mk.injEq] at h
        obtain ⟨rfl, rfl⟩ := h
        refine ⟨.inr hs0, ?_⟩
        rcases hx with ⟨_, rfl, rfl⟩ | ⟨_, a, c, rfl, hc, hg⟩
        . exact .inl ⟨rfl, rfl⟩
        . refine .inr ⟨_, _, rfl, hc, ?_⟩
          by_cases h0 : n = 0
          . subst h0
            exact ⟨[], by simp, by simp, by simp, fun k hk => absurd hk (Nat.not_lt_zero _)⟩
          . have hsp := (hg 0 (by omega)).1
            obtain ⟨news, a1, a2, a3, a4⟩ := gather (E := E.bare) sz (rowOf (c0 :: cs0)) (fun q => E.ro a.block (a.off + q)) n (fun k hk => by
              obtain ⟨_, _, us, l1, l4⟩ := hg k hk
              have hl := l1.length
              have e : us.length = sz := by omega
              refine ⟨us, (fD.row (E := E.bare) _ _).2 l1, e, l1.one, fun j hj => ?_⟩
              have := l4 j (by omega)
              rw [e] at this
              exact this)
            refine ⟨news, a1, a2, fun j u hu => ?_, fun k hk => ⟨by simp, a4 k hk⟩⟩
            have hj : j < n * sz := by
              rcases Nat.lt_or_ge j (n * sz) with h | h
              . exact h
              . rw [List.getElem?_eq_none (by omega)] at hu; cases hu
            rw [BG hsp]
            exact (hm.ro _ _ _ ((a3 j hj).trans hu)).2
      . cases h
  . cases h
theorem FC (z : Array Value) (n:Nat) : (Builtin.zeroCells z n).size = n * z.size := by simp [Builtin.zeroCells]
theorem aek {E : Env} {w : World} {e : TypeId} {n : Nat} {g : List CF} {l : List Value} {rest : Array Value} {cap : Nat} (hW : W w.heap.size)
    (hl : l.length = n * g.length) (hcap : n <= cap) (hrest : rest.size = (cap - n) * g.length) (hone : ∀ c ∈ l, c.oneCell' = true) (hread : ∀ k, k < n -> VRs E.bare (rowOf g k) ((l.drop (k * g.length)).take g.length)) :
    Ad W E ⟨w.heap.size, cap, g.length, n⟩ (.many true e n g) (w.alloc (.cells (l.toArray ++ rest) e)) := by
  have hC : ((w.alloc (.cells (l.toArray ++ rest) e)).heap[w.heap.size]?) = some (.cells (l.toArray ++ rest) e (0, 0)) := by
    show (w.heap.push _)[w.heap.size]? = _
    simp
  have hsz : (l.toArray ++ rest).size = cap * g.length := by
    simp only [Array.size_append, List.size_toArray, hl, hrest, <- Nat.add_mul]
    congr 1
    omega
  refine .inr ⟨rfl, rfl, hcap, fun i hi => ?_, fun _ => ⟨hW, _, hC, hsz⟩⟩
  simp only [AB.n] at hi
  have hle : (i + 1) * g.length <= n * g.length := Nat.mul_le_mul_right _ hi
  rw [Nat.add_mul, Nat.one_mul] at hle
  refine ⟨_, hread i hi, ?_, fun c hc => hone c (List.mem_of_mem_drop (List.mem_of_mem_take hc)), fun j hj => ?_⟩
  . simp only [AB.sz]
    simp
    omega
  . simp only [AB.sz] at hj
    rw [kD (x := ⟨w.heap.size, cap, g.length, n⟩) hC, List.getElem?_take_of_lt hj, List.getElem?_drop]
    simp only
    rw [Array.getElem?_append_left (by simp; omega)]
    simp
theorem Env.JZ {E : Env} {w : World} {b : Nat} {x : Bl} (h : (∃ y, E.bl b = some y /\ y.blk = x.blk) \/ w.heap.size <= x.blk) : ∀ b' z, (E.add b x).bl b' = some z -> (∃ y, E.bl b' = some y /\ y.blk = z.blk) \/ w.heap.size <= z.blk := by
  intro b' z hz
  unfold Env.add at hz
  simp only at hz
  split at hz
  . rename_i hb; cases hz; rw [hb]; exact h
  . exact .inl ⟨z, hz, rfl⟩
def Env.del (E : Env) (b:Nat) : Env := ⟨fun b' => if b' = b then none else E.bl b', E.ro⟩
theorem Env.aaC (E : Env) (b:Nat) : E.leX b (E.del b) := ⟨fun b' x hne e => by unfold Env.del; simp [hne, e], fun _ _ _ h => h⟩
theorem Env.ak0 (E : Env) {b b' : Nat} (h : b' ≠ b) : (E.del b).bl b' = E.bl b' := by unfold Env.del; simp [h]
theorem Env.FD {E : Env} {b b' : Nat} {x : Bl} (h : (E.del b).bl b' = some x) : b' ≠ b /\ E.bl b' = some x := by
  unfold Env.del at h
  simp only at h
  split at h
  . cases h
  . exact ⟨by assumption, h⟩
theorem bD.apF (h : bD W E m w) (b:Nat) (ab : AB) : bD W (E.del b) (tX b (setAt m b ab)) w := by
  have hsame : ∀ b', b' ≠ b -> aS .gone (tX b (setAt m b ab)) b' = (aS .gone m b').kill b := fun b' hne => by rw [zl, aP _ _ _ (Ne.symm hne)]
  refine ⟨fun b' y e => ?_, fun b1 b2 y y' hne e e' ho' hg => ?_, h.ro, fun b' y e ho' o => ?_⟩
  . obtain ⟨hb, e⟩ := Env.FD e
    obtain ⟨h1, h2, h3⟩ := h.dom b' y e
    exact ⟨by rw [rU, cu]; exact h1, h2, by rw [hsame b' hb]; exact h3.kill (Env.aaC E b) rfl⟩
  . obtain ⟨hb1, e⟩ := Env.FD e
    obtain ⟨hb2, e'⟩ := Env.FD e'
    rw [hsame b1 hb1, AB.JW] at ho'
    rw [hsame b2 hb2, ne_eq, AB.KX] at hg
    exact h.inj b1 b2 y y' hne e e' ho' hg
  . obtain ⟨hb, e⟩ := Env.FD e
    rw [hsame b' hb, AB.JW] at ho'
    exact h.apart b' y e ho' o
structure apG (W : Nat -> Prop) (E : Env) (m : Mem) (w w' : World) (bb:Nat) (e : TypeId) (s n:Nat) (cols : List CF) (u : Value) (x : Bl) : Prop where
  val : u = .slice (some (x.addr 0 0)) n x.cap
  sz : x.sz = s
  pos : 0 < s
  len : x.len = n
  cap : n <= x.cap
  other : ∀ b' y, b' ≠ bb -> E.bl b' = some y -> aS .gone m b' ≠ .gone -> y.blk ≠ x.blk /\ w'.heap[y.blk]? = w.heap[y.blk]?
  ro : ∀ b o v, E.ro b o = some v -> w'.heap[b]? = w.heap[b]?
  fresh : ∀ o, E.ro x.blk o = none
  lt : x.blk < w'.heap.size
  size : w.heap.size <= w'.heap.size
  ok : ∀ E' : Env, E'.ro = E.ro -> Ad W E' x (.many true e n cols) w'
  blk : (∃ y, E.bl bb = some y /\ y.blk = x.blk) \/ w.heap.size <= x.blk
section
variable {t ty0 e : TypeId} {d te : TI}
theorem Xm (hT : kP P T) (ht : T.ty t = some d) (hd : d.desc = .slice e) (hte : T.ty e = some te) {ux : Value} {nx : Nat} (h0 : nx = 0) (hu : ux = .slice none 0 0 \/ ∃ a c, ux = .slice (some a) nx c) :
    (Builtin.append_ #[t, t] ty0 #[.slice none 0 0, ux]).run P w = .ok (.slice none 0 0) w := by
  obtain ⟨h1, _⟩ := hT.ty t d ht
  rw [hd] at h1
  obtain ⟨_, info, e2, e3, e4, z, e5, e6, e7, e8⟩ := hT.ty e te hte
  subst h0
  rcases hu with rfl | ⟨a, c, rfl⟩
  . simp [Builtin.append_, fM h1, sizeOf, typeInfo, e2, Builtin.lenOf, Builtin.firstCells]
  . simp [Builtin.append_, fM h1, sizeOf, typeInfo, e2, Builtin.lenOf, Builtin.firstCells, loadCells, loadCellsFrom]
theorem FH (hT : kP P T) (ht : T.ty t = some d) (hd : d.desc = .slice e) (hte : T.ty e = some te) (hm : bD W E m w) (hWn : W w.heap.size) {x : AV} {ux : Value} {nx : Nat} {gx g : List CF} (hxv : VR E x ux) (hx : acC te.size m x = some (nx, gx))
    (hglen : g.length = te.size) (hg : gx ≠ [] -> ∀ k, k < nx -> ∀ us, VRs E.bare (rowOf gx k) us -> VRs E.bare (rowOf g k) us)
    (hby : nx * te.bytes <= 1000000000000) (hnx : nx <= 1000000000000) :
    (nx = 0 /\ (Builtin.append_ #[t, t] ty0 #[.slice none 0 0, ux]).run P w = .ok (.slice none 0 0) w) ∨
    (0 < nx /\ ∃ w' cap, (Builtin.append_ #[t, t] ty0 #[.slice none 0 0, ux]).run P w = .ok (.slice (some ⟨w.heap.size, 0, none⟩) nx cap) w' /\ nx <= cap /\ Keep (fun i => w.heap.size <= i) w w' /\ w'.heap.size = w.heap.size + 1 /\
      ∀ E' : Env, E'.ro = E.ro -> Ad W E' ⟨w.heap.size, cap, te.size, nx⟩ (.many true e nx g) w') := by
  have hnone := Xm (w := w) (P := P) (ty0 := ty0) (ux := ux) (nx := nx) hT ht hd hte
  obtain ⟨h1, _⟩ := hT.ty t d ht
  rw [hd] at h1
  obtain ⟨_, info, e2, e3, e4, z, e5, e6, e7, e8⟩ := hT.ty e te hte
  have hzsize : z.cells.size = te.size := by
    have := (lC e7 (e6 E)).1.length
    rw [<- Array.length_toList, this, e8]
  rcases (U6 hm hxv hx).2 with ⟨rfl, rfl⟩ | ⟨a, c, rfl, hnc, news, a1, a2, a3, a4⟩
  . exact .inl ⟨rfl, hnone rfl (.inl rfl)⟩
  . rcases Nat.eq_zero_or_pos nx with rfl | hpos'
    . exact .inl ⟨rfl, hnone rfl (.inr ⟨a, c, rfl⟩)⟩
    . have hrun := run_append_nil (P := P) w t ty0 e info z h1 e2 e5 a nx c news (by rw [e3]; exact a1) a3 hpos' (by omega) (by rw [e4]; omega)
      have hge := grownCap_ge w nx 0 e
      refine .inr ⟨hpos', _, grownCap w nx 0 e, hrun, hge, (Keep.drew _ w).trans (Keep.alloc _ w.drew _), by show (w.heap.push _).size = _; simp, fun E' hE' => ?_⟩
      have := aek (W := W) (E := E') (w := w.drew) (e := e) (g := g) (n := nx) (l := news) (rest := Builtin.zeroCells z.cells (grownCap w nx 0 e - nx)) hWn (by rw [hglen]; exact a1) hge (by rw [FC, hzsize, hglen]) a2 (fun k hk => by
        have hb : E'.bare = E.bare := by unfold Env.bare; rw [hE']
        rw [hb, hglen]
        exact hg (a4 k hk).1 k hk _ (a4 k hk).2)
      rw [hglen] at this
      exact this
theorem Yr (hT : kP P T) (ht : T.ty t = some d) (hd : d.desc = .slice e) (hte : T.ty e = some te) (hpos0 : 0 < te.size)
    (hm : bD W E m w) {s x : AV} {us ux : Value} (hsv : VR E s us) (hxv : VR E x ux) {slot : Nat} (hs : slot < m.length) (hE : E.bl slot = none) (hW : ∀ i, w.heap.size <= i -> W i) {p : Prop} {v : AV} {m' : Mem}
    (h : jM te e s x m slot = .val p v m') (hp : p) :
    ∃ E' w' u, (Builtin.append_ #[t, t] ty0 #[us, ux]).run P w = .ok u w' /\ E.le E' /\ bD W E' m' w' /\ Keep W w w' /\ VR E' v u /\ (∀ b, b ≠ slot -> E'.bl b = E.bl b) /\ E'.ro = E.ro /\ (∀ b x, E'.bl b = some x -> (∃ y, E.bl b = some y /\ y.blk = x.blk) \/ w.heap.size <= x.blk) := by
  have hWn : W w.heap.size := hW _ (Nat.le_refl _)
  unfold jM at h
  split at h
  . cases h
  . rename_i nx gx hx
    split at h
    . -- nil
      split at h
      . cases h
      rename_i c0 cs0
      simp only [R.val.injEq] at h
      obtain ⟨rfl, rfl, rfl⟩ := h
      unfold VR at hsv
      subst hsv
      have hglen : (c0 :: cs0).length = te.size := (U6 hm hxv hx).1.resolve_left (by simp)
      rcases FH (ty0 := ty0) hT ht hd hte hm hWn hxv hx hglen (fun _ _ _ _ h => h) hp.1 hp.2 with ⟨rfl, hrun⟩ | ⟨hpos, w', cap, hrun, hc, hk, hsz, hok⟩
      . exact ⟨E, w, _, hrun, Env.le.refl _, hm.U2 hE _, Keep.refl _ _, (by unfold VR; exact .inl ⟨by simp, rfl, rfl⟩), fun _ _ => rfl, rfl, fun _ x h => .inl ⟨x, h, rfl⟩⟩
      . refine ⟨E.add slot ⟨w.heap.size, cap, te.size, nx⟩, w', _, hrun, Env.PV _ hE, (hm.grown hk).new hs hE (fun b y e _ => ?_) (hm.JX (Nat.le_refl _)) (by simp only; omega) (hok _ rfl), hk.mono fun i _ h => hW i h, ?_, fun b hb => Env.qJ _ _ hb, rfl, Env.JZ (.inr (Nat.le_refl _))⟩
        . have := (hm.dom b y e).2.1
          exact fun e2 => by simp only at e2; omega
        . unfold VR
          refine .inr ⟨?_, _, Env.add_same _ _ _, rfl, hpos0, rfl, hc, by simp [Bl.addr]⟩
          cases hb : Nat.beq nx 0 with
          | false => simp
          | true => have := Nat.eq_of_beq_eq_true hb; omega
    . split at h
      . split at h
        . split at h <;> cases h
        . cases h
      . cases h
    . cases h
theorem Ud (hT : kP P T) (ht : T.ty t = some d) (hd : d.desc = .slice e) (hte : T.ty e = some te) (hpos0 : 0 < te.size)
    (hm : bD W E m w) {s x : AV} {us ux : Value} (hsv : VR E s us) (hxv : VR E x ux) {slot : Nat} (hW : ∀ i, w.heap.size <= i -> W i) {p : Prop} {v : AV} {m' : Mem} {bb : Nat}
    (h : jM te e s x m slot = .app p v m' bb) (hp : p) :
    ∃ (q' : Option Bool) (n':Nat) (cols' : List CF), v = .sl q' bb n' te.size /\ m' = setAt m bb (.many true e n' cols') /\ bb < slot /\ bb < m.length /\ ∃ w' u, (Builtin.append_ #[t, t] ty0 #[us, ux]).run P w = .ok u w' /\ Keep W w w' /\
      ((n' = 0 /\ q' ≠ some false /\ u = .slice none 0 0 /\ w' = w) \/ (q' ≠ some true /\ ∃ x : Bl, apG W E m w w' bb e te.size n' cols' u x)) := by
  have hWn : W w.heap.size := hW _ (Nat.le_refl _)
  obtain ⟨h1, _⟩ := hT.ty t d ht
  rw [hd] at h1
  obtain ⟨_, info, e2, e3, e4, z, e5, e6, e7, e8⟩ := hT.ty e te hte
  have hzsize : z.cells.size = te.size := by
    have := (lC e7 (e6 E)).1.length
    rw [<- Array.length_toList, this, e8]
  unfold jM at h
  split at h
  . cases h
  . rename_i nx gx hx
    split at h
    . split at h <;> cases h
    . rename_i q b n sz
      split at h
      . rename_i ty n0 cols hg
        split at h
        . rename_i hcc
          simp only [Bool.and_eq_true] at hcc
          obtain ⟨c1, c2, c3, c4⟩ := hcc
          have c1 := Nat.eq_of_beq_eq_true c1
          have c2 := Nat.eq_of_beq_eq_true c2
          have c3 := Nat.eq_of_beq_eq_true c3
          rw [jE] at c2
          subst c1 c3
          split at h
          rotate_left
          . cases h
          rename_i cols' hcols
          simp only [R.app.injEq] at h
          obtain ⟨rfl, rfl, rfl, rfl⟩ := h
          obtain ⟨p3, p4⟩ := hp
          have hbl : b < m.length := by
            rcases Nat.lt_or_ge b m.length with h | h
            . exact h
            . rw [kZ _ h] at hg; cases hg
          -- the columns behind
          have hcl : cols'.length = te.size /\ (∀ k us, k < n -> fD E.ro cols k us -> fD E.ro cols' k us) /\ (gx ≠ [] -> ∀ k us, n <= k -> fD E.ro gx (k - n) us -> fD E.ro cols' k us) := by
            split at hcols
            . cases hcols
              exact ⟨c2, fun _ _ _ h => h, fun h => absurd rfl h⟩
            . obtain ⟨g1, g2, g3, g4⟩ := PU (ro := E.ro) hcols
              exact ⟨by omega, g3, fun _ => g4⟩
          obtain ⟨hclen, hcold, hcnew⟩ := hcl
          have rold : ∀ k us, k < n -> VRs E.bare (rowOf cols k) us -> VRs E.bare (rowOf cols' k) us := fun k us hk hu => (fD.row (E := E.bare) _ _).2 (hcold k us hk ((fD.row (E := E.bare) _ _).1 hu))
          have rnew : gx ≠ [] -> ∀ k us, n <= k -> VRs E.bare (rowOf gx (k - n)) us -> VRs E.bare (rowOf cols' k) us := fun hne k us hk hu => (fD.row (E := E.bare) _ _).2 (hcnew hne k us hk ((fD.row (E := E.bare) _ _).1 hu))
          refine ⟨_, _, _, rfl, rfl, by simpa using c4, hbl, ?_⟩
          have hqn : q ≠ some false -> nx = 0 -> Tz q nx ≠ some false := fun hq h0 => by
            subst h0
            cases q with
            | none => simp [Tz]
            | some q => cases q <;> simp [Tz] at hq ⊢
          have hqp : (0 < nx \/ q ≠ some true) -> Tz q nx ≠ some true := fun hq => by
            cases q with
            | none => simp [Tz]
            | some q =>
              cases hb : Nat.beq nx 0 with
              | false => simp [Tz, hb]
              | true =>
                have := Nat.eq_of_beq_eq_true hb
                rcases hq with hq | hq
                . omega
                . cases q <;> simp [Tz, hb] at hq ⊢
          unfold VR at hsv
          rcases hsv with ⟨hq, rfl, rfl⟩ | ⟨hq, y, hy, hys, hy0, hyl, hyc, rfl⟩
          . -- nil
            rcases FH (ty0 := ty0) (g := cols') hT ht hd hte hm hWn hxv hx hclen (fun hne k hk us hu => rnew hne k us (Nat.zero_le _) hu) (by simpa using p3) (by simpa using p4) with ⟨rfl, hrun⟩ | ⟨hpos, w', cap, hrun, hc, hk, hsz, hok⟩
            . exact ⟨w, _, hrun, Keep.refl _ _, .inl ⟨rfl, hqn hq rfl, rfl, rfl⟩⟩
            . rw [Nat.zero_add]
              refine ⟨w', _, hrun, hk.mono fun i _ h => hW i h, .inr ⟨hqp (.inl hpos), ⟨w.heap.size, cap, te.size, nx⟩, by simp [Bl.addr], rfl, hpos0, rfl, hc, fun b' y _ e _ => ?_, fun b o v e => ?_, hm.JX (Nat.le_refl _), by simp only; omega, hk.size, hok, .inr (Nat.le_refl _)⟩⟩
              . have := (hm.dom b' y e).2.1
                exact ⟨fun e2 => by simp only at e2; omega, hk.block _ this (by omega)⟩
              . have := (hm.ro b o v e).1
                exact hk.block _ this (by omega)
          . have hown : (aS .gone m b).own = true := by rw [hg]; rfl
            obtain ⟨hb1, hb2, hb3⟩ := hm.dom b y hy
            rw [hg] at hb3
            rcases hb3 with hb3 | ⟨g1, gl, gc, g2, g3⟩
            . cases hb3
            . obtain ⟨o1, C, o4, o5⟩ := g3 rfl
              simp only [AB.n, AB.sz, AB.ty] at g1 gl gc o4 o5
              rw [c2] at g1 o5
              have hnn : n0 = n := by omega
              subst hnn
              have haddr : y.addr 0 0 = ⟨y.blk, 0, none⟩ := by simp [Bl.addr]
              -- the old elements
              obtain ⟨olds, b1, b2, b3, b4⟩ := gather (E := E.bare) te.size (rowOf cols) (fun q => w.cell? (y.addr 0 q)) n0 (fun k hk => by
                obtain ⟨l, l1, l2, l3, l4⟩ := g2 k hk
                simp only [AB.sz] at l2 l4
                refine ⟨l, l1, by omega, l3, fun j hj => ?_⟩
                rw [<- l4 j (by omega)]
                congr 1
                unfold Bl.addr
                congr 1
                rw [g1]
                show 0 * te.size + (k * te.size + j) = k * te.size + j
                omega)
              have hmul : n0 * te.size <= C.size := by rw [o5]; exact Nat.mul_le_mul_right _ gc
              have holdC : ∀ q, q < n0 * te.size -> C[q]? = olds[q]? := fun q hq => by
                rw [<- b3 q hq, kD o4]
                simp
              have hother : ∀ b' y', b' ≠ b -> E.bl b' = some y' -> aS .gone m b' ≠ .gone -> y'.blk ≠ y.blk := fun b' y' hne e hg' => Ne.symm (hm.inj b b' y y' (Ne.symm hne) hy e hown hg')
              have hroo : ∀ b' o v, E.ro b' o = some v -> b' ≠ y.blk := fun b' o v e e2 => by subst e2; rw [hm.apart b y hy hown o] at e; cases e
              -- within the room
              have room : ∀ {news : List Value} {w' : World} {u : Value}, n0 + nx <= y.cap -> news.length = nx * te.size -> (∀ u ∈ news, u.oneCell' = true) -> (∀ k, k < nx -> gx ≠ [] /\ VRs E.bare (rowOf gx k) ((news.drop (k * te.size)).take te.size)) ->
                  w' = w.setRow y.blk (C.toList.take (n0 * te.size) ++ news ++ C.toList.drop (n0 * te.size + news.length)).toArray -> u = .slice (some ⟨y.blk, 0, none⟩) (n0 + nx) y.cap ->
                  Keep W w w' /\ (Tz q nx ≠ some true /\ ∃ x : Bl, apG W E m w w' b ty te.size (n0 + nx) cols' u x) := by
                intro news w' u hroom a1 a2 a4 hw' hu
                subst hw' hu
                have hfit : n0 * te.size + news.length <= C.size := by
                  rw [a1, o5, <- Nat.add_mul]
                  exact Nat.mul_le_mul_right _ hroom
                have hC' := setRow_heap w y.blk C (C.toList.take (n0 * te.size) ++ news ++ C.toList.drop (n0 * te.size + news.length)).toArray ty (0, 0) o4
                refine ⟨Oc W w _ _ o1, hqp (.inr hq), ⟨y.blk, y.cap, te.size, n0 + nx⟩, by simp [Bl.addr], rfl, hpos0, rfl, hroom, fun b' y' hne e hg' => ⟨hother b' y' hne e hg', Ag.setRow_other w _ _ _ (hother b' y' hne e hg')⟩, fun b' o v e => Ag.setRow_other w _ _ _ (hroo b' o v e), hm.apart b y hy hown, by rw [setRow_size]; exact hb2, by rw [setRow_size]; exact Nat.le_refl _,
                  fun E' hE' => .inr ⟨hclen.symm, rfl, hroom, fun k hk => ?_, fun _ => ⟨o1, _, hC', ?_⟩⟩, .inl ⟨y, hy, rfl⟩⟩
                . have hbare : E'.bare = E.bare := by unfold Env.bare; rw [hE']
                  rw [show (AB.many true ty (n0 + nx) cols').env E' = E.bare from hbare]
                  simp only [AB.n] at hk
                  by_cases hkn : k < n0
                  . have hle : (k + 1) * te.size <= n0 * te.size := Nat.mul_le_mul_right _ hkn
                    rw [Nat.add_mul, Nat.one_mul] at hle
                    refine ⟨(olds.drop (k * te.size)).take te.size, rold k _ hkn (b4 k hkn), by simp only [AB.sz]; simp; omega, fun c hc => b2 c (List.mem_of_mem_drop (List.mem_of_mem_take hc)), fun j hj => ?_⟩
                    simp only [AB.sz] at hj
                    rw [hclen] at hj
                    rw [kD (x := ⟨y.blk, y.cap, te.size, n0 + nx⟩) hC', List.getElem?_toArray, U4 _ _ _ _ (by simpa using hfit)]
                    simp only
                    rw [if_neg (by omega), List.getElem?_take_of_lt hj, List.getElem?_drop, <- holdC _ (by omega)]
                    simp
                  . have hle : (k - n0 + 1) * te.size <= nx * te.size := Nat.mul_le_mul_right _ (by omega)
                    rw [Nat.add_mul, Nat.one_mul] at hle
                    have hks : k * te.size = n0 * te.size + (k - n0) * te.size := by rw [<- Nat.add_mul]; congr 1; omega
                    obtain ⟨d1, d2⟩ := a4 (k - n0) (by omega)
                    refine ⟨(news.drop ((k - n0) * te.size)).take te.size, rnew d1 k _ (by omega) d2, by simp only [AB.sz]; simp; omega, fun c hc => a2 c (List.mem_of_mem_drop (List.mem_of_mem_take hc)), fun j hj => ?_⟩
                    simp only [AB.sz] at hj
                    rw [hclen] at hj
                    rw [kD (x := ⟨y.blk, y.cap, te.size, n0 + nx⟩) hC', List.getElem?_toArray, U4 _ _ _ _ (by simpa using hfit)]
                    simp only
                    rw [if_pos (by omega), List.getElem?_take_of_lt hj, List.getElem?_drop]
                    congr 1
                    omega
                . simp only [AB.sz, List.size_toArray, List.length_append, List.length_take, List.length_drop, Array.length_toList]
                  rw [hclen]
                  omega
              rcases (U6 hm hxv hx).2 with ⟨rfl, rfl⟩ | ⟨a, c, rfl, _, news, a1, a2, a3, a4⟩
              . -- nothing comes
                have hrun : (Builtin.append_ #[t, t] ty0 #[.slice (some (y.addr 0 0)) n0 y.cap, .slice none 0 0]).run P w = .ok (.slice (some ⟨y.blk, 0, none⟩) n0 y.cap) w := by
                  rw [haddr]
                  simp [Builtin.append_, fM h1, sizeOf, typeInfo, e2, Builtin.lenOf, Builtin.firstCells, hyc, storeCells]
                have hself : w = w.setRow y.blk (C.toList.take (n0 * te.size) ++ ([] : List Value) ++ C.toList.drop (n0 * te.size + ([] : List Value).length)).toArray := by
                  simp only [List.append_nil, List.length_nil, Nat.add_zero, List.take_append_drop, Array.toArray_toList]
                  exact (setRow_self w y.blk C ty (0, 0) o4).symm
                obtain ⟨q1, q2⟩ := room (news := []) (by simpa using hyc) (by simp) (by simp) (fun k hk => absurd hk (Nat.not_lt_zero _)) hself rfl
                exact ⟨w, _, hrun, q1, .inr q2⟩
              . by_cases hroom : n0 + nx <= y.cap
                . have hrun := run_append_room (P := P) w t ty0 ty info h1 e2 y.blk n0 y.cap C o4 a nx c news (by rw [e3]; exact a1) a3 a2 hroom (by
                    rw [e3, a1, o5, <- Nat.add_mul]
                    exact Nat.mul_le_mul_right _ hroom)
                  rw [<- haddr, e3] at hrun
                  obtain ⟨q1, q2⟩ := room hroom a1 a2 a4 rfl rfl
                  exact ⟨_, _, by rw [hrun, haddr], q1, .inr q2⟩
                . have hrun := run_append_grow (P := P) w t ty0 ty info z h1 e2 e5 (y.addr 0 0) n0 y.cap olds (by rw [e3]; exact b1) (fun j v hj => by
                      have hjl : j < n0 * te.size := by
                        rcases Nat.lt_or_ge j (n0 * te.size) with h | h
                        . exact h
                        . rw [List.getElem?_eq_none (by omega)] at hj; cases hj
                      rw [addr_add, Nat.zero_add, b3 j hjl]
                      exact hj) a nx c news (by rw [e3]; exact a1) a3 (by omega) (by omega) (growslice_fits (by omega) (by rw [e4]; omega))
                  have hge := grownCap_ge w (n0 + nx) y.cap ty
                  have happ : olds.toArray ++ news.toArray = (olds ++ news).toArray := by simp
                  rw [happ] at hrun
                  have hok := fun (E' : Env) (hE' : E'.ro = E.ro) => aek (W := W) (E := E') (w := w.drew) (e := ty) (g := cols') (l := olds ++ news) (rest := Builtin.zeroCells z.cells (grownCap w (n0 + nx) y.cap ty - (n0 + nx))) (n := n0 + nx) hWn
                    (by rw [List.length_append, b1, a1, Nat.add_mul, hclen]) hge (by rw [FC, hzsize, hclen]) (fun c hc => by
                      rcases List.mem_append.1 hc with hc | hc
                      . exact b2 c hc
                      . exact a2 c hc) (fun k hk => by
                      have hbare : E'.bare = E.bare := by unfold Env.bare; rw [hE']
                      rw [hbare, hclen]
                      by_cases hkn : k < n0
                      . have hle : (k + 1) * te.size <= n0 * te.size := Nat.mul_le_mul_right _ hkn
                        rw [Nat.add_mul, Nat.one_mul] at hle
                        rw [List.drop_append_of_le_length (by omega), List.take_append_of_le_length (by simp; omega)]
                        exact rold k _ hkn (b4 k hkn)
                      . have hks : k * te.size = olds.length + (k - n0) * te.size := by rw [b1, <- Nat.add_mul]; congr 1; omega
                        rw [hks, List.drop_append, List.drop_eq_nil_of_le (by omega), List.nil_append]
                        obtain ⟨d1, d2⟩ := a4 (k - n0) (by omega)
                        rw [show olds.length + (k - n0) * te.size - olds.length = (k - n0) * te.size by omega]
                        exact rnew d1 k _ (by omega) d2)
                  rw [hclen] at hok
                  have hk : ∀ o, Keep (fun i => w.heap.size <= i) w (w.drew.alloc o) := fun o => (Keep.drew _ w).trans (Keep.alloc _ w.drew o)
                  refine ⟨_, _, hrun, (hk _).mono fun i _ h => hW i h, .inr ⟨hqp (.inr hq), ⟨w.heap.size, grownCap w (n0 + nx) y.cap ty, te.size, n0 + nx⟩, by simp [Bl.addr], rfl, hpos0, rfl, hge, fun b' y' hne e hg' => ?_, fun b' o v e => ?_, hm.JX (Nat.le_refl _), by show w.heap.size < (w.heap.push _).size; simp, (hk _).size, hok, .inr (Nat.le_refl _)⟩⟩
                  . have := (hm.dom b' y' e).2.1
                    exact ⟨fun e2 => by simp only at e2; omega, (hk _).block _ this (by omega)⟩
                  . have := (hm.ro b' o v e).1
                    exact (hk _).block _ this (by omega)
        . cases h
      . cases h
    . cases h
theorem ahk (hT : kP P T) (ht : T.ty t = some d) (hd : d.desc = .slice e) (hte : T.ty e = some te) (hpos0 : 0 < te.size)
    (hm : bD W E m w) {s x : AV} {us ux : Value} (hsv : VR E s us) (hxv : VR E x ux) {slot : Nat} (hW : ∀ i, w.heap.size <= i -> W i) {p : Prop} {v : AV} {m' : Mem} {bb : Nat}
    (h : jM te e s x m slot = .app p v m' bb) (hp : p) :
    m'.length = m.length /\ bb < slot /\ ∃ E' w' u, (Builtin.append_ #[t, t] ty0 #[us, ux]).run P w = .ok u w' /\ E.leX bb E' /\ bD W E' (tX bb m') w' /\ Keep W w w' /\ VR E' v u /\ (∀ b, b ≠ bb -> E'.bl b = E.bl b) /\ E'.ro = E.ro /\ bb < m.length /\ (∀ b x, E'.bl b = some x -> (∃ y, E.bl b = some y /\ y.blk = x.blk) \/ w.heap.size <= x.blk) := by
  obtain ⟨q', n', cols', rfl, rfl, hbs, hbl, w', u, hrun, hk, hc⟩ := Ud (ty0 := ty0) hT ht hd hte hpos0 hm hsv hxv hW h hp
  refine ⟨cu _ _ _, hbs, ?_⟩
  rcases hc with ⟨rfl, hq, rfl, rfl⟩ | ⟨hq, y, hr⟩
  . exact ⟨E.del bb, w', _, hrun, Env.aaC _ _, hm.apF _ _, hk, by unfold VR; exact .inl ⟨hq, rfl, rfl⟩, fun b' hb' => Env.ak0 _ hb', rfl, hbl, fun b' x h => .inl ⟨x, (Env.FD h).2, rfl⟩⟩
  . refine ⟨E.add bb y, w', u, hrun, Env.aaB _ _, hm.replace hbl rfl hr.size hr.other hr.ro hr.fresh hr.lt (hr.ok _ rfl), hk, ?_, fun b' hb' => Env.qJ _ _ hb', rfl, hbl, Env.JZ hr.blk⟩
    unfold VR
    exact .inr ⟨hq, y, Env.add_same _ _ _, hr.sz, hr.pos, hr.len, hr.cap, hr.val⟩
theorem ael (hT : kP P T) (ht : T.ty t = some d) (hd : d.desc = .slice e) (hte : T.ty e = some te) (hpos0 : 0 < te.size)
    (hm : bD W E m w) {s x : AV} {us ux : Value} (hsv : VR E s us) (hxv : VR E x ux) {slot : Nat} (hs : slot < m.length) (hE : E.bl slot = none) (hW : ∀ i, w.heap.size <= i -> W i) {p : Prop} {q : Option Bool} {b0 n z : Nat} {m' : Mem} {bb : Nat}
    (h : jM te e s x m slot = .app p (.sl q b0 n z) m' bb) (hp : p) :
    ∃ E' w' u, (Builtin.append_ #[t, t] ty0 #[us, ux]).run P w = .ok u w' /\ E.le E' /\ bD W E' (setAt (setAt m' bb .gone) slot (aS .gone m' bb)) w' /\ Keep W w w' /\ VR E' (.sl q slot n z) u /\ (∀ b, b ≠ slot -> E'.bl b = E.bl b) /\ E'.ro = E.ro /\ (∀ b x, E'.bl b = some x -> (∃ b' y, E.bl b' = some y /\ y.blk = x.blk) \/ w.heap.size <= x.blk) := by
  obtain ⟨q', n', cols', hv, rfl, hbs, hbl, w', u, hrun, hk, hc⟩ := Ud (ty0 := ty0) hT ht hd hte hpos0 hm hsv hxv hW h hp
  cases hv
  rw [bV _ _ hbl]
  have hset : setAt (setAt m b0 (.many true e n cols')) b0 .gone = setAt m b0 .gone := by simp [pR]
  rw [hset]
  rcases hc with ⟨rfl, hq, rfl, rfl⟩ | ⟨hq, y, hr⟩
  . exact ⟨E, w', _, hrun, Env.le.refl _, (hm.forget b0).U2 hE _, hk, by unfold VR; exact .inl ⟨hq, rfl, rfl⟩, fun _ _ => rfl, rfl, fun b' x h => .inl ⟨b', x, h, rfl⟩⟩
  . have hsame : bD W E (setAt m b0 .gone) w' := (hm.forget b0).same hr.size (fun b' y' e hg => by
      by_cases hbb : b' = b0
      . subst hbb; rw [bV _ _ hbl] at hg; exact absurd rfl hg
      . rw [aP _ _ _ (Ne.symm hbb)] at hg
        exact (hr.other b' y' hbb e hg).2) hr.ro
    refine ⟨E.add slot y, w', u, hrun, Env.PV _ hE, hsame.new (by rw [cu]; exact hs) hE (fun b' y' e hg => ?_) hr.fresh hr.lt (hr.ok _ rfl), hk, ?_, fun b' hb' => Env.qJ _ _ hb', rfl, fun b' x hx => ?_⟩
    . by_cases hbb : b' = b0
      . subst hbb; rw [bV _ _ hbl] at hg; exact absurd rfl hg
      . rw [aP _ _ _ (Ne.symm hbb)] at hg
        exact (hr.other b' y' hbb e hg).1
    . unfold VR
      exact .inr ⟨hq, y, Env.add_same _ _ _, hr.sz, hr.pos, hr.len, hr.cap, hr.val⟩
    . unfold Env.add at hx
      simp only at hx
      split at hx
      . cases hx
        rcases hr.blk with ⟨y', h1, h2⟩ | h1
        . exact .inl ⟨b0, y', h1, h2⟩
        . exact .inr h1
      . exact .inl ⟨b', x, hx, rfl⟩
end
end
end Go.Ag
