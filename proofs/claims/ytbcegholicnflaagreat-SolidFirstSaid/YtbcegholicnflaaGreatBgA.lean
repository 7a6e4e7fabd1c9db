import Derived.RangeFuncLeaves
import Derived.OrdersIn
import Derived.OwnWalk
import Derived.KernelRfl
import Derived.Below
import Derived.Laws.CopyRow
import Derived.Laws.Cells
import Derived.Laws.Append
import Derived.Laws.AppendOwn
set_option linter.unusedVariables false
namespace Go.Ag
inductive CF where
  | I (k : IntKind) (f:Nat -> Int)
  | B (f : Nat -> Bool)
  | S (n : Nat -> Nat) (c : Nat -> List CF)   -- slices: their lengths, their columns
inductive AV where
  | dead
  | int (k : IntKind) (n:Int)
  | bool (b:Bool)
  | nilp
  | ptr (e:Bool) (b i j:Nat)   -- e: into an element of a row
  | nils
  | sl (q : Option Bool) (b n s:Nat)   -- a slice of an own block from its start: whether it is nil, block, length, cells of an element
  | agg (cs : List AV)
  | tup (vs : List AV)
  | ifc (t : TypeId) (v : AV)
  | nili
  | fn (f : FuncId) (cap : List AV)
  | raw (v : Value)
  | rs (q : Option Bool) (n:Nat) (cols : List CF)   -- a slice that nobody writes: whether it is nil, length, columns
  | rp (cells : List AV) (j:Nat)   -- a pointer to such an element's cell j
inductive AB where
  | gone
  | one (own:Bool) (ty : TypeId) (cells : List AV)
  | many (own:Bool) (ty : TypeId) (n:Nat) (cols : List CF)
abbrev Mem := List AB
structure VS where
  tmps : List AV
  mem : Mem
  df : Bool
  /-- The blocks below this number stay where they are. -/
  pin : Nat := 0
structure TI where
  desc : TypeDesc
  size : Nat
  bytes : Nat
  zv : AV
inductive Kd where
  | I (k : IntKind)
  | B
structure Tab where
  ty : TypeId -> Option TI
  meth : TypeId -> String -> Option FuncId
  plain : TypeId -> Option (List Kd)
def AV.JE : Value -> AV
  | .int k n => .int k n
  | .bool b => .bool b
  | .pointer none => .nilp
  | .slice none 0 0 => .nils
  | .nilIface => .nili
  | v => .raw v
def AV.ofValue : Value -> AV
  | .agg cs => .agg (cs.toList.map .JE)
  | v => .JE v
def AV.KP : AV -> Bool
  | .dead => false
  | .agg _ => false
  | .tup _ => false
  | .raw (.string _) => true
  | .raw _ => false
  | _ => true
def AV.cellsOf : AV -> Option (List AV)
  | .agg cs => if cs.all AV.KP then some cs else none
  | v => if v.KP then some [v] else none
mutual
def AV.free : AV -> Bool
  | .ptr .. => false
  | .sl .. => false
  | .agg cs => AV.frees cs
  | .tup cs => AV.frees cs
  | .ifc _ v => v.free
  | .fn _ cap => AV.frees cap
  | .dead => true
  | .int .. => true
  | .bool _ => true
  | .nilp => true
  | .nils => true
  | .nili => true
  | .raw _ => true
  | .rs .. => true
  | .rp .. => true
def AV.frees : List AV -> Bool
  | [] => true
  | a :: as => a.free && AV.frees as
end
mutual
def AV.norm : AV -> AV
  | .nils => .rs none 0 []
  | .rs _ n c => .rs none n c
  | .agg cs => .agg (AV.PL cs)
  | .tup cs => .tup (AV.PL cs)
  | .ifc t v => .ifc t v.norm
  | .fn f cap => .fn f (AV.PL cap)
  | .dead => .dead
  | .int k n => .int k n
  | .bool b => .bool b
  | .nilp => .nilp
  | .ptr e b i j => .ptr e b i j
  | .sl q b n s => .sl q b n s
  | .nili => .nili
  | .raw v => .raw v
  | .rp cs j => .rp cs j
def AV.PL : List AV -> List AV
  | [] => []
  | a :: as => a.norm :: AV.PL as
end
def CF.at : CF -> Nat -> AV
  | .I kk f, k => .int kk (f k)
  | .B f, k => .bool (f k)
  | .S n c, k => .rs none (n k) (c k)
def rowOf : List CF -> Nat -> List AV
  | [], _ => []
  | c :: cs, k => c.at k :: rowOf cs k
mutual
def OI (b:Bool) : CF -> CF -> CF
  | .I k f, .I k' g => if k = k' then .I k (fun i => cond b (f i) (g i)) else cond b (.I k f) (.I k' g)
  | .B f, .B g => .B (fun i => cond b (f i) (g i))
  | .S n c, .S n' c' => .S (fun i => cond b (n i) (n' i)) (fun i => EU b (c i) (c' i))
  | x, y => cond b x y
def EU (b:Bool) : List CF -> List CF -> List CF
  | [], ys => ys
  | xs, [] => xs
  | x :: xs, y :: ys => OI b x y :: Yj b xs ys
def Yj (b:Bool) : List CF -> List CF -> List CF
  | [], [] => []
  | x :: xs, y :: ys => OI b x y :: Yj b xs ys
  | xs, ys => cond b xs ys
end
def setAt {α : Type} : List α -> Nat -> α -> List α
  | [], _, _ => []
  | _ :: xs, 0, y => y :: xs
  | x :: xs, n + 1, y => x :: setAt xs n y
def aS {α : Type} (d : α) : List α -> Nat -> α
  | [], _ => d
  | x :: _, 0 => x
  | _ :: xs, n + 1 => aS d xs n
def setCells : List AV -> Nat -> List AV -> List AV
  | cs, _, [] => cs
  | cs, j, v :: vs => setCells (setAt cs j v) (j + 1) vs
mutual
def AV.tV : AV -> AV
  | .sl _ _ _ _ => .dead
  | .nils => .rs none 0 []
  | .rs _ n c => .rs none n c
  | .agg cs => .agg (AV.JF cs)
  | .tup cs => .tup (AV.JF cs)
  | .ifc t v => .ifc t v.tV
  | .fn f cap => .fn f (AV.JF cap)
  | .dead => .dead
  | .int k n => .int k n
  | .bool b => .bool b
  | .nilp => .nilp
  | .ptr _ _ _ _ => .dead
  | .nili => .nili
  | .raw v => .raw v
  | .rp cs j => .rp cs j
def AV.JF : List AV -> List AV
  | [] => []
  | a :: as => a.tV :: AV.JF as
end
mutual
def AV.frz (m : Mem) : AV -> AV
  | .sl _ b n s => match aS .gone m b with
    | .many _ _ _ c => .rs none n c
    | _ => .dead
  | .nils => .rs none 0 []
  | .rs _ n c => .rs none n c
  | .agg cs => .agg (AV.Hf m cs)
  | .tup cs => .tup (AV.Hf m cs)
  | .ifc t v => .ifc t (v.frz m)
  | .fn f cap => .fn f (AV.Hf m cap)
  | .dead => .dead
  | .int k n => .int k n
  | .bool b => .bool b
  | .nilp => .nilp
  | .ptr e b i j => cond e .dead (cond (Nat.beq i 0) (match aS .gone m b with
    | .one _ _ cs => .rp (AV.JF cs) j
    | _ => .dead) .dead)
  | .nili => .nili
  | .raw v => .raw v
  | .rp cs j => .rp cs j
def AV.Hf (m : Mem) : List AV -> List AV
  | [] => []
  | a :: as => a.frz m :: AV.Hf m as
end
mutual
def AV.slb : AV -> List Nat
  | .sl _ b _ _ => [b]
  | .agg cs => AV.slbs cs
  | .tup cs => AV.slbs cs
  | .ifc _ v => v.slb
  | .fn _ cap => AV.slbs cap
  | .dead => []
  | .int _ _ => []
  | .bool _ => []
  | .nilp => []
  | .ptr e b _ _ => cond e [] [b]
  | .nils => []
  | .nili => []
  | .raw _ => []
  | .rs _ _ _ => []
  | .rp _ _ => []
def AV.slbs : List AV -> List Nat
  | [] => []
  | a :: as => a.slb ++ AV.slbs as
end
mutual
def AV.kill (b:Nat) : AV -> AV
  | .ptr e b' i j => cond (Nat.beq b' b) .dead (.ptr e b' i j)
  | .sl q b' n s => cond (Nat.beq b' b) .dead (.sl q b' n s)
  | .agg cs => .agg (AV.kills b cs)
  | .tup cs => .tup (AV.kills b cs)
  | .ifc t v => .ifc t (v.kill b)
  | .fn f cap => .fn f (AV.kills b cap)
  | .dead => .dead
  | .int k n => .int k n
  | .bool b => .bool b
  | .nilp => .nilp
  | .nils => .nils
  | .nili => .nili
  | .raw v => .raw v
  | .rs q n c => .rs q n c
  | .rp cs j => .rp cs j
def AV.kills (b:Nat) : List AV -> List AV
  | [] => []
  | a :: as => a.kill b :: AV.kills b as
end
def AB.kill (b:Nat) : AB -> AB
  | .gone => .gone
  | .one o t cs => .one o t (AV.kills b cs)
  | .many o t n c => .many o t n c
def tX (b:Nat) : Mem -> Mem
  | [] => []
  | x :: xs => x.kill b :: tX b xs
def AB.disown : AB -> AB
  | .gone => .gone
  | .one _ t cs => .one false t cs
  | .many _ t n c => .many false t n c
def oP : List Nat -> Mem -> Mem
  | [], m => m
  | b :: bs, m => oP bs (setAt m b (aS .gone m b).disown)
def VS.eval (st : VS) : Operand -> AV
  | .tmp t => aS .dead st.tmps t
  | .const v => .ofValue v
  | .global _ => .dead
  | .func f => .fn f []
def VS.put (st : VS) (d : Option Tmp) (v : AV) : VS :=
  match d with
  | some d => { st with tmps := setAt st.tmps d v }
  | none => st
inductive R where
  | no
  | val (p:Prop) (v : AV) (m : Mem)
  | app (p:Prop) (v : AV) (m : Mem) (b:Nat)
  | call (f : FuncId) (args : List AV)
def lH : TypeDesc -> Bool
  | .struct _ => true
  | .array _ _ => true
  | _ => false
def takeN {α : Type} : Nat -> List α -> List α
  | 0, _ => []
  | _ + 1, [] => []
  | n + 1, x :: xs => x :: takeN n xs
def EW {α : Type} : Nat -> List α -> List α
  | 0, xs => xs
  | _ + 1, [] => []
  | n + 1, _ :: xs => EW n xs
def jJ {α : Type} : List α -> Nat
  | [] => 0
  | _ :: xs => jJ xs + 1
def vO (agg:Bool) (size j:Nat) (cells : List AV) : Option AV :=
  if agg then (if Nat.ble (j + size) (jJ cells) then some (.agg (takeN size (EW j cells))) else none)
  else (if Nat.blt j (jJ cells) then some (aS .dead cells j) else none)
def xX (ti : TI) (a : AV) (m : Mem) : R :=
  match a with
  | .ptr e b i j => match e, aS .gone m b with
    | false, .one _ _ cells => if Nat.beq i 0 then (match vO (lH ti.desc) ti.size j cells with | some v => .val True v m | none => .no) else .no
    | true, .many _ _ n cols => (match vO (lH ti.desc) ti.size j (rowOf cols i) with | some v => .val (i < n) v m | none => .no)
    | _, _ => .no
  | .rp cells j => match vO (lH ti.desc) ti.size j cells with | some v => .val True v m | none => .no
  | _ => .no
def akX (i:Nat) : CF -> AV -> Option CF
  | .I k f, .int k' x => if k = k' then some (.I k (fun i' => cond (Nat.beq i' i) x (f i'))) else none
  | .B f, .bool x => some (.B (fun i' => cond (Nat.beq i' i) x (f i')))
  | .S n c, .rs _ m cs => some (.S (fun i' => cond (Nat.beq i' i) m (n i')) (fun i' => EU (Nat.beq i' i) cs (c i')))
  | .S n c, .nils => some (.S (fun i' => cond (Nat.beq i' i) 0 (n i')) c)
  | _, _ => none
def xY (i:Nat) : Nat -> List CF -> List AV -> Option (List CF)
  | _, cs, [] => some cs
  | 0, c :: cs, v :: vs => match akX i c v, xY i 0 cs vs with
    | some c', some cs' => some (c' :: cs')
    | _, _ => none
  | j + 1, c :: cs, v :: vs => match xY i j cs (v :: vs) with
    | some cs' => some (c :: cs')
    | none => none
  | _, [], _ :: _ => none
def cellC : AV -> Option CF
  | .int k x => some (.I k (fun _ => x))
  | .bool x => some (.B (fun _ => x))
  | .rs _ n c => some (.S (fun _ => n) (fun _ => c))
  | .nils => some (.S (fun _ => 0) (fun _ => []))
  | _ => none
def Fp : List AV -> Option (List CF)
  | [] => some []
  | a :: as => match cellC a, Fp as with
    | some c, some cs => some (c :: cs)
    | _, _ => none
def akY (n:Nat) : CF -> CF -> Option CF
  | .I k f, .I k' g => if k = k' then some (.I k (fun i => cond (Nat.blt i n) (f i) (g (i - n)))) else none
  | .B f, .B g => some (.B (fun i => cond (Nat.blt i n) (f i) (g (i - n))))
  | .S m c, .S m' c' => some (.S (fun i => cond (Nat.blt i n) (m i) (m' (i - n))) (fun i => EU (Nat.blt i n) (c i) (c' (i - n))))
  | _, _ => none
def N7 (n:Nat) : List CF -> List CF -> Option (List CF)
  | [], [] => some []
  | c :: cs, d :: ds => match akY n c d, N7 n cs ds with
    | some x, some xs => some (x :: xs)
    | _, _ => none
  | _, _ => none
def Xc : List (List AV) -> Option (List CF)
  | [] => none
  | [r] => Fp r
  | r :: rs => match Fp r, Xc rs with
    | some c, some d => N7 1 c d
    | _, _ => none
def qI (ti : TI) (a v : AV) (m : Mem) : R :=
  match a, v.cellsOf with
  | .ptr e b i j, some vs => if Nat.beq (jJ vs) ti.size then
      match e, aS .gone m b with
      | false, .one true ty cells => if Nat.beq i 0 && Nat.ble (j + jJ vs) (jJ cells) then .val True (.tup []) (setAt m b (.one true ty (setCells cells j vs))) else .no
      | true, .many true ty n cols => if Nat.ble (j + jJ vs) (jJ cols) then (match xY i j cols vs with
        | some cols' => .val (i < n) (.tup []) (setAt m b (.many true ty n cols'))
        | none => .no) else .no
      | _, _ => .no
    else .no
  | _, _ => .no
def JG (place : Nat -> Option (Nat × Nat)) : List AV -> List (Nat × AV) -> Option (List AV)
  | cells, [] => some cells
  | cells, (i, v) :: rest => match place i, v.cellsOf with
    | some (off, size), some vs => if Nat.beq (jJ vs) size && Nat.ble (off + size) (jJ cells) then JG place (setCells cells off vs) rest else none
    | _, _ => none
def chunks (sz:Nat) : Nat -> List AV -> List (List AV)
  | 0, _ => []
  | n + 1, l => takeN sz l :: chunks sz n (EW sz l)
def Fq (z : List AV) : Nat -> List AV
  | 0 => []
  | n + 1 => z ++ Fq z n
def AV.cells : AV -> List AV
  | .agg cs => cs
  | v => [v]
def places (T : Tab) : List Field -> Option (List (Nat × Nat))
  | [] => some []
  | f :: fs => match T.ty f.type, places T fs with
    | some ti, some r => some ((f.offset, ti.size) :: r)
    | _, _ => none
theorem aac : ∃ f : IntKind -> Int -> Int -> Int, f = fun k a b => k.wrap (a + b) := ⟨_, rfl⟩
noncomputable def au : IntKind -> Int -> Int -> Int := Classical.choose aac
theorem JH : au = fun k a b => k.wrap (a + b) := Classical.choose_spec aac
theorem aad : ∃ f : IntKind -> Int -> Int -> Int, f = fun k a b => k.wrap (a - b) := ⟨_, rfl⟩
noncomputable def bQ : IntKind -> Int -> Int -> Int := Classical.choose aad
theorem O8 : bQ = fun k a b => k.wrap (a - b) := Classical.choose_spec aad
theorem aae : ∃ f : IntKind -> Int -> Int -> Int, f = fun k a b => k.wrap (a * b) := ⟨_, rfl⟩
noncomputable def aI : IntKind -> Int -> Int -> Int := Classical.choose aae
theorem O9 : aI = fun k a b => k.wrap (a * b) := Classical.choose_spec aae
theorem aaf : ∃ f : IntKind -> Int -> Int -> Int, f = fun k a b => k.wrap (a.tdiv b) := ⟨_, rfl⟩
noncomputable def gG : IntKind -> Int -> Int -> Int := Classical.choose aaf
theorem Pg : gG = fun k a b => k.wrap (a.tdiv b) := Classical.choose_spec aaf
theorem aag : ∃ f : IntKind -> Int -> Int -> Int, f = fun k a b => a.tmod b := ⟨_, rfl⟩
noncomputable def aB : IntKind -> Int -> Int -> Int := Classical.choose aag
theorem rC : aB = fun k a b => a.tmod b := Classical.choose_spec aag
theorem aah : ∃ f : IntKind -> Int -> Int -> Int, f = fun k a b => k.wrap ((BitVec.ofInt k.bits a &&& BitVec.ofInt k.bits b).toNat:Int) := ⟨_, rfl⟩
noncomputable def jK : IntKind -> Int -> Int -> Int := Classical.choose aah
theorem aai : jK = fun k a b => k.wrap ((BitVec.ofInt k.bits a &&& BitVec.ofInt k.bits b).toNat:Int) := Classical.choose_spec aah
theorem ad1 : ∃ f : IntKind -> Int -> Int -> Int, f = fun k a b => k.wrap ((BitVec.ofInt k.bits a ||| BitVec.ofInt k.bits b).toNat:Int) := ⟨_, rfl⟩
noncomputable def ior : IntKind -> Int -> Int -> Int := Classical.choose ad1
theorem Yk : ior = fun k a b => k.wrap ((BitVec.ofInt k.bits a ||| BitVec.ofInt k.bits b).toNat:Int) := Classical.choose_spec ad1
theorem aaj : ∃ f : IntKind -> Int -> Int -> Int, f = fun k a b => k.wrap ((BitVec.ofInt k.bits a ^^^ BitVec.ofInt k.bits b).toNat:Int) := ⟨_, rfl⟩
noncomputable def apB : IntKind -> Int -> Int -> Int := Classical.choose aaj
theorem ahg : apB = fun k a b => k.wrap ((BitVec.ofInt k.bits a ^^^ BitVec.ofInt k.bits b).toNat:Int) := Classical.choose_spec aaj
theorem aak : ∃ f : IntKind -> Int -> Int -> Int, f = fun k a b => k.wrap (a * 2 ^ (min b.toNat k.bits)) := ⟨_, rfl⟩
noncomputable def dL : IntKind -> Int -> Int -> Int := Classical.choose aak
theorem Ph : dL = fun k a b => k.wrap (a * 2 ^ (min b.toNat k.bits)) := Classical.choose_spec aak
theorem aal : ∃ f : IntKind -> Int -> Int -> Int, f = fun k a b => a.fdiv (2 ^ (min b.toNat k.bits)) := ⟨_, rfl⟩
noncomputable def bF : IntKind -> Int -> Int -> Int := Classical.choose aal
theorem aam : bF = fun k a b => a.fdiv (2 ^ (min b.toNat k.bits)) := Classical.choose_spec aal
theorem aan : ∃ f : IntKind -> Int -> Int, f = fun k n => k.wrap (0 - n) := ⟨_, rfl⟩
noncomputable def bM : IntKind -> Int -> Int := Classical.choose aan
theorem Pj : bM = fun k n => k.wrap (0 - n) := Classical.choose_spec aan
theorem aao : ∃ f : IntKind -> Int -> Int, f = fun k n => k.wrap ((BitVec.ofInt k.bits (if k.signed then -1 else k.max) ^^^ BitVec.ofInt k.bits n).toNat:Int) := ⟨_, rfl⟩
noncomputable def apC : IntKind -> Int -> Int := Classical.choose aao
theorem ahh : apC = fun k n => k.wrap ((BitVec.ofInt k.bits (if k.signed then -1 else k.max) ^^^ BitVec.ofInt k.bits n).toNat:Int) := Classical.choose_spec aao
theorem Xd : ∃ f : IntKind -> Int -> Int, f = fun k n => k.wrap n := ⟨_, rfl⟩
noncomputable def aT : IntKind -> Int -> Int := Classical.choose Xd
theorem JI : aT = fun k n => k.wrap n := Classical.choose_spec Xd
theorem ad2 : ∃ f : Int -> Int -> Bool, f = fun a b => a == b := ⟨_, rfl⟩
noncomputable def ieq : Int -> Int -> Bool := Classical.choose ad2
theorem PN : ieq = fun a b => a == b := Classical.choose_spec ad2
theorem ad3 : ∃ f : Int -> Int -> Bool, f = fun a b => a != b := ⟨_, rfl⟩
noncomputable def ine : Int -> Int -> Bool := Classical.choose ad3
theorem Yl : ine = fun a b => a != b := Classical.choose_spec ad3
theorem ad4 : ∃ f : Int -> Int -> Bool, f = fun a b => decide (a < b) := ⟨_, rfl⟩
noncomputable def ilt : Int -> Int -> Bool := Classical.choose ad4
theorem Ym : ilt = fun a b => decide (a < b) := Classical.choose_spec ad4
theorem ad5 : ∃ f : Int -> Int -> Bool, f = fun a b => decide (a <= b) := ⟨_, rfl⟩
noncomputable def ile : Int -> Int -> Bool := Classical.choose ad5
theorem Yn : ile = fun a b => decide (a <= b) := Classical.choose_spec ad5
theorem ad6 : ∃ f : Int -> Int -> Bool, f = fun a b => decide (a > b) := ⟨_, rfl⟩
noncomputable def igt : Int -> Int -> Bool := Classical.choose ad6
theorem Yo : igt = fun a b => decide (a > b) := Classical.choose_spec ad6
theorem ad7 : ∃ f : Int -> Int -> Bool, f = fun a b => decide (a ≥ b) := ⟨_, rfl⟩
noncomputable def ige : Int -> Int -> Bool := Classical.choose ad7
theorem Yp : ige = fun a b => decide (a ≥ b) := Classical.choose_spec ad7
theorem Xe : ∃ f : ByteArray -> Nat -> Int, f = fun s k => ((s[k]?.getD 0).toNat:Int) := ⟨_, rfl⟩
noncomputable def qH : ByteArray -> Nat -> Int := Classical.choose Xe
theorem Xf : qH = fun s k => ((s[k]?.getD 0).toNat:Int) := Classical.choose_spec Xe
theorem aap : ∃ f : Bool -> Bool -> Bool, f = fun a b => a == b := ⟨_, rfl⟩
noncomputable def jL : Bool -> Bool -> Bool := Classical.choose aap
theorem jU : jL = fun a b => a == b := Classical.choose_spec aap
theorem aaq : ∃ f : Int -> Int -> Int, f = fun x y => if y > x then y else x := ⟨_, rfl⟩
noncomputable def imax : Int -> Int -> Int := Classical.choose aaq
theorem aar : imax = fun x y => if y > x then y else x := Classical.choose_spec aaq
theorem aas : ∃ f : Int -> Int -> Int, f = fun x y => if y < x then y else x := ⟨_, rfl⟩
noncomputable def Ia : Int -> Int -> Int := Classical.choose aas
theorem aat : Ia = fun x y => if y < x then y else x := Classical.choose_spec aas
noncomputable def JJ (k : IntKind) : Int -> List AV -> Option Int
  | x, [] => some x
  | x, .int _ y :: r => JJ k (imax x y) r
  | _, _ => none
noncomputable def JK (k : IntKind) : Int -> List AV -> Option Int
  | x, [] => some x
  | x, .int _ y :: r => JK k (Ia x y) r
  | _, _ => none
def Kd.is : Kd -> AV -> Bool
  | .I k, .int k' _ => decide (k = k')
  | .B, .bool _ => true
  | _, _ => false
noncomputable def KQ : AV -> AV -> Bool
  | .int _ a, .int _ b => ieq a b
  | .bool a, .bool b => jL a b
  | _, _ => false
noncomputable def lY : List Kd -> List AV -> List AV -> Option Bool
  | [k], [x], [y] => cond (k.is x && k.is y) (some (KQ x y)) none
  | k :: ks, x :: xs, y :: ys => cond (k.is x && k.is y) ((lY ks xs ys).map fun r => KQ x y && r) none
  | _, _, _ => none
def isC : Operand -> Bool
  | .const _ => true
  | _ => false
noncomputable def Tt (T : Tab) (op : BinOp) (t : TypeId) (c:Bool) (x y : AV) (m : Mem) : R :=
  match x, y with
  | .int k a, .int k' b =>
    match op with
    | .shl => .val (0 <= b) (.int k (dL k a b)) m
    | .shr => .val (0 <= b) (.int k (bF k a b)) m
    | _ => if k = k' then
      match op with
      | .add => .val True (.int k (au k a b)) m
      | .sub => .val True (.int k (bQ k a b)) m
      | .mul => .val True (.int k (aI k a b)) m
      | .quo => .val (b ≠ 0) (.int k (gG k a b)) m
      | .rem => .val (b ≠ 0) (.int k (aB k a b)) m
      | .and => .val True (.int k (jK k a b)) m
      | .or => .val True (.int k (ior k a b)) m
      | .xor => .val True (.int k (apB k a b)) m
      | .eql => .val True (.bool (ieq a b)) m
      | .neq => .val True (.bool (ine a b)) m
      | .lss => .val True (.bool (ilt a b)) m
      | .leq => .val True (.bool (ile a b)) m
      | .gtr => .val True (.bool (igt a b)) m
      | .geq => .val True (.bool (ige a b)) m
      | _ => .no
      else .no
  | .bool a, .bool b => match T.plain t with
    | some [.B] => match op with
      | .eql => .val True (.bool (jL a b)) m
      | .neq => .val True (.bool (!(jL a b))) m
      | _ => .no
    | _ => .no
  | .agg a, .agg b => match T.plain t with
    | some (k1 :: k2 :: s) => match lY (k1 :: k2 :: s) a b, op with
      | some r, .eql => .val True (.bool r) m
      | some r, .neq => .val True (.bool (!r)) m
      | _, _ => .no
    | _ => .no
  | .nils, .nils => match T.ty t, op with
    | some ⟨.slice _, _, _, _⟩, .eql => .val True (.bool true) m
    | some ⟨.slice _, _, _, _⟩, .neq => .val True (.bool false) m
    | _, _ => .no
  | .sl (some z) _ _ _, .nils => match T.ty t, op with
    | some ⟨.slice _, _, _, _⟩, .eql => .val True (.bool z) m
    | some ⟨.slice _, _, _, _⟩, .neq => .val True (.bool (!z)) m
    | _, _ => .no
  | .rs (some z) _ _, .nils => match T.ty t, op with
    | some ⟨.slice _, _, _, _⟩, .eql => .val True (.bool z) m
    | some ⟨.slice _, _, _, _⟩, .neq => .val True (.bool (!z)) m
    | _, _ => .no
  | .ifc _ _, .nili => match T.ty t, op with
    | some ⟨.interface _, _, _, _⟩, .eql => .val True (.bool false) m
    | some ⟨.interface _, _, _, _⟩, .neq => .val True (.bool true) m
    | _, _ => .no
  | .nili, .nili => cond c (match T.ty t, op with
    | some ⟨.interface _, _, _, _⟩, .eql => .val True (.bool true) m
    | some ⟨.interface _, _, _, _⟩, .neq => .val True (.bool false) m
    | _, _ => .no) .no
  | _, _ => .no
noncomputable def vun (op : UnOp) (x : AV) (m : Mem) : R :=
  match op, x with
  | .neg, .int k n => .val True (.int k (bM k n)) m
  | .not, .bool b => .val True (.bool !b) m
  | .xor, .int k n => .val True (.int k (apC k n)) m
  | _, _ => .no
def aja (t:Bool) : AV -> AV -> AV
  | .bool a, .bool b => .bool (cond t a b)
  | .int k a, .int k' b => if k = k' then .int k (cond t a b) else cond t (.int k a) (.int k' b)
  | a, b => cond t a b
def mP (T : Tab) (t : TypeId) (x ix : AV) (m : Mem) : R :=
  match T.ty t, x, ix with
  | some ⟨.slice e, _, _, _⟩, .sl _ b n sz, .int _ z => match T.ty e with
    | some te => if Nat.beq sz te.size then .val (0 <= z /\ z < (n:Int)) (.ptr true b z.toNat 0) m else .no
    | none => .no
  | some ⟨.slice e, _, _, _⟩, .rs _ n cols, .int _ z => match T.ty e with
    | some te => if Nat.beq (jJ cols) te.size then .val (0 <= z /\ z < (n:Int)) (.rp (rowOf cols z.toNat) 0) m else .no
    | none => .no
  | some ⟨.array len e, _, _, _⟩, .ptr q b i j, .int _ z => match T.ty e with
    | some te => .val (0 <= z /\ z < (len:Int)) (.ptr q b i (j + z.toNat * te.size)) m
    | none => .no
  | some ⟨.array len e, _, _, _⟩, .rp cs j, .int _ z => match T.ty e with
    | some te => .val (0 <= z /\ z < (len:Int)) (.rp cs (j + z.toNat * te.size)) m
    | none => .no
  | _, _, _ => .no
def nT (st : VS) : List Operand -> List AV
  | [] => []
  | x :: xs => st.eval x :: nT st xs
def mQ (st : VS) : List (Nat × Operand) -> List (Nat × AV)
  | [] => []
  | (i, x) :: xs => (i, st.eval x) :: mQ st xs
def acC (size:Nat) (m : Mem) : AV -> Option (Nat × List CF)
  | .nils => some (0, [])
  | .sl _ b n s => match aS .gone m b with
    | .many _ _ _ cols => if Nat.beq s size && Nat.beq (jJ cols) size then some (n, cols) else none
    | _ => none
  | .rs _ n cols => match cols with
    | [] => some (n, [])
    | c :: cs => if Nat.beq (jJ (c :: cs)) size then some (n, c :: cs) else none
  | _ => none
def Tv (T : Tab) (t : TypeId) (x : AV) (m : Mem) : R :=
  match T.ty t, x with
  | some ⟨.slice _, _, _, _⟩, .sl _ _ n _ => .val True (.int .i64 (n:Int)) m
  | some ⟨.slice _, _, _, _⟩, .rs _ n _ => .val True (.int .i64 (n:Int)) m
  | some ⟨.slice _, _, _, _⟩, .nils => .val True (.int .i64 0) m
  | some ⟨.array n _, _, _, _⟩, _ => .val True (.int .i64 (n:Int)) m
  | _, _ => .no
def CF.drop (l:Nat) : CF -> CF
  | .I k f => .I k (fun i => f (l + i))
  | .B f => .B (fun i => f (l + i))
  | .S n c => .S (fun i => n (l + i)) (fun i => c (l + i))
def JL (l:Nat) : List CF -> List CF
  | [] => []
  | c :: cs => c.drop l :: JL l cs
def Ac (T : Tab) (t : TypeId) (x : AV) (lo hi : Option AV) (m : Mem) : R :=
  match T.ty t, x with
  | some ⟨.slice e, _, _, _⟩, .rs q n cols => match T.ty e with
    | some te => if Nat.beq (jJ cols) te.size then (match lo, hi with
      | some (.int _ l), none => .val (0 <= l /\ l <= (n:Int)) (.rs q (n - l.toNat) (JL l.toNat cols)) m
      | none, some (.int _ h) => .val (0 <= h /\ h <= (n:Int)) (.rs q h.toNat cols) m
      | some (.int _ l), some (.int _ h) => .val (0 <= l /\ l <= h /\ h <= (n:Int)) (.rs q (h.toNat - l.toNat) (JL l.toNat cols)) m
      | _, _ => .no) else .no
    | none => .no
  | _, _ => .no
noncomputable def vop (T : Tab) (o : Oper) (st : VS) (slot:Nat) : R :=
  match o.op with
  | .move x | .assign x => .val True (st.eval x) st.mem
  | .pick c a b => match st.eval c with
    | .bool t => .val True (aja t (st.eval a) (st.eval b)) st.mem
    | _ => .no
  | .alloc e => match T.ty e with
    | some te => .val True (.ptr false slot 0 0) (setAt st.mem slot (.one true e te.zv.cells))
    | none => .no
  | .box e x => match (st.eval x).cellsOf with
    | some vs => .val True (.ptr false slot 0 0) (setAt st.mem slot (.one true e vs))
    | none => .no
  | .build t ps => match T.ty t with
    | some ⟨.struct fs, _, _, .agg z⟩ => match places T fs.toList with
      | some pl => match JG (fun i => if Nat.blt i (jJ pl) then some (aS (0, 0) pl i) else none) z (mQ st ps.toList) with
        | some cs => .val True (.agg cs) st.mem
        | none => .no
      | none => .no
    | some ⟨.array _ e, _, _, .agg z⟩ => match T.ty e with
      | some te => match JG (fun i => some (i * te.size, te.size)) z (mQ st ps.toList) with
        | some cs => .val True (.agg cs) st.mem
        | none => .no
      | none => .no
    | _ => .no
  | .buildSlice t len ps => match T.ty t with
    | some ⟨.slice e, _, _, _⟩ => match T.ty e with
      | some te => if Nat.blt 0 te.size && Nat.blt (len * te.size) 1000000 then
          if Nat.beq len 0 then (match Fp te.zv.cells with
            | some (c :: cs) => if Nat.beq ps.size 0 then .val True (.sl (some false) slot 0 te.size) (setAt st.mem slot (.many true e 0 (c :: cs))) else .no
            | _ => .no) else
          match JG (fun i => some (i * te.size, te.size)) (Fq te.zv.cells len) (mQ st ps.toList) with
          | some cs => match Xc (chunks te.size len cs) with
            | some cols => .val True (.rs (some false) len cols) st.mem
            | none => .no
          | none => .no
        else .no
      | none => .no
    | _ => .no
  | .load t a => match T.ty t with
    | some ti => xX ti (st.eval a) st.mem
    | none => .no
  | .store t a x => match T.ty t with
    | some ti => qI ti (st.eval a) (st.eval x) st.mem
    | none => .no
  | .nilCheck x => match st.eval x with
    | .ptr q b i j => .val True (.ptr q b i j) st.mem
    | .rp cs j => .val True (.rp cs j) st.mem
    | .ifc t v => .val True (.ifc t v) st.mem
    | _ => .no
  | .binOp op t x y _ => Tt T op t (isC x || isC y) (st.eval x) (st.eval y) st.mem
  | .unOp op _ x => vun op (st.eval x) st.mem
  | .convert src dst x => match T.ty src, T.ty dst, st.eval x with
    | some _, some ⟨.int k, _, _, _⟩, .int _ n => .val True (.int k (aT k n)) st.mem
    | _, _, _ => .no
  | .makeInterface t x => match T.ty t, st.eval x with
    | some ⟨.interface _, _, _, _⟩, _ => .no
    | some _, v => .val True (.ifc t v) st.mem
    | none, _ => .no
  | .makeFunc (.func f) first cap => if Nat.beq first.size 0 then .val True (.fn f (nT st cap.toList)) st.mem else .no
  | .makeSlice t l c => match T.ty t, st.eval l, st.eval c with
    | some ⟨.slice e, _, _, _⟩, .int _ n, .int _ n' => match T.ty e with
      | some te => match Fp te.zv.cells with
        | some (c :: cs) => .val (0 <= n /\ n = n' /\ n <= 1000000 /\ te.bytes <= 1000000) (.sl (some false) slot n.toNat te.size) (setAt st.mem slot (.many true e n.toNat (c :: cs)))
        | _ => .no
      | none => .no
    | _, _, _ => .no
  | .slice t x lo hi none => Ac T t (st.eval x) (lo.map st.eval) (hi.map st.eval) st.mem
  | .fieldAddr s x f => match T.ty s, st.eval x with
    | some ⟨.struct fs, _, _, _⟩, .ptr q b i j => match fs[f]? with
      | some fd => match T.ty fd.type with
        | some tf => if Nat.blt 0 tf.size then .val True (.ptr q b i (j + fd.offset)) st.mem else .no
        | none => .no
      | none => .no
    | some ⟨.struct fs, _, _, _⟩, .rp cs j => match fs[f]? with
      | some fd => match T.ty fd.type with
        | some tf => if Nat.blt 0 tf.size then .val True (.rp cs (j + fd.offset)) st.mem else .no
        | none => .no
      | none => .no
    | _, _ => .no
  | .field s x f => match T.ty s, st.eval x with
    | some ⟨.struct fs, _, _, _⟩, .agg cs => match fs[f]? with
      | some fd => match T.ty fd.type with
        | some tf => match vO (lH tf.desc) tf.size fd.offset cs with
          | some v => .val True v st.mem
          | none => .no
        | none => .no
      | none => .no
    | _, _ => .no
  | .indexAddr t x ix => mP T t (st.eval x) (st.eval ix) st.mem
  | .index t x ix => match T.ty t, st.eval x, st.eval ix with
    | some ⟨.array len e, _, _, _⟩, .agg cs, .int _ z => match T.ty e with
      | some te => if lH te.desc then .no else .val (0 <= z /\ z < (len:Int) /\ z.toNat * te.size < jJ cs) (aS .dead cs (z.toNat * te.size)) st.mem
      | none => .no
    | some ⟨.string, _, _, _⟩, .raw (.string s), .int _ z => .val (0 <= z /\ z < ((s.size:Nat):Int)) (.int .u8 (qH s z.toNat)) st.mem
    | _, _, _ => .no
  | .extract x i => match st.eval x with
    | .tup vs => if Nat.blt i (jJ vs) then .val True (aS .dead vs i) st.mem else .no
    | _ => .no
  | .typeAssert x xt asserted ok => match T.ty asserted, st.eval x with
    | some ⟨.interface _, _, _, _⟩, _ => .no
    | some ti, .ifc t v => if Nat.beq t asserted then .val True (if ok then .tup [v, .bool true] else v) st.mem
        else if ok then .val True (.tup [ti.zv, .bool false]) st.mem else .no
    | some ti, .nili => if ok then .val True (.tup [ti.zv, .bool false]) st.mem else .no
    | _, _ => .no
  | .call c => match c.callee with
    | .builtin .len => match c.argTypes.toList, nT st c.args.toList with
      | [t], [x] => Tv T t x st.mem
      | _, _ => .no
    | .builtin .max => match nT st c.args.toList with
      | .int k x :: r => match JJ k x r with
        | some z => .val True (.int k z) st.mem
        | none => .no
      | _ => .no
    | .builtin .min => match nT st c.args.toList with
      | .int k x :: r => match JK k x r with
        | some z => .val True (.int k z) st.mem
        | none => .no
      | _ => .no
    | .builtin .append => .no
    | .builtin _ => .no
    | .value f => match st.eval f with
      | .fn g cap => .call g (nT st c.args.toList ++ cap)
      | _ => .no
    | .invoke r name => match st.eval r with
      | .ifc t v => match T.meth t name with
        | some f => .call f (v :: nT st c.args.toList)
        | none => .no
      | _ => .no
  | _ => .no
def Tz (q : Option Bool) (nx:Nat) : Option Bool :=
  match q with
  | none => none
  | some z => some (cond (Nat.beq nx 0) z false)
def jM (te : TI) (e : TypeId) (s x : AV) (m : Mem) (slot:Nat) : R :=
  match acC te.size m x with
  | none => .no
  | some (nx, gx) =>
    match s with
    | .nils => match gx with
      | [] => .no
      | c :: cs => .val (nx * te.bytes <= 1000000000000 /\ nx <= 1000000000000) (.sl (some (Nat.beq nx 0)) slot nx te.size) (setAt m slot (.many true e nx (c :: cs)))
    | .sl q b n sz => match aS .gone m b with
      | .many true ty _ cols => if Nat.beq sz te.size && (Nat.beq (jJ cols) te.size && (Nat.beq ty e && Nat.blt b slot)) then
          match (match gx with | [] => some cols | c :: cs => N7 n cols (c :: cs)) with
          | some cols' => .app ((n + nx) * te.bytes <= 1000000000000 /\ n + nx <= 1000000000000) (.sl (Tz q nx) b (n + nx) te.size)
              (setAt m b (.many true e (n + nx) cols')) b
          | none => .no
        else .no
      | _ => .no
    | _ => .no
def ad8 (pin:Nat) : AV -> Bool
  | .sl _ b _ _ => Nat.ble pin b
  | _ => true
noncomputable def gZ (T : Tab) (o : Oper) (st : VS) (slot:Nat) : R :=
  match o.op with
  | .call c => match c.callee with
    | .builtin .append => match T.ty (c.argTypes.getD 0 0), nT st c.args.toList with
      | some ⟨.slice e, _, _, _⟩, [s, x] => match T.ty e, c.argTypes.toList with
        | some te, [t1, t2] => if Nat.beq t1 t2 && (Nat.blt 0 te.size && ad8 st.pin s) then jM te e s x st.mem slot else .no
        | _, _ => .no
      | _, _ => .no
    | _ => vop T o st slot
  | _ => vop T o st slot
def allocs : Op -> Bool
  | .alloc _ | .box .. | .makeSlice .. => true
  | .buildSlice _ n _ => Nat.beq n 0
  | .call c => match c.callee with
    | .builtin .append => true
    | _ => false
  | _ => false
inductive RT where
  | leaf (v : AV)
  | cond (b:Bool) (t e : RT)
def RT.K : RT -> (AV -> Prop) -> Prop
  | .leaf v, k => k v
  | .cond b t e, k => _root_.cond b (t.K k) (e.K k)
def RT.val : RT -> AV
  | .leaf v => v
  | .cond b t e => _root_.cond b t.val e.val
inductive Spec where
  | none
  | pure (g : List AV -> Option (Prop × RT))
abbrev wK := FuncId -> Spec
noncomputable def ad9 (T : Tab) (Γ : wK) (o : Oper) (st : VS) (slot:Nat) (K : VS -> Prop) : Prop :=
  match gZ T o st slot with
  | .no => False
  | .val p v m => p /\ K (({ st with mem := m } : VS).put o.dst v)
  | .app p v m b => p /\ K (({ st with tmps := AV.kills b st.tmps, mem := tX b m } : VS).put o.dst v)
  | .call f args => match Γ f with
    | .none => False
    | .pure g => match g (AV.Hf st.mem args) with
      | some (p, r) => p /\ r.K (fun v => K (({ st with mem := oP (AV.slbs args) st.mem } : VS).put o.dst v))
      | .none => False
def JM (all : List Oper) (j:Nat) : Option Tmp :=
  match all with
  | [] => none
  | o :: r => match j with
    | 0 => o.dst
    | j + 1 => JM r j
def VS.JO (st : VS) (t : Tmp) (v : AV) : VS := { st with tmps := setAt st.tmps t v }
def KR (all : List Oper) (o : Oper) (st : VS) (yes no : VS -> Prop) : Prop :=
  match o.guard with
  | none => yes st
  | some (j, want) => match JM all j with
    | none => no st
    | some t => match aS .dead st.tmps t with
      | .bool b => cond b (cond want (yes (st.JO t (.bool true))) (no (st.JO t (.bool true)))) (cond want (no (st.JO t (.bool false))) (yes (st.JO t (.bool false))))
      | .tup [] => no st
      | _ => False
noncomputable def aea (T : Tab) (Γ : wK) (all : List Oper) : Nat -> List Oper -> VS -> (VS -> Prop) -> Prop
  | _, [], st, K => K st
  | slot, o :: rest, st, K =>
    KR all o st
      (fun st1 => ad9 T Γ o st1 slot (fun st2 => aea T Γ all (cond (allocs o.op) (slot + 1) slot) rest st2 K))
      (fun st1 => aea T Γ all (cond (allocs o.op) (slot + 1) slot) rest (st1.put o.dst (.tup [])) K)
def jV : List Oper -> Nat
  | [] => 0
  | o :: r => cond (allocs o.op) (jV r + 1) (jV r)
def extend (m : Mem) (n:Nat) : Mem :=
  match m with
  | [] => (List.replicate n AB.gone)
  | x :: xs => x :: extend xs n
noncomputable def UY (T : Tab) (Γ : wK) (ops : List Oper) (st : VS) (K : VS -> Prop) : Prop :=
  aea T Γ ops (jJ st.mem) ops { st with mem := extend st.mem (jV ops) } K
inductive iG where
  | quiet
  | load (b i j n:Nat)
  | alloc (b:Nat)
  | store (b i j n:Nat)
  | loadM (b:Nat)
  | storeM (b:Nat)
  | app (b s:Nat)
  | bar
def KT {α : Type} : List α -> Bool
  | [] => true
  | _ => false
def vF (slot:Nat) : List AV -> iG
  | [.nils, x] => cond (KT x.slb) (.alloc slot) .bar
  | [.sl _ b _ _, x] => cond (KT x.slb) (.app b slot) .bar
  | _ => .bar
def dw (T : Tab) (o : Oper) (st : VS) (slot:Nat) : iG :=
  match o.op with
  | .alloc _ | .box .. | .makeSlice .. => .alloc slot
  | .buildSlice _ n _ => cond (Nat.beq n 0) (.alloc slot) .quiet
  | .load t a => match T.ty t, st.eval a with
    | some ti, .ptr false b i j => .load b i j (if Nat.beq ti.size 0 then 1 else ti.size)
    | some _, .ptr true b _ _ => .loadM b
    | some _, .rp _ _ => .quiet
    | _, _ => .bar
  | .store t a _ => match T.ty t, st.eval a with
    | some ti, .ptr false b i j => .store b i j ti.size
    | some _, .ptr true b _ _ => .storeM b
    | _, _ => .bar
  | .call c => match c.callee with
    | .builtin .append => vF slot (nT st c.args.toList)
    | _ => .quiet
  | _ => .quiet
def Fe (n:Nat) : List Nat -> Bool
  | [] => false
  | x :: xs => Nat.beq n x || Fe n xs
def xZ (b i j n b' i' j' n':Nat) : Bool := !(Nat.beq b b') || (Nat.beq i i' && (Nat.ble (j + n) j' || Nat.ble (j' + n') j))
def indep : iG -> iG -> Bool
  | .quiet, _ => true
  | _, .quiet => true
  | .load .., .load .. => true
  | .load b _ _ _, .alloc s => !(Nat.beq b s)
  | .alloc s, .load b _ _ _ => !(Nat.beq b s)
  | .alloc s, .alloc s' => !(Nat.beq s s')
  | .alloc s, .store b _ _ _ => !(Nat.beq b s)
  | .store b _ _ _, .alloc s => !(Nat.beq b s)
  | .load b i j n, .store b' i' j' n' => xZ b i j n b' i' j' n'
  | .store b i j n, .load b' i' j' n' => xZ b i j n b' i' j' n'
  | .store b i j n, .store b' i' j' n' => xZ b i j n b' i' j' n'
  | .loadM _, .load .. => true
  | .load .., .loadM _ => true
  | .loadM _, .loadM _ => true
  | .loadM b, .alloc s => !(Nat.beq b s)
  | .alloc s, .loadM b => !(Nat.beq b s)
  | .loadM b, .store b' _ _ _ => !(Nat.beq b b')
  | .store b' _ _ _, .loadM b => !(Nat.beq b b')
  | .loadM b, .storeM b' => !(Nat.beq b b')
  | .storeM b', .loadM b => !(Nat.beq b b')
  | .storeM b, .alloc s => !(Nat.beq b s)
  | .alloc s, .storeM b => !(Nat.beq b s)
  | .storeM b, .load b' _ _ _ => !(Nat.beq b b')
  | .load b' _ _ _, .storeM b => !(Nat.beq b b')
  | .storeM b, .store b' _ _ _ => !(Nat.beq b b')
  | .store b' _ _ _, .storeM b => !(Nat.beq b b')
  | .storeM b, .storeM b' => !(Nat.beq b b')
  | .app b s, .load b' _ _ _ => !(Nat.beq b b') && !(Nat.beq s b')
  | .load b' _ _ _, .app b s => !(Nat.beq b b') && !(Nat.beq s b')
  | .app b s, .store b' _ _ _ => !(Nat.beq b b') && !(Nat.beq s b')
  | .store b' _ _ _, .app b s => !(Nat.beq b b') && !(Nat.beq s b')
  | .app b s, .loadM b' => !(Nat.beq b b') && !(Nat.beq s b')
  | .loadM b', .app b s => !(Nat.beq b b') && !(Nat.beq s b')
  | .app b s, .storeM b' => !(Nat.beq b b') && !(Nat.beq s b')
  | .storeM b', .app b s => !(Nat.beq b b') && !(Nat.beq s b')
  | .app b s, .alloc b' => !(Nat.beq b b') && !(Nat.beq s b')
  | .alloc b', .app b s => !(Nat.beq b b') && !(Nat.beq s b')
  | .app b s, .app b' s' => (!(Nat.beq b b') && !(Nat.beq s b')) && (!(Nat.beq b s') && !(Nat.beq s s'))
  | .bar, _ => false
  | _, .bar => false
def BQ : List Bool -> List Bool -> List Bool
  | [], ys => ys
  | xs, [] => xs
  | x :: xs, y :: ys => (x || y) :: BQ xs ys
def Gw : Nat -> List Bool
  | 0 => [true]
  | n + 1 => false :: Gw n
def nZ (seen : List (List Bool)) : List Edge -> List Bool
  | [] => []
  | e :: es => if Region.binds .any e then BQ (Gw e.on) (BQ (aS [] seen e.on) (nZ seen es)) else nZ seen es
def rQ : List Oper -> List (List Bool) -> List (List Bool)
  | [], seen => seen
  | o :: r, seen => rQ r (seen ++ [nZ seen o.after.toList])
def looks (all : List Oper) (o : Oper) : List Tmp :=
  (o.op.operands.toList.filterMap fun | .tmp t => some t | _ => none) ++
  (match o.guard with
   | some (g, _) => (match JM all g with | some t => [t] | none => [])
   | none => [])
def yc (all : List Oper) (x y : Oper) : Bool :=
  (match x.dst with
   | some d => !(Fe d (looks all y)) && (match y.dst with | some e => !(Nat.beq d e) | none => true)
   | none => true) &&
  (match y.dst with
   | some d => !(Fe d (looks all x))
   | none => true)
def KU (all : List Oper) (i:Nat) (o : Oper) (mi : iG) : List Oper -> List (List Bool) -> List iG -> Bool
  | [], _, _ => true
  | o' :: os, w :: ws, m :: ms => (aS false w i || (yc all o o' && indep mi m)) && KU all i o mi os ws ms
  | _, _, _ => false
def Gx (all : List Oper) : Nat -> List Oper -> List (List Bool) -> List iG -> Bool
  | _, [], _, _ => true
  | i, o :: os, _ :: ws, m :: ms => KU all i o m os ws ms && Gx all (i + 1) os ws ms
  | _, _, _, _ => false
def backs : Nat -> List Oper -> Bool
  | _, [] => true
  | i, o :: os => o.after.toList.all (fun e => !(Region.binds .any e) || Nat.blt e.on i) && backs (i + 1) os
def aeb (ops : List Oper) (tr : List iG) : Bool := backs 0 ops && Gx ops 0 ops (rQ ops []) tr
noncomputable def JQ (T : Tab) (o : Oper) (st : VS) (slot:Nat) : R :=
  match gZ T o st slot with
  | .app p v m b => match v with
    | .sl q _ n s => .val p (.sl q slot n s) (setAt (setAt m b .gone) slot (aS .gone m b))
    | _ => .no
  | r => r
noncomputable def aec (T : Tab) (Γ : wK) (o : Oper) (st : VS) (slot:Nat) (K : VS -> Prop) : Prop :=
  match JQ T o st slot with
  | .no => False
  | .val p v m => p /\ K (({ st with mem := m } : VS).put o.dst v)
  | .app .. => False
  | .call f args => match Γ f with
    | .none => False
    | .pure g => cond (KT (AV.slbs args)) (match g (AV.Hf [] args) with
      | some (p, r) => p /\ r.K (fun v => K (st.put o.dst v))
      | .none => False) False
noncomputable def Ua (T : Tab) (Γ : wK) (all : List Oper) : Nat -> List Oper -> VS -> List iG -> (VS -> List iG -> Prop) -> Prop
  | _, [], st, tr, K => K st tr
  | slot, o :: rest, st, tr, K =>
    KR all o st
      (fun st1 => aec T Γ o st1 slot (fun st2 => Ua T Γ all (cond (allocs o.op) (slot + 1) slot) rest st2 (tr ++ [dw T o st1 slot]) K))
      (fun st1 => Ua T Γ all (cond (allocs o.op) (slot + 1) slot) rest (st1.put o.dst (.tup [])) (tr ++ [.quiet]) K)
mutual
def AV.mv (s b:Nat) : AV -> AV
  | .ptr e b' i j => cond (Nat.beq b' s) (.ptr e b i j) (cond (Nat.beq b' b) .dead (.ptr e b' i j))
  | .sl q b' n z => cond (Nat.beq b' s) (.sl q b n z) (cond (Nat.beq b' b) .dead (.sl q b' n z))
  | .agg cs => .agg (AV.mvs s b cs)
  | .tup cs => .tup (AV.mvs s b cs)
  | .ifc t v => .ifc t (v.mv s b)
  | .fn f cap => .fn f (AV.mvs s b cap)
  | .dead => .dead
  | .int k n => .int k n
  | .bool b => .bool b
  | .nilp => .nilp
  | .nils => .nils
  | .nili => .nili
  | .raw v => .raw v
  | .rs q n c => .rs q n c
  | .rp cs j => .rp cs j
def AV.mvs (s b:Nat) : List AV -> List AV
  | [] => []
  | a :: as => a.mv s b :: AV.mvs s b as
end
def AB.mv (s b:Nat) : AB -> AB
  | .gone => .gone
  | .one o t cs => .one o t (AV.mvs s b cs)
  | .many o t n c => .many o t n c
def mvM (s b:Nat) : Mem -> Mem
  | [] => []
  | x :: xs => x.mv s b :: mvM s b xs
def VS.mv (st : VS) (s b:Nat) : VS := { st with tmps := AV.mvs s b st.tmps, mem := mvM s b (setAt (setAt st.mem b (aS .gone st.mem s)) s .gone) }
def Hq : List iG -> VS -> VS
  | [], st => st
  | .app b s :: tr, st => Hq tr (cond (Nat.blt b s && Nat.ble st.pin b) (st.mv s b) st)
  | _ :: tr, st => Hq tr st
mutual
def AV.thaw (bs : List Nat) (m : Mem) : AV -> AV
  | .sl q b n s => cond (Fe b bs) (match aS .gone m b with
    | .many _ _ _ c => .rs q n c
    | _ => .sl q b n s) (.sl q b n s)
  | .agg cs => .agg (AV.EX bs m cs)
  | .tup cs => .tup (AV.EX bs m cs)
  | .ifc t v => .ifc t (v.thaw bs m)
  | .fn f cap => .fn f (AV.EX bs m cap)
  | .ptr e b i j => cond e (.ptr e b i j) (cond (Nat.beq i 0 && Fe b bs) (match aS .gone m b with
    | .one _ _ cs => .rp (AV.JF cs) j
    | _ => .ptr e b i j) (.ptr e b i j))
  | .dead => .dead
  | .int k n => .int k n
  | .bool b => .bool b
  | .nilp => .nilp
  | .nils => .nils
  | .nili => .nili
  | .raw v => .raw v
  | .rs q n c => .rs q n c
  | .rp cs j => .rp cs j
def AV.EX (bs : List Nat) (m : Mem) : List AV -> List AV
  | [] => []
  | a :: as => a.thaw bs m :: AV.EX bs m as
end
def AB.thaw (bs : List Nat) (m : Mem) : AB -> AB
  | .gone => .gone
  | .one o t cs => .one o t (AV.EX bs m cs)
  | .many o t n c => .many o t n c
def N8 (bs : List Nat) (m : Mem) : Mem -> Mem
  | [] => []
  | x :: xs => x.thaw bs m :: N8 bs m xs
def VS.freeze (st : VS) (bs : List Nat) : VS :=
  match bs with
  | [] => st
  | _ => { st with tmps := AV.EX bs st.mem st.tmps, mem := N8 bs st.mem (oP bs st.mem) }
def aau (st : VS) (t : Tmp) : List Oper -> List Nat
  | [] => []
  | o :: r => (match o.op with
    | .move x => match o.dst with
      | some d => cond (Nat.beq d t) (st.eval x).slb []
      | none => []
    | _ => []) ++ aau st t r
def aed (st : VS) (all : List Oper) : List Operand -> List Nat
  | [] => []
  | .tmp t :: r => (aS .dead st.tmps t).slb ++ (aau st t all ++ aed st all r)
  | _ :: r => aed st all r
def UZ (st : VS) (all : List Oper) : List Oper -> List Nat
  | [] => []
  | o :: r => (match o.op with
    | .call c => match c.callee with
      | .builtin _ => []
      | _ => aed st all c.args.toList
    | _ => []) ++ UZ st all r
noncomputable def aee (T : Tab) (Γ : wK) (ops : List Oper) (st0 : VS) (K : VS -> Prop) : Prop :=
  (fun st => Ua T Γ ops (jJ st.mem) ops { st with mem := extend st.mem (jV ops) } [] (fun st2 tr => aeb ops tr = true /\ K (Hq tr st2))) (st0.freeze (UZ st0 ops ops))
end Go.Ag
