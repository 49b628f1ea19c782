/- Part 3 of the proof that TopRows returns true for every input of its row (no condition beyond the row). -/
import Derived.Test.YthoapgncpjhloaaGreatDoorJ2
import Derived.Lib.Bytealg
import Derived.Laws.Externs
import Derived.Laws.Cover1
import Derived.WalkSpells
import Derived.LaidEqlPtr
set_option linter.unusedVariables false
set_option linter.unusedSimpArgs false
set_option linter.unusedSectionVars false
set_option linter.all false
section
namespace Go.Abs

inductive Rs (α : Type) where
  | ok (a : α)
  | er (msg : String) (xs : List AV)
instance {α : Type} : Inhabited (Rs α) := ⟨.er "" []⟩
def Rs.bind {α β : Type} (x : Rs α) (f : α → Rs β) : Rs β := match x with
  | .ok a => f a
  | .er m xs => .er m xs
def Rs.of {α : Type} (m : String) (xs : List AV) : Option α → Rs α
  | some a => .ok a
  | none => .er m xs
/-- what an operation comes to: its value, the blocks that change, how many names are new -/
structure Out where
  res : Option AV
  U : List (Nat × Option Blk) := []
  m : Nat := 0
abbrev EL := List (Nat × AV)
abbrev HL := List (Nat × Option Blk)

/-! ### numbers, flags, strings -/
def inR (cfg : Cfg) (k : IntKind) (x : Lin) : Bool := match x with
  | ([], c) => !isNg (c - k.min) && !isNg (k.max - c)
  | x => nng cfg (Lin.sub x (Lin.k k.min)) && nng cfg (Lin.sub (Lin.k k.max) x)
/-- a sum within a kind's range, or a number that is wrapped -/
def fitI (cfg : Cfg) (k : IntKind) (x : Lin) : Option AV := match inR cfg k x with
  | true => some (mkI k x)
  | false => match x with
    | ([], c) => some (.lit (.int k (k.wrap c)))
    | _ => none
def linC : Lin → Option Int
  | ([], c) => some c
  | _ => none
def lkNl : List (BinOp × IntKind × Lin × Lin × Lin) → BinOp → IntKind → Lin → Lin → Option Lin
  | [], _, _, _, _ => none
  | (o, k, x, y, z) :: r, o', k', x', y' => match decide (o = o') && decide (k = k') && Lin.beq x x' && Lin.beq y y' with
    | true => some z
    | false => lkNl r o' k' x' y'
def ltB (cfg : Cfg) (n : Bool) (x : Lin) : AV := mkB cfg n (.lt x) (ltz cfg x)
def eqB (cfg : Cfg) (n : Bool) (x : Lin) : AV := mkB cfg n (.eq x) (eqz cfg x)
/-- numbers that are known -/
def constI (op : BinOp) (k : IntKind) (p : Int) (q : Int) : Option AV := match op with
  | .quo => if isZ q then none else some (.lit (.int k (k.wrap (p.tdiv q))))
  | .rem => if isZ q then none else some (.lit (.int k (p.tmod q)))
  | .and => some (.lit (.int k (k.wrap ((BitVec.ofInt k.bits p &&& BitVec.ofInt k.bits q).toNat))))
  | .or => some (.lit (.int k (k.wrap ((BitVec.ofInt k.bits p ||| BitVec.ofInt k.bits q).toNat))))
  | .xor => some (.lit (.int k (k.wrap ((BitVec.ofInt k.bits p ^^^ BitVec.ofInt k.bits q).toNat))))
  | .andNot => some (.lit (.int k (k.wrap ((BitVec.ofInt k.bits p &&& ~~~BitVec.ofInt k.bits q).toNat))))
  | .shl => if isNg q then none else some (.lit (.int k (k.wrap (p * 2 ^ (min q.toNat k.bits)))))
  | .shr => if isNg q then none else some (.lit (.int k (p.fdiv (2 ^ (min q.toNat k.bits)))))
  | _ => none
def binI (cfg : Cfg) (op : BinOp) (k : IntKind) (x y : Lin) (k' : IntKind) : Option AV := match op with
  | .shl => match linC x, linC y with
    | some p, some q => constI .shl k p q
    | _, _ => none
  | .shr => match linC x, linC y with
    | some p, some q => constI .shr k p q
    | _, _ => none
  | op => match decide (k = k') with
    | false => none
    | true => match op with
      | .add => fitI cfg k (Lin.add x y)
      | .sub => fitI cfg k (Lin.sub x y)
      | .mul => match linC x, linC y with
        | some p, _ => fitI cfg k (Lin.mul p y)
        | _, some q => fitI cfg k (Lin.mul q x)
        | _, _ => (lkNl cfg.nl .mul k x y).map (mkI k)
      | .lss => some (ltB cfg false (Lin.sub x y))
      | .gtr => some (ltB cfg false (Lin.sub y x))
      | .leq => some (ltB cfg true (Lin.sub y x))
      | .geq => some (ltB cfg true (Lin.sub x y))
      | .eql => some (eqB cfg false (Lin.sub x y))
      | .neq => some (eqB cfg true (Lin.sub x y))
      | op => match linC x, linC y with
        | some p, some q => constI op k p q
        | _, _ => (lkNl cfg.nl op k x y).map (mkI k)
def lessL : List Nat → List Nat → Bool
  | [], [] => false
  | [], _ :: _ => true
  | _ :: _, [] => false
  | x :: r, y :: q => match Nat.beq x y with
    | true => lessL r q
    | false => Nat.blt x y
def allB8 (ps : List SP) : Option (List Nat) := match allB ps with
  | some l => match l.all (fun n => Nat.blt n 256) with
    | true => some l
    | false => none
  | none => none
def binS (cfg : Cfg) (op : BinOp) (x y : List SP) : Option AV := match op with
  | .add => match slen cfg x, slen cfg y with
    | some l, some m => match nng cfg (Lin.sub (Lin.k 4611686018427387904) (Lin.add l m)) with
      | true => some (mkS (x ++ y))
      | false => none
    | _, _ => none
  | .eql => some (mkB cfg false (.seq x y) (seqD cfg x y))
  | .neq => some (mkB cfg true (.seq x y) (seqD cfg x y))
  | .lss => match allB8 x, allB8 y with
    | some l, some m => some (.lit (.bool (lessL l m)))
    | _, _ => none
  | .geq => match allB8 x, allB8 y with
    | some l, some m => some (.lit (.bool (!lessL l m)))
    | _, _ => none
  | _ => none
def boolOf : AV → Option Unit
  | .lit (.bool _) => some ()
  | .sym (.bool _ _) => some ()
  | _ => none
/-- one field of a struct held against another: do they belong together, are they one? -/
def eqF (cfg : Cfg) (k : SK) (x y : AV) : Option (Option Bool) := match k with
  | .i => match iOf x, iOf y with
    | some (k, l), some (k', m) => match decide (k = k') with
      | true => some (eqz cfg (Lin.sub l m))
      | false => none
    | _, _ => none
  | .s => match sOf x, sOf y with
    | some l, some m => some (seqD cfg l m)
    | _, _ => none
  | .b => match bv cfg x, bv cfg y with
    | some a, some b => some (some (a == b))
    | _, _ => none
def andO : Option Bool → Option Bool → Option Bool
  | some false, _ => some false
  | _, some false => some false
  | some true, some true => some true
  | _, _ => none
/-- struct against struct -/
def eqFs (cfg : Cfg) : List SK → List AV → List AV → Option (Option Bool)
  | [], [], [] => some (some true)
  | k :: ks, x :: r, y :: q => match eqF cfg k x y, eqFs cfg ks r q with
    | some a, some b => some (andO a b)
    | _, _ => none
  | _, _, _ => none
def someB (n b : Bool) : List AV := [.lit (.bool (Bool.xor n b))]
def ptrT (P : Program) (t : TypeId) : Bool := match P.underlying t with
  | some (.pointer e) => (P.info? e).isSome
  | _ => false
def slT (P : Program) (t : TypeId) : Bool := match P.underlying t with
  | some (.slice _) => true
  | _ => false
def mpT (P : Program) (t : TypeId) : Bool := match P.underlying t with
  | some (.map _ _) => true
  | _ => false
/-- == ('n': !=) of what is no number, flag or string; a list that may be empty is nil or not -/
def eqV (cfg : Cfg) (P : Program) (H : HL) (n : Bool) (t : TypeId) (x y : AV) : Option (List AV) := match x, y with
  | .agg xs, .agg ys => match lk2 cfg.ft t with
    | some ks => match eqFs cfg ks xs ys with
      | some (some b) => some (someB n b)
      | _ => none
    | none => none
  | .lit (.pointer none), .lit (.pointer none) => match ptrT P t with
    | true => some (someB n true)
    | false => none
  | .mp _, .lit (.map none) => match mpT P t with
    | true => some (someB n false)
    | false => none
  | .lit (.map none), .lit (.map none) => match mpT P t with
    | true => some (someB n true)
    | false => none
  | .ptr k e i o, .ptr k' e' i' o' => match Nat.beq k k' && Nat.beq e e' && Nat.beq i i' && Nat.beq o o' && ptrT P t with
    | true => some (someB n true)
    | false => none
  | x, .lit (.pointer none) => match x.there && ptrT P t with
    | true => some (someB n false)
    | false => none
  | x, .lit (.slice none 0 0) => match slT P t with
    | true => match x with
      | .lit (.slice none 0 0) => some (someB n true)
      | .ro _ (_ :: _) => some (someB n false)
      | .ro _ [] => some [.lit (.bool true), .lit (.bool false)]
      | .sl k _ _ (_ + 1) => match (lkR H k).isSome with
        | true => some (someB n false)
        | false => none
      | .sl _ _ _ 0 => some [.lit (.bool true), .lit (.bool false)]
      | _ => none
    | false => none
  | _, _ => none
def binV (cfg : Cfg) (P : Program) (H : HL) (op : BinOp) (t : TypeId) (x y : AV) : Option (List AV) := match iOf x, iOf y with
  | some (k, l), some (k', m) => (binI cfg op k l m k').map ([·])
  | _, _ => match sOf x, sOf y with
    | some l, some m => (binS cfg op l m).map ([·])
    | _, _ => match boolOf x, boolOf y with
      | some _, some _ => match bv cfg x, bv cfg y with
        | some a, some b => match P.underlying t with
          | some .bool => match op with
            | .eql => some [.lit (.bool (a == b))]
            | .neq => some [.lit (.bool (!(a == b)))]
            | _ => none
          | _ => none
        | _, _ => none
      | _, _ => match op with
        | .eql => eqV cfg P H false t x y
        | .neq => eqV cfg P H true t x y
        | _ => none
def unV (cfg : Cfg) (op : UnOp) (x : AV) : Option AV := match op with
  | .not => match x with
    | .lit (.bool b) => some (.lit (.bool (!b)))
    | .sym (.bool n a) => match bv cfg x with
      | some b => some (.lit (.bool (!b)))
      | none => some (.sym (.bool (!n) a))
    | _ => none
  | .neg => match iOf x with
    | some (k, l) => fitI cfg k (Lin.neg l)
    | none => none
  | _ => none
def ikOf (P : Program) (t : TypeId) : Option IntKind := match P.underlying t with
  | some (.int k) => some k
  | _ => none
def isStr (P : Program) (t : TypeId) : Bool := match P.underlying t with
  | some .string => true
  | _ => false
def elOf (P : Program) (t : TypeId) : Option TypeId := match P.underlying t with
  | some (.slice e) => some e
  | _ => none
def arrOf (P : Program) (t : TypeId) : Option (Nat × TypeId) := match P.underlying t with
  | some (.array n e) => some (n, e)
  | _ => none
def szOf (P : Program) (t : TypeId) : Option Nat := (P.info? t).map (·.size)
def zOf (P : Program) (t : TypeId) : Option Value := match (P.info? t).bind (·.zero) with
  | some z => match z.cells.toList.all (·.oneCell') with
    | true => some z
    | false => none
  | none => none

/-! ### memory -/
/-- the blocks that an operation looks at are those of 'H' -/
def loadV (P : Program) (H : HL) (t : TypeId) (x : AV) : Option AV := match isAggT P t, x with
  | some false, .ptr k esz e j => match lkR H k with
    | some (.box cells) => match Nat.beq esz 0 && Nat.beq e 0 with
      | true => cells[j]?
      | false => none
    | some (.arr false esz' els) => match Nat.beq esz esz', els[e]? with
      | true, some row => row[j]?
      | _, _ => none
    | _ => none
  | some false, .rp xs j => xs[j]?
  | some true, .ptr k esz e j => match szOf P t, lkR H k with
    | some size, some (.box cells) => match Nat.beq esz 0 && Nat.beq e 0 && Nat.ble (j + size) cells.length with
      | true => some (.agg ((cells.drop j).take size))
      | false => none
    | some size, some (.arr false esz' els) => match Nat.beq esz esz', els[e]? with
      | true, some row => match Nat.ble (j + size) row.length with
        | true => some (.agg ((row.drop j).take size))
        | false => none
      | _, _ => none
    | _, _ => none
  | some true, .rp xs j => match szOf P t with
    | some size => match Nat.ble (j + size) xs.length with
      | true => some (.agg ((xs.drop j).take size))
      | false => none
    | none => none
  | _, _ => none
def isTup : AV → Bool
  | .tup _ => true
  | _ => false
def storeV (P : Program) (H : HL) (t : TypeId) (x v : AV) : Option HL := match szOf P t, x with
  | some size, .ptr k esz e j => match !isTup v && Nat.beq v.cells.length size && v.cells.all (·.one) with
    | true => match lkR H k with
      | some (.box cells) => match Nat.beq esz 0 && Nat.beq e 0 && Nat.ble (j + size) cells.length with
        | true => some [(k, some (.box (splice cells j v.cells)))]
        | false => none
      | some (.arr false esz' els) => match Nat.beq esz esz', els[e]?, bareAll false v.cells with
        | true, some row, some ys => match Nat.ble (j + size) row.length with
          | true => some [(k, some (.arr false esz' (els.set e (splice row j ys))))]
          | false => none
        | _, _, _ => none
      | _ => none
    | false => none
  | _, _ => none
def faddrV (P : Program) (t : TypeId) (i : Nat) (x : AV) : Option AV := match fieldOff P t i, x with
  | some off, .ptr k esz e j => some (.ptr k esz e (j + off))
  | some off, .rp xs j => some (.rp xs (j + off))
  | _, _ => none
def iaddrV (P : Program) (H : HL) (t : TypeId) (x i : AV) : Option AV := match nOf i with
  | some j => match x with
    | .sl k esz off n => match elOf P t with
      | some el => match szOf P el with
        | some s => match Nat.beq s esz && Nat.blt j n && (lkR H k).isSome with
          | true => some (.ptr k esz (off + j) 0)
          | false => none
        | none => none
      | none => none
    | .ro esz xs => match elOf P t with
      | some el => match szOf P el, xs[j]? with
        | some s, some row => match Nat.beq s esz with
          | true => some (.rp row 0)
          | false => none
        | _, _ => none
      | none => none
    | .ptr k 0 0 off => match arrOf P t with
      | some (len, el) => match szOf P el with
        | some s => match Nat.blt j len with
          | true => some (.ptr k 0 0 (off + j * s))
          | false => none
        | none => none
      | none => none
    | _ => none
  | none => none
def lenV (cfg : Cfg) (P : Program) (H : HL) (t : TypeId) (x : AV) : Option AV := match isStr P t with
  | true => match sOf x with
    | some l => (slen cfg l).map (mkI .i64)
    | none => none
  | false => match elOf P t with
    | some _ => match x with
      | .sl k _ _ n => match (lkR H k).isSome with
        | true => some (.lit (.int .i64 n))
        | false => none
      | .ro _ xs => some (.lit (.int .i64 xs.length))
      | .lit (.slice _ n _) => some (.lit (.int .i64 n))
      | .emp => some (.lit (.int .i64 0))
      | _ => none
    | none => match mpT P t with
      | true => match x with
        | .mp k => match lkR H k with
          | some (.map es) => some (.lit (.int .i64 es.length))
          | _ => none
        | .lit (.map none) => some (.lit (.int .i64 0))
        | _ => none
      | false => none
def chunks (esz : Nat) : Nat → List AV → List (List AV)
  | 0, _ => []
  | n + 1, l => l.take esz :: chunks esz n (l.drop esz)
def buildV (P : Program) (E : EL) (t : TypeId) (parts : Array (Nat × Operand)) : Option AV := match zOf P t, evParts (envOf E) parts.toList with
  | some z, some ps => match arrOf P t with
    | some (_, el) => match szOf P el with
      | some esz => (lay (fun i => some (i * esz, esz)) (zeros z) ps).map .agg
      | none => none
    | none => match placesOf P t with
      | some pl => (lay (pl.toArray[·]?) (zeros z) ps).map .agg
      | none => none
  | _, _ => none
/-- size and bytes of an element -/
def elT (P : Program) (t : TypeId) : Option (TypeId × Nat × Nat × Value) := match elOf P t with
  | some el => match P.info? el, zOf P el with
    | some i, some z => match Nat.beq z.cells.size i.size && Nat.blt 0 i.size with
      | true => some (el, i.size, i.bytes, z)
      | false => none
    | _, _ => none
  | none => none
def buildSliceV (P : Program) (E : EL) (nx : Nat) (t : TypeId) (len : Nat) (parts : Array (Nat × Operand)) : Option Out := match elT P t with
  | some (_, esz, _, z) => match len with
    | 0 => match parts.toList with
      | [] => some { res := some (.sl nx esz 0 0), U := [(nx, some (.arr false esz []))], m := 1 }
      | _ => none
    | len' + 1 => match evParts (envOf E) parts.toList with
      | some ps => match lay (fun i => some (i * esz, esz)) (zerosN z ((len' + 1) * esz)) ps with
        | some cells => match bareAll false cells, Nat.ble ((len' + 1) * esz) 16777216 with
          | some flat, true => match Nat.beq flat.length ((len' + 1) * esz) with
            | true => some { res := some (.sl nx esz 0 (len' + 1)), U := [(nx, some (.arr false esz (chunks esz (len' + 1) flat)))], m := 1 }
            | false => none
          | _, _ => none
        | none => none
      | none => none
  | none => none
def makeSliceV (P : Program) (nx : Nat) (t : TypeId) (x y : AV) : Option Out := match elT P t, x, y with
  | some (_, esz, bytes, z), .lit (.int .i64 (.ofNat n)), .lit (.int .i64 (.ofNat m)) => match Nat.beq n m && Nat.ble (bytes * n) 281474976710656 && Nat.ble n 281474976710656 with
    | true => some { res := some (.sl nx esz 0 n), U := [(nx, some (.arr false esz (List.replicate n (zeros z))))], m := 1 }
    | false => none
  | _, _, _ => none
/-- what is appended -/
def srcV (H : HL) (esz : Nat) (y : AV) : Option (List (List AV)) := match y with
  | .sl k e off m => match lkR H k with
    | some (.arr false e' els) => match Nat.beq e esz && Nat.beq e' esz && Nat.ble (off + m) els.length with
      | true => some ((els.drop off).take m)
      | false => none
    | _ => none
  | .ro e rows => match Nat.beq e esz with
    | true => some rows
    | false => none
  | .lit (.slice _ 0 _) => some []
  | _ => none
def appendV (P : Program) (H : HL) (nx : Nat) (t : TypeId) (x y : AV) : Option Out := match elT P t with
  | some (_, esz, bytes, _) => match srcV H esz y with
    | some rows => match x with
      | .sl k e 0 n => match lkR H k with
        | some (.arr false e' els) => match Nat.beq e esz && Nat.beq e' esz && Nat.beq els.length n && Nat.ble ((els.length + rows.length) * bytes) 140737488355328 && Nat.ble (els.length + rows.length) 140737488355328 with
          | true => some { res := some (.sl nx esz 0 (n + rows.length)), U := [(k, none), (nx, some (.arr false esz (els ++ rows)))], m := 1 }
          | false => none
        | _ => none
      | .emp => match Nat.ble (rows.length * bytes) 140737488355328 && Nat.ble rows.length 140737488355328 with
        | true => some { res := some (.sl nx esz 0 rows.length), U := [(nx, some (.arr false esz rows))], m := 2 }
        | false => none
      | .lit (.slice _ 0 0) => match Nat.ble (rows.length * bytes) 140737488355328 && Nat.ble rows.length 140737488355328 with
        | true => some { res := some (.sl nx esz 0 rows.length), U := [(nx, some (.arr false esz rows))], m := 2 }
        | false => none
      | _ => none
    | none => none
  | none => none
/-- a bound: a known number, or where there is none 'd' -/
def bndV (E : EL) (d : Option Nat) : Option Operand → Option Nat
  | none => d
  | some y => match evO (envOf E) y with
    | some x => nOf x
    | none => none
def sliceV (cfg : Cfg) (P : Program) (E : EL) (H : HL) (t : TypeId) (x : AV) (lo hi mx : Option Operand) : Option AV := match isStr P t with
  | true => match mx, sOf x with
    | none, some l => match bndV E (some 0) lo with
      | some i => match dropS i l with
        | some r => match hi with
          | none => some (mkS r)
          | some _ => match bndV E none hi with
            | some j => match Nat.ble i j with
              | true => (takeS (j - i) r).map mkS
              | false => none
            | none => none
        | none => none
      | none => none
    | _, _ => none
  | false => match elT P t, mx with
    | some (_, esz, _, _), none => match x with
      | .ro e xs => match Nat.beq e esz, bndV E (some 0) lo, bndV E (some xs.length) hi with
        | true, some i, some j => match Nat.ble i j && Nat.ble j xs.length with
          | true => some (.ro esz ((xs.drop i).take (j - i)))
          | false => none
        | _, _, _ => none
      | .sl k e off n => match Nat.beq e esz && (lkR H k).isSome, bndV E (some 0) lo, bndV E (some n) hi with
        | true, some i, some j => match Nat.ble i j && Nat.ble j n with
          | true => match Nat.blt i j || Nat.beq i 0 with
            | true => some (.sl k esz (off + i) (j - i))
            | false => some (.ro esz [])
          | false => none
        | _, _, _ => none
      | .lit (.slice none 0 0) => match bndV E (some 0) lo, bndV E (some 0) hi with
        | some 0, some 0 => some (.lit (.slice none 0 0))
        | _, _ => none
      | _ => none
    | some (_, esz, _, _), some m => match lo, bndV E none hi, bndV E none (some m) with
      | none, some 0, some 0 => match x with
        | .ro e _ => match Nat.beq e esz with
          | true => some .emp
          | false => none
        | .sl k _ _ _ => match (lkR H k).isSome with
          | true => some .emp
          | false => none
        | .lit (.slice _ _ _) => some .emp
        | _ => none
      | _, _, _ => none
    | none, _ => none
def byteC (cfg : Cfg) (x : Lin) : Option SP := match x with
  | ([], .ofNat n) => match Nat.blt n 256 with
    | true => some (.b n)
    | false => none
  | x => match nng cfg x && nng cfg (Lin.sub (Lin.k 255) x) with
    | true => some (.e x)
    | false => none
def rowsS (cfg : Cfg) : List (List AV) → Option (List SP)
  | [] => some []
  | [c] :: r => match iOf c, rowsS cfg r with
    | some (.u8, x), some l => match byteC cfg x with
      | some p => some (p :: l)
      | none => none
    | _, _ => none
  | _ => none
/-- a number of another kind: wrapped once, at most -/
def fitC (cfg : Cfg) (k : IntKind) (x : Lin) : Option AV := match fitI cfg k x with
  | some v => some v
  | none => match inR cfg k (Lin.add x (Lin.k (2 ^ k.bits))) with
    | true => some (mkI k (Lin.add x (Lin.k (2 ^ k.bits))))
    | false => none
def convV (cfg : Cfg) (P : Program) (H : HL) (src dst : TypeId) (x : AV) : Option AV := match iOf x with
  | some (_, l) => match ikOf P dst, P.underlying src with
    | some k, some _ => fitC cfg k l
    | _, _ => none
  | none => match isStr P dst with
    | true => match elOf P src with
      | some e => match ikOf P e with
        | some .u8 => match srcV H 1 x with
          | some rows => (rowsS cfg rows).map mkS
          | none => none
        | _ => none
      | none => none
    | false => none
/-- a known key -/
def keyOK : AV → Option Value
  | .lit (.int k n) => some (.int k n)
  | .lit (.string s) => some (.string s)
  | .lit (.bool b) => some (.bool b)
  | _ => none
def kdOK : TypeDesc → Bool
  | .int _ => true
  | .string => true
  | .bool => true
  | _ => false
def findM (kd : TypeDesc) (q : Value) : List (Value × Value) → Nat → Option (Option (Nat × Value))
  | [], _ => some none
  | (k, v) :: r, i => match Instr.sameNow kd q k with
    | some true => some (some (i, v))
    | some false => findM kd q r (i + 1)
    | none => none
def mapT (P : Program) (t : TypeId) : Option (TypeDesc × Value) := match P.underlying t with
  | some (.map kt el) => match P.underlying kt, zOf P el with
    | some kd, some z => match kdOK kd && z.oneCell' with
      | true => some (kd, z)
      | false => none
    | _, _ => none
  | _ => none
def okV (ok b : Bool) (v : Value) : AV := match ok with
  | true => .tup [.lit v, .lit (.bool b)]
  | false => .lit v
def lookupV (P : Program) (H : HL) (t : TypeId) (x y : AV) (ok : Bool) : Option AV := match mapT P t, keyOK y with
  | some (kd, z), some q => match x with
    | .mp k => match lkR H k with
      | some (.map es) => match findM kd q es 0 with
        | some (some (_, v)) => match v.oneCell' with
          | true => some (okV ok true v)
          | false => none
        | some none => some (okV ok false z)
        | none => none
      | _ => none
    | .lit (.map none) => some (okV ok false z)
    | _ => none
  | _, _ => none
def litOf : AV → Option Value
  | .lit v => some v
  | _ => none
def updateV (P : Program) (H : HL) (t : TypeId) (x y z : AV) : Option HL := match mapT P t, keyOK y, litOf z with
  | some (kd, _), some q, some v => match x with
    | .mp k => match lkR H k with
      | some (.map es) => match findM kd q es 0 with
        | some (some (i, _)) => match es[i]? with
          | some (old, _) => match Instr.sameBits 10000 old q with
            | true => some [(k, some (.map (es.set i (q, v))))]
            | false => none
          | none => none
        | some none => some [(k, some (.map (es ++ [(q, v)])))]
        | none => none
      | _ => none
    | _ => none
  | _, _, _ => none

/-! ### one operation; calls are 'callF's -/
def outV (x : Option AV) : Option (List Out) := x.map fun v => [{ res := some v }]
def ev (E : EL) (x : Operand) : Option AV := evO (envOf E) x
def callB (cfg : Cfg) (P : Program) (H : HL) (nx : Nat) (b : Builtin) (xs : List AV) (tys : List TypeId) : Option (List Out) := match b, xs, tys with
  | .len, [x], [t] => outV (lenV cfg P H t x)
  | .append, [x, y], [t, t'] => match Nat.beq t t' with
    | true => (appendV P H nx t x y).map ([·])
    | false => none
  | .max, [x, y], _ => match iOf x, iOf y with
    | some (k, l), some (k', m) => match decide (k = k'), ltz cfg (Lin.sub l m) with
      | true, some true => outV (some (mkI k m))
      | true, some false => outV (some (mkI k l))
      | _, _ => none
    | _, _ => none
  | .min, [x, y], _ => match iOf x, iOf y with
    | some (k, l), some (k', m) => match decide (k = k'), ltz cfg (Lin.sub l m) with
      | true, some true => outV (some (mkI k l))
      | true, some false => outV (some (mkI k m))
      | _, _ => none
    | _, _ => none
  | _, _, _ => none
def opStep (cfg : Cfg) (P : Program) (callF : Nat → List AV → HL → Nat → Rs (List Out)) (o : Oper) (E : EL) (H : HL) (nx : Nat) : Rs (List Out) :=
  match o.op with
  | .call c => match c.callee with
    | .value fx => match ev E fx, evArgs (envOf E) c.args.toList with
      | some (.fn f caps), some xs => callF f (xs ++ caps) H nx
      | some x, _ => .er ("call of " ++ o.pos) [x]
      | _, _ => .er ("call " ++ o.pos) []
    | .builtin b => match evArgs (envOf E) c.args.toList with
      | some xs => .of ("builtin " ++ o.pos) xs (callB cfg P H nx b xs c.argTypes.toList)
      | none => .er ("builtin args " ++ o.pos) []
    | .invoke _ _ => .er ("invoke " ++ o.pos) []
  | .move x => .of ("move " ++ o.pos) [] (outV (ev E x))
  | .assign x => .of ("assign " ++ o.pos) [] (outV (ev E x))
  | .pick c x y => match ev E c with
    | some cv => match bv cfg cv with
      | some true => .of ("pick " ++ o.pos) [] (outV (ev E x))
      | some false => .of ("pick " ++ o.pos) [] (outV (ev E y))
      | none => .er ("pick undecided " ++ o.pos) [cv]
    | none => .er ("pick " ++ o.pos) []
  | .alloc t => .of ("alloc " ++ o.pos) [] ((zOf P t).map fun z => [{ res := some (.ptr nx 0 0 0), U := [(nx, some (.box (zeros z)))], m := 1 }])
  | .box _ x => match ev E x with
    | some v => match isTup v with
      | false => .ok [{ res := some (.ptr nx 0 0 0), U := [(nx, some (.box v.cells))], m := 1 }]
      | true => .er ("box " ++ o.pos) [v]
    | none => .er ("box " ++ o.pos) []
  | .build t parts => .of ("build " ++ o.pos) [] (outV (buildV P E t parts))
  | .buildSlice t len parts => .of ("buildSlice " ++ o.pos) [] ((buildSliceV P E nx t len parts).map ([·]))
  | .load t x => match ev E x with
    | some p => .of ("load " ++ o.pos) [p] (outV (loadV P H t p))
    | none => .er ("load " ++ o.pos) []
  | .store t x y => match ev E x, ev E y with
    | some p, some v => .of ("store " ++ o.pos) [p, v] ((storeV P H t p v).map fun U => [{ res := none, U := U }])
    | _, _ => .er ("store " ++ o.pos) []
  | .nilCheck x => match ev E x with
    | some p => match p.there with
      | true => .ok [{ res := some p }]
      | false => .er ("nilCheck " ++ o.pos) [p]
    | none => .er ("nilCheck " ++ o.pos) []
  | .binOp op t x y _ => match ev E x, ev E y with
    | some p, some q => .of ("binOp " ++ o.pos) [p, q] ((binV cfg P H op t p q).map fun l => l.map fun v => { res := some v })
    | _, _ => .er ("binOp operands " ++ o.pos) []
  | .unOp op _ x => match ev E x with
    | some p => .of ("unOp " ++ o.pos) [p] (outV (unV cfg op p))
    | none => .er ("unOp " ++ o.pos) []
  | .convert s d x => match ev E x with
    | some p => .of ("convert " ++ o.pos) [p] (outV (convV cfg P H s d p))
    | none => .er ("convert " ++ o.pos) []
  | .makeFunc (.func f) fi cs => match fi.toList, evArgs (envOf E) cs.toList with
    | [], some caps => .ok [{ res := some (.fn f caps) }]
    | _, _ => .er ("makeFunc " ++ o.pos) []
  | .makeMap _ none => .ok [{ res := some (.mp nx), U := [(nx, some (.map []))], m := 1 }]
  | .makeSlice t x y => match ev E x, ev E y with
    | some p, some q => .of ("makeSlice " ++ o.pos) [p, q] ((makeSliceV P nx t p q).map ([·]))
    | _, _ => .er ("makeSlice " ++ o.pos) []
  | .slice t x lo hi mx => match ev E x with
    | some p => .of ("slice " ++ o.pos) [p] (outV (sliceV cfg P E H t p lo hi mx))
    | none => .er ("slice " ++ o.pos) []
  | .fieldAddr t x i => match ev E x with
    | some p => .of ("fieldAddr " ++ o.pos) [p] (outV (faddrV P t i p))
    | none => .er ("fieldAddr " ++ o.pos) []
  | .field t x i => match ev E x with
    | some (.agg xs) => match fieldVOff P t i with
      | some off => .of ("field " ++ o.pos) xs (outV xs[off]?)
      | none => .er ("field off " ++ o.pos) []
    | _ => .er ("field " ++ o.pos) []
  | .indexAddr t x y => match ev E x, ev E y with
    | some p, some q => .of ("indexAddr " ++ o.pos) [p, q] (outV (iaddrV P H t p q))
    | _, _ => .er ("indexAddr " ++ o.pos) []
  | .index t x y => match ev E x, ev E y, isStr P t with
    | some p, some q, true => match sOf p, nOf q with
      | some l, some j => match dropS j l with
        | some (.b n :: _) => .ok [{ res := some (.lit (.int .u8 (n % 256 : Nat))) }]
        | some (.e x :: _) => match nng cfg x && nng cfg (Lin.sub (Lin.k 255) x) with
          | true => .ok [{ res := some (.sym (.int .u8 x)) }]
          | false => .er ("index byte " ++ o.pos) [p, q]
        | _ => .er ("index " ++ o.pos) [p, q]
      | _, _ => .er ("index " ++ o.pos) [p, q]
    | _, _, _ => .er ("index " ++ o.pos) []
  | .lookup t x y ok => match ev E x, ev E y with
    | some p, some q => .of ("lookup " ++ o.pos) [p, q] (outV (lookupV P H t p q ok))
    | _, _ => .er ("lookup " ++ o.pos) []
  | .mapUpdate t x y z => match ev E x, ev E y, ev E z with
    | some p, some q, some v => .of ("mapUpdate " ++ o.pos) [p, q, v] ((updateV P H t p q v).map fun U => [{ res := none, U := U }])
    | _, _, _ => .er ("mapUpdate " ++ o.pos) []
  | .extract x i => match ev E x with
    | some (.tup xs) => .of ("extract " ++ o.pos) xs (outV xs[i]?)
    | some p => .er ("extract " ++ o.pos) [p]
    | none => .er ("extract " ++ o.pos) []
  | _ => .er ("op " ++ o.pos) []

/-! ### sameness -/
def beqV (x y : Value) : Bool := match x, y with
  | .int k p, .int k' q => decide (k = k') && isZ (p - q)
  | .string s, .string t => beqNL (s.data.toList.map UInt8.toNat) (t.data.toList.map UInt8.toNat)
  | .bool a, .bool b => a == b
  | .pointer none, .pointer none => true
  | .slice none n c, .slice none n' c' => Nat.beq n n' && Nat.beq c c'
  | .map none, .map none => true
  | .nilFunc, .nilFunc => true
  | .nilIface, .nilIface => true
  | _, _ => false
def beqSym : Sym → Sym → Bool
  | .int k x, .int k' y => decide (k = k') && Lin.beq x y
  | .bool n a, .bool n' b => n == n' && beqBA a b
  | .str x, .str y => beqSS x y
  | .ro e a, .ro e' b => Nat.beq e e' && Nat.beq a b
  | .sl k e o n, .sl k' e' o' n' => Nat.beq k k' && Nat.beq e e' && Lin.beq o o' && Lin.beq n n'
  | .ptr k e i o, .ptr k' e' i' o' => Nat.beq k k' && Nat.beq e e' && Lin.beq i i' && Nat.beq o o'
  | .any a, .any b => Nat.beq a b
  | _, _ => false
def allP {α : Type} (p : α → α → Bool) : List α → List α → Bool
  | [], [] => true
  | x :: r, y :: q => p x y && allP p r q
  | _, _ => false
def beqA : Nat → AV → AV → Bool
  | 0, _, _ => false
  | n + 1, x, y => match x, y with
    | .lit u, .lit v => beqV u v
    | .ro e xs, .ro e' ys => Nat.beq e e' && allP (allP (beqA n)) xs ys
    | .rp xs o, .rp ys o' => Nat.beq o o' && allP (beqA n) xs ys
    | .fr x, .fr y => beqA n x y
    | .agg xs, .agg ys => allP (beqA n) xs ys
    | .tup xs, .tup ys => allP (beqA n) xs ys
    | .ptr k e i o, .ptr k' e' i' o' => Nat.beq k k' && Nat.beq e e' && Nat.beq i i' && Nat.beq o o'
    | .sl k e o m, .sl k' e' o' m' => Nat.beq k k' && Nat.beq e e' && Nat.beq o o' && Nat.beq m m'
    | .emp, .emp => true
    | .fn f xs, .fn g ys => Nat.beq f g && allP (beqA n) xs ys
    | .mp k, .mp k' => Nat.beq k k'
    | .sym x, .sym y => beqSym x y
    | _, _ => false
def beqM : List (Value × Value) → List (Value × Value) → Bool
  | [], [] => true
  | (a, b) :: r, (c, d) :: q => beqV a c && beqV b d && beqM r q
  | _, _ => false
def beqM3 : List (Value × Value × Nat) → List (Value × Value × Nat) → Bool
  | [], [] => true
  | (a, b, c) :: r, (a', b', c') :: q => beqV a a' && beqV b b' && Nat.beq c c' && beqM3 r q
  | _, _ => false
def beqB : Blk → Blk → Bool
  | .box xs, .box ys => allP (beqA 20) xs ys
  | .arr f e xs, .arr f' e' ys => f == f' && Nat.beq e e' && allP (allP (beqA 20)) xs ys
  | .map es, .map es' => beqM es es'
  | .sarr e a, .sarr e' a' => Nat.beq e e' && Nat.beq a a'
  | .memo a ks, .memo a' ks' => Nat.beq a a' && beqNL ks ks'
  | .sit ps p, .sit ps' p' => beqSS ps ps' && Nat.beq p p'
  | .setm es c, .setm es' c' => beqM3 es es' && Nat.beq c c'
  | .mit k s l c, .mit k' s' l' c' => Nat.beq k k' && Nat.beq s s' && beqNL l l' && Nat.beq c c'
  | .kbox xs g, .kbox ys g' => allP (beqA 20) xs ys && Nat.beq g g'
  | .memoQ a ks b g v, .memoQ a' ks' b' g' v' => Nat.beq a a' && beqNL ks ks' && b == b' && Nat.beq g g' && beqA 20 v v'
  | _, _ => false
def beqU (x y : Nat × Option Blk) : Bool := Nat.beq x.1 y.1 && (match x.2, y.2 with
  | some a, some b => beqB a b
  | none, none => true
  | _, _ => false)

/-! ### what else there is -/
def lkRv : List (Nat × Lin × List AV) → Nat → Lin → Option (List AV)
  | [], _, _ => none
  | (a, l, xs) :: r, b, m => match Nat.beq a b && Lin.beq l m with
    | true => some xs
    | false => lkRv r b m
def nn2 (cfg : Cfg) (x : Lin) : Bool := match ltz cfg x with
  | some false => true
  | _ => false
/-- the place of an element whose index is reckoned -/
def iaddrX (cfg : Cfg) (P : Program) (H : HL) (t : TypeId) (x i : AV) : Option AV := match iOf i, elOf P t with
  | some (_, l), some el => match szOf P el with
    | some s => match x with
      | .sym (.ro e a) => match Nat.beq s e, lkRv cfg.rv a l with
        | true, some cells => some (.rp cells 0)
        | _, _ => none
      | .sym (.sl k e off n) => match Nat.beq s e && (lkR H k).isSome && nng cfg off && nng cfg l && nn2 cfg (Lin.sub (Lin.sub n l) (Lin.k 1)) with
        | true => some (.sym (.ptr k e (Lin.add off l) 0))
        | false => none
      | _ => none
    | none => none
  | _, _ => none
def loadX (cfg : Cfg) (P : Program) (H : HL) (t : TypeId) (x : AV) : Option AV := match isAggT P t, x with
  | some g, .sym (.ptr k esz e j) => match lkR H k with
    | some (.sarr esz' a) => match Nat.beq esz esz', lkRv cfg.rv a e with
      | true, some row => match g with
        | false => row[j]?
        | true => match szOf P t with
          | some size => match Nat.ble (j + size) row.length with
            | true => some (.agg ((row.drop j).take size))
            | false => none
          | none => none
      | _, _ => none
    | _ => none
  | _, _ => none
def lenX (cfg : Cfg) (P : Program) (H : HL) (t : TypeId) (x : AV) : Option AV := match elOf P t with
  | some _ => match x with
    | .sym (.ro _ a) => (lk2 cfg.rl a).map (mkI .i64)
    | .sym (.sl k _ _ n) => match (lkR H k).isSome && nng cfg n with
      | true => some (mkI .i64 n)
      | false => none
    | _ => none
  | none => none
def lkG : List (Nat × List Value) → Nat → Option (List Value)
  | [], _ => none
  | (g, vs) :: r, h => match Nat.beq g h with
    | true => some vs
    | false => lkG r h
/-- a place in one of the program's own tables -/
def iaddrG (P : Program) (t : TypeId) (g : Nat) (i : AV) : Option AV := match nOf i, arrOf P t, lkG globs g with
  | some j, some (len, el), some vs => match szOf P el with
    | some sz => match Nat.beq sz 1 && Nat.blt j len with
      | true => some (.rp (vs.map .lit) j)
      | false => none
    | none => none
  | _, _, _ => none
def opX (cfg : Cfg) (P : Program) (o : Oper) (E : EL) (H : HL) (nx : Nat) : Option (List Out) :=
  match o.op with
  | .indexAddr t x y => match x with
    | .global g => match ev E y with
      | some q => outV (iaddrG P t g q)
      | none => none
    | _ => match ev E x, ev E y with
      | some p, some q => outV (iaddrX cfg P H t p q)
      | _, _ => none
  | .load t x => match ev E x with
    | some p => outV (loadX cfg P H t p)
    | none => none
  | .call c => match c.callee with
    | .builtin .len => match evArgs (envOf E) c.args.toList, c.argTypes.toList with
      | some [x], [t] => outV (lenX cfg P H t x)
      | _, _ => none
    | _ => none
  | _ => none
/-! ### iterators, sets -/
def setL (es : List (Value × Value × Nat)) : List (Value × Value) := es.map fun p => (p.1, p.2.1)
def intKey (P : Program) (t : TypeId) : Bool := match P.underlying t with
  | some (.map kt _) => match P.underlying kt with
    | some (.int _) => true
    | _ => false
  | _ => false
def rangeY (P : Program) (H : HL) (nx : Nat) (t : TypeId) (p : AV) : Option Out := match isStr P t with
  | true => match sOf p with
    | some ps => some { res := some (.ptr nx 0 0 0), U := [(nx, some (.sit ps 0))], m := 1 }
    | none => none
  | false => match mpT P t, p with
    | true, .mp k => match lkR H k with
      | some (.setm _ c) => some { res := some (.ptr nx 0 0 0), U := [(nx, some (.mit k c [] c))], m := 1 }
      | _ => none
    | _, _ => none
def charAt (cfg : Cfg) (ps : List SP) (pos : Nat) : Option (Option Lin) := match dropS pos ps with
  | some [] => some none
  | some (p :: _) => match byteL p with
    | some l => match nng cfg l && nng cfg (Lin.sub (Lin.k 127) l) with
      | true => some (some l)
      | false => none
    | none => none
  | none => none
def nextY (cfg : Cfg) (H : HL) (it : AV) (isString : Bool) : Option Out := match it with
  | .ptr j 0 0 0 => match isString, lkR H j with
    | true, some (.sit ps pos) => match charAt cfg ps pos with
      | some none => some { res := some (.tup [.lit (.bool false)]) }
      | some (some l) => some { res := some (.tup [.lit (.bool true), .lit (.int .i64 pos), mkI .i32 l]), U := [(j, some (.sit ps (pos + 1)))] }
      | none => none
    | false, some (.mit k since seen c0) => match lkR H k with
      | some (.setm es clock) => match es.all (fun p => Nat.blt p.2.2 since) && Nat.ble since c0 with
        | true => match es.filter (fun p => !memN p.2.2 seen) with
          | [] => some { res := some (.tup [.lit (.bool false)]) }
          | [(q, v, b)] => match q.oneCell' && v.oneCell' with
            | true => some { res := some (.tup [.lit (.bool true), .lit q, .lit v]), U := [(j, some (.mit k since (seen ++ [b]) clock))] }
            | false => none
          | _ => none
        | false => none
      | _ => none
    | _, _ => none
  | _ => none
def findB (b : Nat) : List (Value × Value × Nat) → Option (Value × Value)
  | [] => none
  | (q, v, c) :: r => match Nat.beq c b with
    | true => some (q, v)
    | false => findB b r
def entryY (H : HL) (it : AV) : Option AV := match it with
  | .ptr j 0 0 0 => match lkR H j with
    | some (.mit k _ seen c0) => match lkR H k with
      | some (.setm es clock) => match seen.getLast?, Nat.beq clock c0 with
        | some b, true => match findB b es with
          | some (q, v) => match q.oneCell' && v.oneCell' with
            | true => some (.tup [.lit q, .lit v])
            | false => none
          | none => none
        | _, _ => none
      | _ => none
    | _ => none
  | _ => none
def lookupY (P : Program) (H : HL) (t : TypeId) (x y : AV) (ok : Bool) : Option AV := match mapT P t, keyOK y with
  | some (kd, z), some q => match x with
    | .mp k => match lkR H k with
      | some (.setm es _) => match findM kd q (setL es) 0 with
        | some (some (_, v)) => match v.oneCell' with
          | true => some (okV ok true v)
          | false => none
        | some none => some (okV ok false z)
        | none => none
      | _ => none
    | _ => none
  | _, _ => none
def updateY (P : Program) (H : HL) (t : TypeId) (x y z : AV) : Option HL := match mapT P t, keyOK y, litOf z with
  | some (kd, _), some q, some v => match x with
    | .mp k => match lkR H k with
      | some (.setm es c) => match findM kd q (setL es) 0 with
        | some (some (i, _)) => match es[i]? with
          | some (old, _, b) => match Instr.sameBits 10000 old q with
            | true => some [(k, some (.setm (es.set i (q, v, b)) c))]
            | false => none
          | none => none
        | some none => some [(k, some (.setm (es ++ [(q, v, c)]) (c + 1)))]
        | none => none
      | _ => none
    | _ => none
  | _, _, _ => none
def deleteY (P : Program) (H : HL) (t : TypeId) (x y : AV) : Option HL := match mapT P t, keyOK y with
  | some (kd, _), some q => match x with
    | .mp k => match lkR H k with
      | some (.setm es c) => match findM kd q (setL es) 0 with
        | some (some (i, _)) => some [(k, some (.setm (es.eraseIdx i) c))]
        | some none => some [(k, some (.setm es c))]
        | none => none
      | _ => none
    | _ => none
  | _, _ => none
def lenY (P : Program) (H : HL) (t : TypeId) (x : AV) : Option AV := match mpT P t, x with
  | true, .mp k => match lkR H k with
    | some (.setm es _) => some (.lit (.int .i64 es.length))
    | _ => none
  | _, _ => none
def opY (cfg : Cfg) (P : Program) (o : Oper) (E : EL) (H : HL) (nx : Nat) : Option (List Out) :=
  match o.op with
  | .range t x => match ev E x with
    | some p => (rangeY P H nx t p).map ([·])
    | none => none
  | .next x b => match ev E x with
    | some p => (nextY cfg H p b).map ([·])
    | none => none
  | .entry x => match ev E x with
    | some p => outV (entryY H p)
    | none => none
  | .lookup t x y ok => match ev E x, ev E y with
    | some p, some q => outV (lookupY P H t p q ok)
    | _, _ => none
  | .mapUpdate t x y z => match ev E x, ev E y, ev E z with
    | some p, some q, some v => (updateY P H t p q v).map fun U => [{ res := none, U := U }]
    | _, _, _ => none
  | .insert t x y z => match ev E x, ev E y, ev E z with
    | some p, some q, some v => (updateY P H t p q v).map fun U => [{ res := none, U := U }]
    | _, _, _ => none
  | .call c => match c.callee with
    | .builtin .delete => match evArgs (envOf E) c.args.toList, c.argTypes.toList with
      | some [x, y], t :: _ => (deleteY P H t x y).map fun U => [{ res := none, U := U }]
      | _, _ => none
    | .builtin .len => match evArgs (envOf E) c.args.toList, c.argTypes.toList with
      | some [x], [t] => outV (lenY P H t x)
      | _, _ => none
    | _ => none
  | _ => none
/-! ### strings to bytes; lists that were cut; a letter at a reckoned place -/
def spRows (cfg : Cfg) : List SP → Option (List (List AV))
  | [] => some []
  | .b n :: r => match Nat.blt n 256, spRows cfg r with
    | true, some l => some ([.lit (.int .u8 n)] :: l)
    | _, _ => none
  | .e x :: r => match nng cfg x && nng cfg (Lin.sub (Lin.k 255) x), spRows cfg r with
    | true, some l => some ([mkI .u8 x] :: l)
    | _, _ => none
  | .o _ :: _ => none
def appendZ (cfg : Cfg) (P : Program) (H : HL) (nx : Nat) (t u : TypeId) (x y : AV) : Option Out := match elT P t, isStr P u, sOf y with
  | some (_, esz, bytes, _), true, some ps => match Nat.beq esz 1, spRows cfg ps with
    | true, some rows => match x with
      | .sl k e 0 n => match lkR H k with
        | some (.arr false e' els) => match Nat.beq e esz && Nat.beq e' esz && Nat.beq els.length n && Nat.ble ((els.length + rows.length) * bytes) 140737488355328 && Nat.ble (els.length + rows.length) 140737488355328 with
          | true => some { res := some (.sl nx esz 0 (n + rows.length)), U := [(k, none), (nx, some (.arr false esz (els ++ rows)))], m := 1 }
          | false => none
        | _ => none
      | .lit (.slice _ 0 0) => match Nat.ble (rows.length * bytes) 140737488355328 && Nat.ble rows.length 140737488355328 with
        | true => some { res := some (.sl nx esz 0 rows.length), U := [(nx, some (.arr false esz rows))], m := 2 }
        | false => none
      | _ => none
    | _, _ => none
  | _, _, _ => none
def appendC (P : Program) (H : HL) (nx : Nat) (t : TypeId) (x y : AV) : Option Out := match elT P t, x with
  | some (_, esz, bytes, _), .sl k e 0 n => match lkR H k, srcV H esz y with
    | some (.arr false e' els), some rows => match Nat.beq e esz && Nat.beq e' esz && Nat.blt n els.length && Nat.ble ((n + rows.length) * bytes) 140737488355328 && Nat.ble (n + rows.length) 140737488355328 with
      | true => some { res := some (.sl nx esz 0 (n + rows.length)), U := [(k, none), (nx, some (.arr false esz (els.take n ++ rows)))], m := 2 }
      | false => none
    | _, _ => none
  | _, _ => none
/-- append to the rear part of a list: in its block, or in a new one -/
def appendO (P : Program) (H : HL) (nx : Nat) (t : TypeId) (x y : AV) : Option (List Out) := match elT P t, x with
  | some (_, esz, bytes, _), .sl k e off n => match lkR H k, srcV H esz y with
    | some (.arr false e' els), some (r :: rows) => match Nat.beq e esz && Nat.beq e' esz && Nat.blt 0 off && Nat.beq (off + n) els.length && Nat.ble ((els.length + (r :: rows).length) * bytes) 140737488355328 && Nat.ble (els.length + (r :: rows).length) 140737488355328 with
      | true => some [{ res := some (.sl nx esz off (n + (r :: rows).length)), U := [(k, none), (nx, some (.arr false esz (els ++ r :: rows)))], m := 1 },
          { res := some (.sl nx esz 0 (n + (r :: rows).length)), U := [(k, none), (nx, some (.arr false esz (els.drop off ++ r :: rows)))], m := 1 }]
      | false => none
    | _, _ => none
  | _, _ => none
def consec : Nat → List Nat → Bool
  | _, [] => true
  | c, x :: r => Nat.beq c x && consec (c + 1) r
def sliceZ (cfg : Cfg) (P : Program) (E : EL) (t : TypeId) (x : AV) (lo hi mx : Option Operand) : Option AV := match isStr P t, mx, lo, hi with
  | true, none, some a, some b => match sOf x, ev E a, ev E b with
    | some ps, some p, some q => match allB8 ps, iOf p, iOf q with
      | some (c0 :: l), some (_, i), some (_, j) => match consec c0 (c0 :: l) && nng cfg i && nng cfg (Lin.sub (Lin.k (l.length : Nat)) i) && Lin.beq j (Lin.add i (Lin.k 1)) with
        | true => some (.sym (.str [.e (Lin.add i (Lin.k (c0 : Nat)))]))
        | false => none
      | _, _, _ => none
    | _, _, _ => none
  | _, _, _, _ => none
/-- an array in a variable, seen as a list -/
def sliceP (P : Program) (E : EL) (H : HL) (t : TypeId) (x : AV) (lo hi mx : Option Operand) : Option Out := match x, mx, arrOf P t with
  | .ptr k 0 0 0, none, some (n, el) => match szOf P el, bndV E (some 0) lo, bndV E (some n) hi with
    | some sz, some i, some j => match Nat.beq sz 1 && Nat.ble i j && Nat.ble j n && Nat.blt i n && Nat.ble n 65536 with
      | true => match lkR H k with
        | some (.box cells) => match Nat.beq cells.length n && cells.all (·.one) with
          | true => some { res := some (.sl k 1 i (j - i)), U := [(k, some (.arr false 1 (cells.map fun c => [c])))] }
          | false => none
        | some (.arr false 1 els) => match Nat.beq els.length n with
          | true => some { res := some (.sl k 1 i (j - i)), U := [(k, some (.arr false 1 els))] }
          | false => none
        | _ => none
      | false => none
    | _, _, _ => none
  | _, _, _ => none
def opZ (cfg : Cfg) (P : Program) (o : Oper) (E : EL) (H : HL) (nx : Nat) : Option (List Out) :=
  match o.op with
  | .slice t x lo hi mx => match ev E x with
    | some p => match sliceP P E H t p lo hi mx with
      | some u => some [u]
      | none => outV (sliceZ cfg P E t p lo hi mx)
    | none => none
  | .call c => match c.callee with
    | .builtin .append => match evArgs (envOf E) c.args.toList, c.argTypes.toList with
      | some [x, y], [t, u] => match Nat.beq t u with
        | true => match appendO P H nx t x y with
          | some l => some l
          | none => (appendC P H nx t x y).map ([·])
        | false => (appendZ cfg P H nx t u x y).map ([·])
      | _, _ => none
    | _ => none
  | _ => none
/-! ### own lists of unknown content -/
def lkRp : List (Nat × Nat × List (List AV)) → Nat → List (List AV) → Option Nat
  | [], _, _ => none
  | (a', a, rows) :: r, b, xs => match Nat.beq a b && allP (allP (beqA 20)) rows xs with
    | true => some a'
    | false => lkRp r b xs
def two (f : AV → Option (AV × List Nat)) : List AV → Option (List AV × List Nat)
  | [] => some ([], [])
  | x :: r => match f x, two f r with
    | some (y, l), some (ys, m) => some (y :: ys, l ++ m)
    | _, _ => none
def two2 (f : AV → Option (AV × List Nat)) : List (List AV) → Option (List (List AV) × List Nat)
  | [] => some ([], [])
  | x :: r => match two f x, two2 f r with
    | some (y, l), some (ys, m) => some (y :: ys, l ++ m)
    | _, _ => none
/-- lists of the call's own, read as data from now on; their places, which are given up -/
def fzK (cfg : Cfg) (H : HL) : Nat → AV → Option (AV × List Nat)
  | 0, _ => none
  | n + 1, x => match x with
    | .lit v => some (.lit v, [])
    | .ro e xs => some (.ro e xs, [])
    | .rp xs o => some (.rp xs o, [])
    | .sym (.sl k e off m) => match lkR H k with
      | some (.sarr e' a) => match Nat.beq e e' && Lin.beq off ([], 0), lk2 cfg.rl a with
        | true, some l => match Lin.beq l m with
          | true => some (.sym (.ro e a), [k])
          | false => none
        | _, _ => none
      | _ => none
    | .sym (.ptr _ _ _ _) => none
    | .sym z => some (.sym z, [])
    | .sl k e off m => match lkR H k with
      | some (.arr false e' els) => match Nat.beq e e' && Nat.ble (off + m) els.length with
        | true => match two2 (fzK cfg H n) ((els.drop off).take m) with
          | some (rows, l) => some (.ro e rows, k :: l)
          | none => none
        | false => none
      | _ => none
    | .agg xs => match two (fzK cfg H n) xs with
      | some (ys, l) => some (.agg ys, l)
      | none => none
    | _ => none
def killU (l : List Nat) : List (Nat × Option Blk) := l.map fun k => (k, none)
def lkRpE (l : List (Nat × Nat × List (List AV))) (a : Nat) (rows : List (List AV)) : Option Nat := match rows with
  | [] => some a
  | rows => lkRp l a rows
def lkRp0 (cfg : Cfg) : List (Nat × Nat × List (List AV)) → List (List AV) → Option Nat
  | [], _ => none
  | (a', a, rows) :: r, xs => match (match lk2 cfg.rl a with | some ([], 0) => true | _ => false) && allP (allP (beqA 20)) rows xs with
    | true => some a'
    | false => lkRp0 cfg r xs
def appendS (cfg : Cfg) (P : Program) (H : HL) (nx : Nat) (t : TypeId) (x y : AV) : Option Out := match elT P t, x with
  | some (_, esz, bytes, _), .sym (.sl k e off n) => match lkR H k, srcV H esz y with
    | some (.sarr e' a), some rows0 => match two2 (fzK cfg H 9) rows0 with
     | some (rows, kl) => match lk2 cfg.rl a, lkRpE cfg.rp a rows with
      | some l, some a' => match Nat.beq e esz && Nat.beq e' esz && !(Nat.beq k nx) && Lin.beq off ([], 0) && Lin.beq l n && nng cfg (Lin.sub (Lin.k 140737488355328) (Lin.mul (bytes : Nat) (Lin.add n (Lin.k (rows.length : Nat))))) && nng cfg (Lin.sub (Lin.k 140737488355328) (Lin.add n (Lin.k (rows.length : Nat)))) && kl.all (fun q => Nat.blt q nx && !(Nat.beq q k)) with
        | true => some { res := some (.sym (.sl nx esz ([], 0) (Lin.add n (Lin.k (rows.length : Nat))))), U := (k, none) :: (nx, some (.sarr esz a')) :: killU kl, m := 1 }
        | false => none
      | _, _ => none
     | none => none
    | _, _ => none
  | some (_, esz, bytes, _), .lit (.slice none 0 0) => match y with
   | .sym (.sl k e off n) => match lkR H k with
    | some (.sarr e' a) => match lk2 cfg.rl a with
      | some l => match Nat.beq e esz && Nat.beq e' esz && !(Nat.beq k nx) && Lin.beq off ([], 0) && Lin.beq l n && nng cfg (Lin.sub (Lin.k 140737488355328) (Lin.mul (bytes : Nat) n)) && nng cfg (Lin.sub (Lin.k 140737488355328) n) && nng cfg (Lin.sub n (Lin.k 1)) with
        | true => some { res := some (.sym (.sl nx esz ([], 0) n)), U := [(nx, some (.sarr esz a))], m := 2 }
        | false => none
      | none => none
    | _ => none
   | _ => match srcV H esz y with
    | some rows0 => match two2 (fzK cfg H 9) rows0 with
      | some (rows, kl) => match lkRp0 cfg cfg.rp rows with
        | some a' => match Nat.ble (rows.length * bytes) 140737488355328 && Nat.ble rows.length 140737488355328 && Nat.blt 0 rows.length && kl.all (fun q => Nat.blt q nx) with
          | true => some { res := some (.sym (.sl nx esz ([], 0) ([], (rows.length : Nat)))), U := (nx, some (.sarr esz a')) :: killU kl, m := 2 }
          | false => none
        | none => none
      | none => none
    | none => none
  | _, _ => none
def lkRa : List (Nat × Nat × Lin × List AV) → Nat → Lin → List AV → Option Nat
  | [], _, _, _ => none
  | (a', a, l, xs) :: r, b, m, ys => match Nat.beq a b && Lin.beq l m && allP (beqA 20) xs ys with
    | true => some a'
    | false => lkRa r b m ys
def isAggA : AV → Bool
  | .agg _ => true
  | _ => false
def storeS (cfg : Cfg) (P : Program) (H : HL) (t : TypeId) (x v : AV) : Option HL := match szOf P t, x with
  | some size, .sym (.ptr k esz e 0) => match lkR H k, bareAll false v.cells with
    | some (.sarr esz' a), some ys => match lkRa cfg.ra a e ys with
      | some a' => match isAggA v && !isTup v && Nat.beq v.cells.length size && Nat.beq ys.length size && Nat.beq esz esz' with
        | true => some [(k, some (.sarr esz a'))]
        | false => none
      | none => none
    | _, _ => none
  | _, _ => none
def opS (cfg : Cfg) (P : Program) (o : Oper) (E : EL) (H : HL) (nx : Nat) : Option (List Out) :=
  match o.op with
  | .store t x y => match ev E x, ev E y with
    | some p, some v => (storeS cfg P H t p v).map fun U => [{ res := none, U := U }]
    | _, _ => none
  | .call c => match c.callee with
    | .builtin .append => match evArgs (envOf E) c.args.toList, c.argTypes.toList with
      | some [x, y], [t, u] => match Nat.beq t u with
        | true => (appendS cfg P H nx t x y).map ([·])
        | false => none
      | _, _ => none
    | _ => none
  | _ => none
/-! ### lists of unknown length that are made; maps whose keys hold places -/
def lkRm : List (Nat × Lin × List AV) → Lin → List AV → Option Nat
  | [], _, _ => none
  | (a, l, xs) :: r, n, ys => match Lin.beq l n && allP (beqA 20) xs ys with
    | true => some a
    | false => lkRm r n ys
def makeM (cfg : Cfg) (P : Program) (nx : Nat) (t : TypeId) (x : AV) : Option Out := match elT P t, iOf x with
  | some (_, esz, bytes, z), some (.i64, l) => match lkRm cfg.rm l (zeros z) with
    | some a => match nng cfg l && nng cfg (Lin.sub (Lin.k 281474976710656) (Lin.mul (bytes : Nat) l)) && nng cfg (Lin.sub (Lin.k 281474976710656) l) with
      | true => some { res := some (.sym (.sl nx esz ([], 0) l)), U := [(nx, some (.sarr esz a))], m := 1 }
      | false => none
    | none => none
  | _, _ => none
/-- a key's cell: a number, a place of the call's own, a place in data -/
def keyC (H : HL) : AV → Option AV
  | .lit (.int .i64 n) => some (.lit (.int .i64 n))
  | .ptr k e i o => match lkR H k with
    | some (.box _) => some (.ptr k e i o)
    | _ => none
  | .rp xs o => some (.rp (xs.drop o) 0)
  | _ => none
def keyCs (H : HL) : List AV → Option (List AV)
  | [] => some []
  | x :: r => match keyC H x, keyCs H r with
    | some y, some l => some (y :: l)
    | _, _ => none
def keyNs : List AV → List Nat
  | [] => []
  | .ptr k _ _ _ :: r => k :: keyNs r
  | _ :: r => keyNs r
def addN : List Nat → List Nat → List Nat
  | [], ks => ks
  | k :: r, ks => match memN k ks with
    | true => addN r ks
    | false => addN r (k :: ks)
def kfOK (P : Program) (isI : Bool) (f : Field) (i : Nat) : Bool := Nat.beq f.offset i && !(f.name == "_") && (match isAggT P f.type with | some false => true | _ => false) && (match P.underlying f.type with
  | some (.int _) => isI
  | some (.pointer e) => !isI && (match P.info? e with
    | some inf => Nat.blt 0 inf.size
    | none => false)
  | _ => false)
/-- a map whose keys are structs of a number or a place and a place: the elements' zero -/
def memoT (P : Program) (a : Nat) (t : TypeId) : Option Value := match P.underlying t with
  | some (.map kt el) => match P.underlying kt, zOf P el with
    | some (.struct fs), some z => match fs.toList with
      | [f, g] => match kfOK P (shp a).1 f 0 && kfOK P (shp a).2 g 1 && !(P.stoodInHeld kt) && z.oneCell' with
        | true => some z
        | false => none
      | _ => none
    | _, _ => none
  | _ => none
def keyB : Bool → AV → Bool
  | true, .lit (.int .i64 _) => true
  | false, .rp _ _ => true
  | false, .ptr _ _ _ _ => true
  | _, _ => false
def keyBs (a : Nat) : List AV → Bool
  | [c, d] => keyB (shp a).1 c && keyB (shp a).2 d
  | _ => false
def lkMm : List (Nat × List AV × AV) → Nat → List AV → Option AV
  | [], _, _ => none
  | (a, xs, v) :: r, b, ys => match Nat.beq a b && allP (beqA 20) xs ys with
    | true => some v
    | false => lkMm r b ys
def liveB (H : HL) : List Nat → Bool
  | [] => true
  | k :: r => match lkR H k with
    | some (.box _) => liveB H r
    | _ => false
def okA (ok b : Bool) (v : AV) : AV := match ok with
  | true => .tup [v, .lit (.bool b)]
  | false => v
def scalA : AV → Bool
  | .lit (.int _ _) => true
  | .lit (.bool _) => true
  | .sym (.int _ _) => true
  | .sym (.bool _ _) => true
  | _ => false
def lookupM (P : Program) (H : HL) (t : TypeId) (x y : AV) (ok : Bool) : Option Out := match x, y with
  | .mp k, .agg [.sym (.any g), .sym (.any g')] => match lkR H k with
    | some (.memoQ a ks has q v) => match memoT P a t with
      | some z => match Nat.beq g q && Nat.beq g' (q + 1) && liveB H ks && scalA v with
        | true => some { res := some (match has with | true => okA ok true v | false => okA ok false (.lit z)) }
        | false => none
      | none => none
    | _ => none
  | _, _ => none
/-- the cells that tell a key -/
def loadK (P : Program) (H : HL) (t : TypeId) (x : AV) : Option AV := match isAggT P t, szOf P t, x with
  | some true, some 2, .ptr k 0 0 0 => match lkR H k with
    | some (.kbox _ g) => some (.agg [.sym (.any g), .sym (.any (g + 1))])
    | _ => none
  | _, _, _ => none
def updateM (cfg : Cfg) (P : Program) (H : HL) (t : TypeId) (x y z : AV) : Option HL := match x, y with
  | .mp k, .agg cs => match lkR H k, keyCs H cs with
    | some (.memo a ks), some key => match memoT P a t, lkMm cfg.mm a key with
      | some _, some v => match keyBs a key && liveB H ks && beqA 3 v z && scalA z with
        | true => some [(k, some (.memo a (addN (keyNs key) ks)))]
        | false => none
      | _, _ => none
    | _, _ => none
  | _, _ => none
def opM (cfg : Cfg) (P : Program) (o : Oper) (E : EL) (H : HL) (nx : Nat) : Option (List Out) :=
  match o.op with
  | .makeSlice t (.tmp x) (.tmp y) => match Nat.beq x y with
    | true => match ev E (.tmp x) with
      | some p => (makeM cfg P nx t p).map ([·])
      | _ => none
    | false => none
  | .lookup t x y ok => match ev E x, ev E y with
    | some p, some q => (lookupM P H t p q ok).map ([·])
    | _, _ => none
  | .load t x => match ev E x with
    | some p => outV (loadK P H t p)
    | none => none
  | .mapUpdate t x y z => match ev E x, ev E y, ev E z with
    | some p, some q, some v => (updateM cfg P H t p q v).map fun U => [{ res := none, U := U }]
    | _, _, _ => none
  | _ => none
/-- a list's first elements, the others given up -/
def opCut (cfg : Cfg) (P : Program) (o : Oper) (E : EL) (H : HL) (nx : Nat) : Option (List Out) :=
  match o.op with
  | .slice t x none (some hi) none => match cfg.cu.any (Nat.beq t), ev E x, bndV E none (some hi), elT P t with
    | true, some (.sl k e 0 n), some j, some (_, esz, _, _) => match lkR H k with
      | some (.arr false e' els) => match Nat.beq e esz && Nat.beq e' esz && Nat.ble j n && Nat.ble j els.length && Nat.blt 0 j with
        | true => some [{ res := some (.sl nx esz 0 j), U := [(k, none), (nx, some (.arr false esz (els.take j)))], m := 1 }]
        | false => none
      | _ => none
    | _, _, _, _ => none
  | _ => none
/-- nothing appended to nothing -/
def opNil (P : Program) (o : Oper) (E : EL) : Option (List Out) :=
  match o.op with
  | .call c => match c.callee with
    | .builtin .append => match evArgs (envOf E) c.args.toList, c.argTypes.toList with
      | some [.lit (.slice none 0 0), .lit (.slice none 0 0)], [t, u] => match Nat.beq t u, elT P t with
        | true, some _ => some [{ res := some (.lit (.slice none 0 0)) }]
        | _, _ => none
      | _, _ => none
    | _ => none
  | _ => none
def opAny (cfg : Cfg) (P : Program) (callF : Nat → List AV → HL → Nat → Rs (List Out)) (o : Oper) (E : EL) (H : HL) (nx : Nat) : Rs (List Out) :=
  match o.op with
  | .makeMap t none => match intKey P t with
    | true => .ok [{ res := some (.mp nx), U := [(nx, some (.setm [] 0))], m := 1 }]
    | false => match lk2 cfg.mt t with
      | some a => .ok [{ res := some (.mp nx), U := [(nx, some (.memo a []))], m := 1 }]
      | none => opStep cfg P callF o E H nx
  | _ => match (match opNil P o E with | some outs => some outs | none => match opCut cfg P o E H nx with | some outs => some outs | none => match cfg.rp with | [] => none | _ => opS cfg P o E H nx) with
   | some outs => .ok outs
   | none => match opStep cfg P callF o E H nx with
    | .ok outs => .ok outs
    | .er m xs => match opX cfg P o E H nx with
      | some outs => .ok outs
      | none => match opY cfg P o E H nx with
        | some outs => .ok outs
        | none => match opZ cfg P o E H nx with
          | some outs => .ok outs
          | none => match opS cfg P o E H nx with
            | some outs => .ok outs
            | none => match opM cfg P o E H nx with
              | some outs => .ok outs
              | none => .er m xs

/-! ### code -/
structure St where
  E : EL
  H : HL
  nx : Nat
  D : List Nat := []
def setE (E : EL) (d : Option Nat) (r : Option AV) : Option EL := match d, r with
  | some d, some r => some ((d, r) :: E)
  | none, _ => some E
  | _, none => none
def dOK (N : Nat) (o : Oper) : Bool := match o.dst with
  | some d => Nat.blt d N
  | none => true
/-- is an operation carried out? -/
inductive Ask where
  | yes
  | no
  | bad
def ask (cfg : Cfg) (ops : Array Oper) (E : EL) (o : Oper) : Ask := match o.guard with
  | none => .yes
  | some (j, b) => match (ops[j]?).bind (·.dst) with
    | some t => match envOf E t with
      | some (.tup []) => .no
      | some x => match bv cfg x with
        | some b' => if b' == b then .yes else .no
        | none => .bad
      | none => .bad
    | none => .bad
/-- the same, of plain guards alone -/
def askL (ops : Array Oper) (E : EL) (o : Oper) : Ask := match o.guard with
  | none => .yes
  | some (j, b) => match (ops[j]?).bind (·.dst) with
    | some t => match envOf E t with
      | some (.tup []) => .no
      | some (.lit (.bool b')) => if b' == b then .yes else .no
      | _ => .bad
    | none => .bad
def apply (st : St) (o : Oper) (u : Out) : Option St := match setE st.E o.dst u.res with
  | some E => some ⟨E, setAll st.H u.U, st.nx + u.m, u.U.map (·.1) ++ st.D⟩
  | none => none
def bindAll {α β : Type} (f : α → Rs (List β)) : List α → Rs (List β)
  | [] => .ok []
  | x :: r => match f x with
    | .ok l => match bindAll f r with
      | .ok m => .ok (l ++ m)
      | .er e xs => .er e xs
    | .er e xs => .er e xs
/-- a list of operations, in the text's order -/
def seqOps (cfg : Cfg) (P : Program) (callF : Nat → List AV → HL → Nat → Rs (List Out)) (N : Nat) (ops : Array Oper) : List Oper → St → Rs (List St)
  | [], st => .ok [st]
  | o :: r, st => match dOK N o with
    | false => .er ("slot " ++ o.pos) []
    | true => match ask cfg ops st.E o with
      | .bad => .er ("guard " ++ o.pos) []
      | .no => match setE st.E o.dst (some (.tup [])) with
        | some E => seqOps cfg P callF N ops r ⟨E, st.H, st.nx, st.D⟩
        | none => .er ("guarded slot " ++ o.pos) []
      | .yes => match opAny cfg P callF o st.E st.H st.nx with
        | .ok outs => bindAll (fun u => match apply st o u with
          | some st' => seqOps cfg P callF N ops r st'
          | none => .er ("no value " ++ o.pos) []) outs
        | .er e xs => .er e xs

/-! names that a value leads to -/
def namesA : Nat → AV → List Nat
  | 0, _ => []
  | n + 1, x => match x with
    | .ptr k _ _ _ => [k]
    | .sl k _ _ _ => [k]
    | .mp k => [k]
    | .agg xs => xs.flatMap (namesA n)
    | .tup xs => xs.flatMap (namesA n)
    | .fn _ xs => xs.flatMap (namesA n)
    | .sym (.sl k _ _ _) => [k]
    | .sym (.ptr k _ _ _) => [k]
    | _ => []
def namesB : Blk → List Nat
  | .box xs => xs.flatMap (namesA 3)
  | .arr _ _ els => els.flatMap fun r => r.flatMap (namesA 3)
  | .map _ => []
  | .sarr _ _ => []
  | .memo _ ks => ks
  | .sit _ _ => []
  | .setm _ _ => []
  | .mit k _ _ _ => [k]
  | .kbox xs _ => xs.flatMap (namesA 3)
  | .memoQ _ ks _ _ _ => ks
/-- all names that these lead to, of those in use -/
def reach (H : HL) : Nat → List Nat → List Nat → List Nat
  | 0, _, acc => acc
  | _ + 1, [], acc => acc
  | n + 1, k :: r, acc => match memN k acc with
    | true => reach H n r acc
    | false => match lkR H k with
      | some B => reach H n (namesB B ++ r) (k :: acc)
      | none => reach H n r acc
def keepH : List Nat → HL → HL
  | [], _ => []
  | k :: r, H => match lkR H k with
    | some B => (k, some B) :: keepH r H
    | none => keepH r H
/-- what an operation's operands lead to -/
def opNames (E : EL) (ts : List Nat) : List Nat := ts.flatMap fun t => match envOf E t with
  | some x => namesA 4 x
  | none => []
/-- an iterator's map, too -/
def itN (H : HL) : List Nat → List Nat
  | [] => []
  | k :: r => match lkR H k with
    | some (.mit k' _ _ _) => k :: k' :: itN H r
    | _ => k :: itN H r
/-- a map's keys' places, too -/
def memN' (H : HL) : List Nat → List Nat
  | [] => []
  | k :: r => match lkR H k with
    | some (.memo _ ks) => k :: (ks ++ memN' H r)
    | some (.memoQ _ ks _ _ _) => k :: (ks ++ memN' H r)
    | _ => k :: memN' H r
/-- the blocks that an operation looks at -/
def needs (H : HL) (o : Oper) (l : List Nat) : List Nat := match o.op with
  | .call c => match c.callee with
    | .value _ => reach H 100000 l []
    | .builtin .append => reach H 100000 l []
    | _ => l
  | .load _ _ => l
  | .binOp _ _ _ _ _ => l
  | .store _ _ _ => l
  | .indexAddr _ _ _ => l
  | .slice _ _ _ _ _ => l
  | .lookup _ _ _ _ => memN' H l
  | .mapUpdate _ _ _ _ => memN' H l
  | .insert _ _ _ _ => l
  | .convert _ _ _ => l
  | .range _ _ => l
  | .next _ _ => itN H l
  | .entry _ => itN H l
  | _ => []
def restEL (E : EL) (ts : List Nat) : EL := E.filter fun p => memN p.1 ts
def maskOf (ms : List Nat) (o : Oper) : Nat := o.after.toList.foldl (fun m e => match bindsAny e with
  | true => Nat.lor m (Nat.lor (2 ^ e.on) (ms.getD e.on 0))
  | false => m) 0
def masks : List Oper → List Nat → List Nat
  | [], acc => acc
  | o :: r, acc => masks r (acc ++ [maskOf acc o])
/-- a region whose order is open: walked in the text's order, each operation with what it looks at -/
def anyOps (cfg : Cfg) (P : Program) (callF : Nat → List AV → HL → Nat → Rs (List Out)) (N : Nat) (ops : Array Oper) (ms : List Nat) : List Oper → St → List Dm → Rs (List St)
  | [], st, acc => match dynOK ms acc with
    | true => .ok [st]
    | false => .er "any order" (acc.reverse.map fun d => .agg [.agg (d.dom.map fun (n : Nat) => .lit (.int .i64 (n : Int))), .agg (d.R.map fun (n : Nat) => .lit (.int .i64 (n : Int))), .agg (d.fr.map fun (n : Nat) => .lit (.int .i64 (n : Int)))])
  | o :: r, st, acc => match dOK N o with
    | false => .er ("slot " ++ o.pos) []
    | true => match askL ops (restEL st.E (o.looksAt ops)) o with
      | .bad => .er ("guard, any order " ++ o.pos) []
      | .no => match setE st.E o.dst (some (.tup [])) with
        | some E => anyOps cfg P callF N ops ms r ⟨E, st.H, st.nx, st.D⟩ (⟨[], [], []⟩ :: acc)
        | none => .er ("guarded slot " ++ o.pos) []
      | .yes =>
        let E' := restEL st.E (o.looksAt ops)
        let R := needs st.H o (opNames E' (o.looksAt ops))
        match opAny cfg P callF o E' (keepH R st.H) st.nx with
        | .ok [u] => match apply st o u with
          | some st' => match u.U.all (fun p => memN p.1 R || Nat.ble st.nx p.1) with
            | true => anyOps cfg P callF N ops ms r st' (⟨u.U.map (·.1), R, List.range' st.nx u.m⟩ :: acc)
            | false => .er ("any order, names " ++ o.pos) []
          | none => .er ("no value " ++ o.pos) []
        | .ok _ => .er ("any order, two ways " ++ o.pos) []
        | .er e xs => .er e xs

/-! ### is a key there, or is it not? -/
def noAny : Nat → AV → Bool
  | 0, _ => false
  | n + 1, x => match x with
    | .ro _ xs => xs.all fun r => r.all (noAny n)
    | .rp xs _ => xs.all (noAny n)
    | .fr x => noAny n x
    | .agg xs => xs.all (noAny n)
    | .tup xs => xs.all (noAny n)
    | .fn _ xs => xs.all (noAny n)
    | .sym (.any _) => false
    | _ => true
def noAnyB : Blk → Bool
  | .box xs => xs.all (noAny 20)
  | .arr _ _ els => els.all fun r => r.all (noAny 20)
  | .kbox _ _ => false
  | .memoQ _ _ _ _ _ => false
  | _ => true
def findLk : List Oper → Option (Nat × TypeId)
  | [] => none
  | o :: r => match o.op with
    | .lookup t _ (.tmp j) _ => some (j, t)
    | _ => findLk r
def findLd (j : Nat) : List Oper → Option Nat
  | [] => none
  | o :: r => match o.op, o.dst with
    | .load _ (.tmp q), some d => match Nat.beq d j with
      | true => some q
      | false => findLd j r
    | _, _ => findLd j r
def findMm (H : HL) : HL → Option (Nat × Nat × List Nat)
  | [] => none
  | (k, some (.memo _ _)) :: r => match lkR H k with
    | some (.memo a ks) => some (k, a, ks)
    | _ => findMm H r
  | _ :: r => findMm H r
structure Fork where
  b : Nat
  cells : List AV
  k : Nat
  a : Nat
  ks : List Nat
  v : AV
def forkOf (cfg : Cfg) (P : Program) (ops : List Oper) (st : St) : Option Fork := match findLk ops with
  | none => none
  | some (j, t) => match findLd j ops with
    | some q => match envOf st.E q, findMm st.H st.H with
      | some (.ptr b 0 0 0), some (k, a, ks) => match lkR st.H b, memoT P a t with
        | some (.box cells), some _ => match keyCs st.H cells with
          | some key => match lkMm cfg.mm a key with
            | some v => match keyBs a key && Nat.beq cells.length 2 && liveB st.H ks && scalA v && !(Nat.beq b k) with
              | true => some ⟨b, cells, k, a, addN (keyNs key) ks, v⟩
              | false => none
            | none => none
          | none => none
        | _, _ => none
      | _, _ => none
    | _ => none
/-- the state in which it is told whether the key is there -/
def Fork.st (f : Fork) (st : St) (has : Bool) : St := { st with H := setH f.b (some (.kbox f.cells 1000)) (setH f.k (some (.memoQ f.a f.ks has 1000 f.v)) st.H) }
/-- slots without what is told for a while -/
def slotT (E : EL) (t : Nat) : Bool := match envOf E t with
  | some x => noAny 20 x
  | none => false
def cleanAny (E : EL) : EL := E.filter fun p => slotT E p.1
/-- .. and back -/
def Fork.back (f : Fork) (st : St) : Rs St := match lkR st.H f.b, lkR st.H f.k with
  | some (.kbox cs 1000), some (.memoQ a ks _ 1000 _) =>
    let st2 : St := ⟨cleanAny st.E, setH f.b (some (.box cs)) (setH f.k (some (.memo a ks)) st.H), st.nx, f.b :: f.k :: st.D⟩
    match st2.H.all (fun p => match p.2 with | some B => noAnyB B | none => true) with
    | true => .ok st2
    | false => .er "fork: names" []
  | _, _ => .er "fork: back" []
def isNormal : Exit → Bool
  | .normal => true
  | _ => false
def blockExit (id : Nat) : Exit → Exit
  | .exit id' => match Nat.beq id' id with
    | true => .normal
    | false => .exit id'
  | e => e
def mapAll {α β : Type} (f : α → Rs β) : List α → Rs (List β)
  | [] => .ok []
  | x :: r => match f x with
    | .ok y => match mapAll f r with
      | .ok l => .ok (y :: l)
      | .er e xs => .er e xs
    | .er e xs => .er e xs
/-! ### new meanings of names; names from 1000 on are nobody's but a round's -/
structure Sub where
  i : List (Nat × Lin) := []
  s : List (Nat × List SP) := []
  r : List (Nat × Nat) := []
  e : List Nat := []
  k : List (Nat × Nat) := []
  f : List (Nat × List (List AV)) := []
def lkI (l : List (Nat × Lin)) (a : Nat) : Option Lin := match lk2 l a with
  | some x => some x
  | none => match Nat.blt a 1000 with
    | true => some ([(a, 1)], 0)
    | false => none
def lkS (l : List (Nat × List SP)) (a : Nat) : Option (List SP) := match lk2 l a with
  | some x => some x
  | none => match Nat.blt a 1000 with
    | true => some [.o a]
    | false => none
def lkK (l : List (Nat × Nat)) (a : Nat) : Nat := match lk2 l a with
  | some x => x
  | none => a
def lkRn (l : List (Nat × Nat)) (a : Nat) : Option Nat := match lk2 l a with
  | some x => some x
  | none => match Nat.blt a 1000 with
    | true => some a
    | false => none
def subT (σ : List (Nat × Lin)) : List (Nat × Int) → Option Lin
  | [] => some ([], 0)
  | (a, k) :: r => match lkI σ a, subT σ r with
    | some x, some y => some (Lin.add (Lin.mul k x) y)
    | _, _ => none
def subL (σ : List (Nat × Lin)) (x : Lin) : Option Lin := (subT σ x.1).map fun y => Lin.add y ([], x.2)
def subSP (σ : Sub) : SP → Option (List SP)
  | .b n => some [.b n]
  | .e x => (subL σ.i x).map fun y => [.e y]
  | .o a => lkS σ.s a
def subSS (σ : Sub) : List SP → Option (List SP)
  | [] => some []
  | p :: r => match subSP σ p, subSS σ r with
    | some x, some y => some (x ++ y)
    | _, _ => none
def subBA (σ : Sub) : BA → Option BA
  | .lt x => (subL σ.i x).map .lt
  | .eq x => (subL σ.i x).map .eq
  | .at a => match Nat.blt a 1000 with
    | true => some (.at a)
    | false => none
  | .seq x y => match subSS σ x, subSS σ y with
    | some p, some q => some (.seq p q)
    | _, _ => none
/-- a list of the call's own: place, size, from where, how many -/
def slOf : AV → Option (Nat × Nat × Lin × Lin)
  | .sl k e o n => some (k, e, ([], o), ([], n))
  | .sym (.sl k e o n) => some (k, e, o, n)
  | _ => none
def ptOf : AV → Option (Nat × Nat × Lin × Nat)
  | .ptr k e i o => some (k, e, ([], i), o)
  | .sym (.ptr k e i o) => some (k, e, i, o)
  | _ => none
/-- does 'x', under the names' old meanings, serve as 'y' under the new ones? -/
def matchA (σ : Sub) : Nat → AV → AV → Bool
  | 0, _, _ => false
  | n + 1, x, y => match y with
    | .lit v => match x with
      | .lit u => beqV u v
      | _ => false
    | .ro e ys => match x with
      | .ro e' xs => Nat.beq e' e && allP (allP (matchA σ n)) xs ys
      | _ => false
    | .rp ys o => match x with
      | .rp xs o' => Nat.beq o' o && allP (matchA σ n) xs ys
      | _ => false
    | .agg ys => match x with
      | .agg xs => allP (matchA σ n) xs ys
      | _ => false
    | .tup ys => match x with
      | .tup xs => allP (matchA σ n) xs ys
      | _ => false
    | .fn f ys => match x with
      | .fn g xs => Nat.beq g f && allP (matchA σ n) xs ys
      | _ => false
    | .emp => match x with
      | .emp => true
      | _ => false
    | .mp k => match x with
      | .mp k' => Nat.beq k' (lkK σ.k k)
      | _ => false
    | .ptr k e i o => match x with
      | .ptr k' e' i' o' => Nat.beq k' (lkK σ.k k) && Nat.beq e' e && Nat.beq i' i && Nat.beq o' o
      | _ => false
    | .sl k e o m => match x with
      | .sl k' e' o' m' => Nat.beq k' (lkK σ.k k) && Nat.beq e' e && Nat.beq o' o && Nat.beq m' m
      | _ => false
    | .sym (.int k l) => match iOf x, subL σ.i l with
      | some (k', m), some l' => decide (k' = k) && Lin.beq m l'
      | _, _ => false
    | .sym (.bool b a) => match x, subBA σ a with
      | .sym (.bool b' a'), some a2 => (b' == b) && beqBA a' a2
      | _, _ => false
    | .sym (.str ps) => match sOf x, subSS σ ps with
      | some qs, some ps' => beqSS qs ps'
      | _, _ => false
    | .sym (.ro e a) => match x, lkRn σ.r a with
      | .sym (.ro e' a'), some b => Nat.beq e' e && Nat.beq a' b
      | _, _ => false
    | .sym (.sl k e o m) => match slOf x, subL σ.i o, subL σ.i m with
      | some (k', e', o', m'), some o2, some m2 => Nat.beq k' (lkK σ.k k) && Nat.beq e' e && Lin.beq o' o2 && Lin.beq m' m2
      | _, _, _ => false
    | .sym (.ptr k e i o) => match ptOf x, subL σ.i i with
      | some (k', e', i', o'), some i2 => Nat.beq k' (lkK σ.k k) && Nat.beq e' e && Lin.beq i' i2 && Nat.beq o' o
      | _, _ => false
    | _ => false
def slLen (H : HL) (k n : Nat) : Bool := match lkR H k with
  | some (.arr _ _ els) => Nat.ble n els.length
  | _ => true
def noArr (H : HL) (k : Nat) : Bool := match lkR H k with
  | some (.arr _ _ _) => false
  | _ => true
/-- all names of a value are in use, all lists lie in what is told of their places -/
def nmS (H : HL) (ks : List Nat) : Nat → AV → Bool
  | 0, _ => false
  | n + 1, x => match x with
    | .ptr k _ _ _ => memN k ks
    | .sl k _ o m => memN k ks && slLen H k (o + m)
    | .mp k => memN k ks
    | .agg xs => xs.all (nmS H ks n)
    | .tup xs => xs.all (nmS H ks n)
    | .fn _ xs => xs.all (nmS H ks n)
    | .sym (.sl k _ _ _) => memN k ks && noArr H k
    | .sym (.ptr k _ _ _) => memN k ks
    | _ => true
def fullB (A B : Blk) : Bool := match A, B with
  | .arr _ _ xs, .arr _ _ ys => Nat.ble xs.length ys.length
  | _, _ => true
def matchB (σ : Sub) (H0 : HL) (ks : List Nat) : Blk → Blk → Bool
  | .box xs, .box ys => allP (matchA σ 12) xs ys && ys.all (nmS H0 ks 12)
  | .arr false e xs, .arr false e' ys => Nat.beq e e' && allP (allP (matchA σ 12)) (xs.take ys.length) ys && ys.all fun r => r.all (nmS H0 ks 12)
  | .sarr e a, .sarr e' a' => Nat.beq e e' && (match lkRn σ.r a' with
    | some b => Nat.beq a b
    | none => false)
  | .arr false e xs, .sarr e' a' => Nat.beq e e' && (match xs with
    | [] => memN a' σ.e
    | xs => match lk2 σ.f a' with
      | some rows => allP (allP (beqA 20)) xs rows
      | none => false)
  | .map es, .map es' => beqM es es'
  | .sit ps p, .sit ps' p' => Nat.beq p p' && (match subSS σ ps' with
    | some qs => beqSS ps qs
    | none => false)
  | .setm es c, .setm es' c' => beqM3 es es' && Nat.beq c c'
  | .mit k s l c, .mit k' s' l' c' => Nat.beq k (lkK σ.k k') && memN k' ks && Nat.beq s s' && beqNL l l' && Nat.beq c c'
  | .memo a qs, .memo a' qs' => Nat.beq a a' && beqNL qs qs' && qs.all fun k => Nat.beq (lkK σ.k k) k && memN k ks
  | _, _ => false
def nodupK (f : Nat → Nat) : List Nat → Bool
  | [] => true
  | k :: r => r.all (fun j => !(Nat.beq (f k) (f j))) && nodupK f r
/-- a state serves as another; names below 'n0' are the caller's, too -/
def matchSt (n0 : Nat) (σ : Sub) (st T : St) : Bool :=
  let ks := T.H.map (·.1)
  T.E.all (fun p => match envOf st.E p.1 with
    | some x => matchA σ 12 x p.2 && nmS T.H ks 12 p.2
    | none => false) &&
  T.H.all (fun p => match p.2 with
    | some B => Nat.blt p.1 T.nx && (match lkR st.H (lkK σ.k p.1) with
      | some A => matchB σ T.H ks A B && (Nat.ble n0 p.1 || fullB A B)
      | none => false)
    | none => false) &&
  nodupK (lkK σ.k) ks && Nat.ble n0 T.nx && σ.k.all (fun p => Nat.ble n0 p.1)

/-! ### loops of unknown length -/
/-- what may happen in a round (or in some): from a phase to a phase -/
structure Cas where
  frm : Nat
  to : Nat
  cf : Cfg
  m : Nat := 0
  sb : Sub
structure Lp where
  fn : Nat
  id : Nat
  tm : List (List (Nat × AV) × List (Nat × Option Blk))
  dE : List Nat := []
  dH : List Nat := []
  i0 : Nat := 0
  s0 : Sub
  cs : List Cas
  fin : Nat := 0
  up : Nat := 0
  cx : Cfg
def loopId : Nat → Code → Option Nat
  | 0, _ => none
  | n + 1, c => match c with
    | .region id _ _ => some id
    | .seq a b => match loopId n a with
      | some i => some i
      | none => loopId n b
    | .block _ b => loopId n b
    | _ => none
def cleanE : EL → List Nat → EL
  | [], _ => []
  | (t, x) :: r, seen => match memN t seen with
    | true => cleanE r seen
    | false => (t, x) :: cleanE r (t :: seen)
def cleanH : HL → List Nat → HL
  | [], _ => []
  | (k, none) :: r, seen => cleanH r (k :: seen)
  | (k, some B) :: r, seen => match memN k seen with
    | true => cleanH r seen
    | false => (k, some B) :: cleanH r (k :: seen)
/-- from 10000 on: the place that a slot leads to; from 20000 on: a new name -/
def relK (E : EL) (nx : Nat) (k : Nat) : Nat := match Nat.ble 10000 k with
  | false => k
  | true => match Nat.ble 20000 k with
   | true => nx + (k - 20000)
   | false => match envOf E (k - 10000) with
    | some (.ptr k' _ _ _) => k'
    | some (.sl k' _ _ _) => k'
    | some (.mp k') => k'
    | some (.sym (.sl k' _ _ _)) => k'
    | _ => k
def relA (E : EL) (nx : Nat) : Nat → AV → AV
  | 0, x => x
  | n + 1, x => match x with
    | .ptr k e i o => .ptr (relK E nx k) e i o
    | .sl k e o m => .sl (relK E nx k) e o m
    | .mp k => .mp (relK E nx k)
    | .sym (.sl k e o m) => .sym (.sl (relK E nx k) e o m)
    | .sym (.ptr k e i o) => .sym (.ptr (relK E nx k) e i o)
    | .agg xs => .agg (xs.map (relA E nx n))
    | x => x
def relB (E : EL) (nx : Nat) : Blk → Blk
  | .box xs => .box (xs.map (relA E nx 3))
  | .arr f e els => .arr f e (els.map fun r => r.map (relA E nx 3))
  | .memo a ks => .memo a (ks.map (relK E nx))
  | B => B
/-- without what leads nowhere -/
def tidyH : Nat → HL → HL
  | 0, H => H
  | n + 1, H =>
    let ks := H.map (·.1)
    tidyH n (H.filter fun p => match p.2 with
      | some B => nmBlk (fun k => memN k ks) 12 B
      | none => false)
def tidy (st : St) : St :=
  let H := tidyH 4 st.H
  let ks := H.map (·.1)
  { st with E := st.E.filter (fun p => nmB (fun k => memN k ks) 12 p.2), H := H }
/-- the state at a loop's head, told for any round -/
def headSt (lp : Lp) (st : St) (g : List (Nat × AV) × List (Nat × Option Blk)) : St :=
  let gE := g.1.map fun p => (p.1, relA st.E st.nx 3 p.2)
  let gH := g.2.map fun p => (relK st.E st.nx p.1, p.2.map (relB st.E st.nx))
  tidy ⟨gE ++ cleanE st.E (lp.dE ++ gE.map (·.1)), gH ++ cleanH st.H (lp.dH.map (relK st.E st.nx) ++ gH.map (·.1)), st.nx + lp.up, st.D⟩
/-- which place serves as which -/
def pairA : Nat → AV → AV → List (Nat × Nat)
  | 0, _, _ => []
  | n + 1, x, y =>
    let all := fun (xs ys : List AV) => (xs.zip ys).flatMap fun p => pairA n p.1 p.2
    match y with
    | .ptr k _ _ _ => match ptOf x with
      | some (k', _) => [(k, k')]
      | none => []
    | .sym (.ptr k _ _ _) => match ptOf x with
      | some (k', _) => [(k, k')]
      | none => []
    | .sl k _ _ _ => match slOf x with
      | some (k', _) => [(k, k')]
      | none => []
    | .sym (.sl k _ _ _) => match slOf x with
      | some (k', _) => [(k, k')]
      | none => []
    | .mp k => match x with
      | .mp k' => [(k, k')]
      | _ => []
    | .agg ys => match x with
      | .agg xs => all xs ys
      | _ => []
    | .tup ys => match x with
      | .tup xs => all xs ys
      | _ => []
    | .fn _ ys => match x with
      | .fn _ xs => all xs ys
      | _ => []
    | _ => []
def pairB (A B : Blk) : List (Nat × Nat) := match A, B with
  | .box xs, .box ys => (xs.zip ys).flatMap fun p => pairA 3 p.1 p.2
  | .arr _ _ xs, .arr _ _ ys => (xs.zip ys).flatMap fun r => (r.1.zip r.2).flatMap fun p => pairA 3 p.1 p.2
  | .mit k _ _ _, .mit k' _ _ _ => [(k', k)]
  | _, _ => []
def uni (H T : HL) : Nat → List (Nat × Nat) → List (Nat × Nat) → List (Nat × Nat)
  | 0, _, acc => acc
  | _ + 1, [], acc => acc
  | n + 1, (k, k') :: r, acc => match lk2 acc k with
    | some _ => uni H T n r acc
    | none => match lkR H k', lkR T k with
      | some A, some B => uni H T n (pairB A B ++ r) ((k, k') :: acc)
      | _, _ => uni H T n r ((k, k') :: acc)
def relS (st T : St) (σ : Sub) : Sub :=
  { σ with k := (uni st.H T.H 1000 (T.E.flatMap fun p => match envOf st.E p.1 with | some x => pairA 4 x p.2 | none => []) []).filter fun p => !(Nat.beq p.1 p.2) }
def roundsX (ex : Code → St → Rs (List (Exit × St))) (b : Code) : Nat → St → Rs (List St)
  | 0, st => .ok [st]
  | m + 1, st => match ex b st with
    | .ok l => bindAll (fun p => match isNormal p.1 with
      | true => roundsX ex b m p.2
      | false => .er "loop: left" []) l
    | .er e xs => .er e xs
def okCas (ex : Cfg → Code → St → Rs (List (Exit × St))) (n0 : Nat) (lp : Lp) (b : Code) (st : St) (c : Cas) : Rs Unit := match lp.tm[c.frm]?, lp.tm[c.to]? with
  | some g, some g' => match roundsX (ex c.cf) b (c.m + 1) (headSt lp st g) with
    | .ok l => match l.all fun s => matchSt n0 (relS s (headSt lp st g') c.sb) s (headSt lp st g') with
      | true => .ok ()
      | false => .er "loop: round's end" (l.flatMap fun s => (s.E.map (·.2)).take 12)
    | .er e xs => .er e xs
  | _, _ => .er "loop: phase" []
def beqO (x y : Option Blk) : Bool := match x, y with
  | some a, some b => beqB a b
  | none, none => true
  | _, _ => false
def fixD (a b : St) : St := { b with D := ((a.H.map (·.1) ++ b.H.map (·.1)).filter fun k => !(beqO (lkR a.H k) (lkR b.H k))) ++ a.D }
def runLoop (ex : Cfg → Code → St → Rs (List (Exit × St))) (n0 : Nat) (lp : Lp) (b : Code) (st : St) : Option (Rs (List (Exit × St))) := match lp.tm[lp.i0]? with
  | none => none
  | some g0 => match matchSt n0 (relS st (headSt lp st g0) lp.s0) st (headSt lp st g0) with
    | false => none
    | true => some (match mapAll (okCas ex n0 lp b st) lp.cs with
      | .er e xs => .er e xs
      | .ok _ => match lp.tm[lp.fin]? with
        | none => .er "loop: last phase" []
        | some g => match ex lp.cx b (headSt lp st g) with
          | .er e xs => .er e xs
          | .ok l => match l.all fun p => !isNormal p.1 with
            | true => .ok (l.map fun p => (p.1, fixD st p.2))
            | false => .er "loop: goes on" [])
def lkLp : List Lp → Nat → Nat → Option Lp
  | [], _, _ => none
  | lp :: r, f, i => match Nat.beq lp.fn f && Nat.beq lp.id i with
    | true => some lp
    | false => lkLp r f i
def noLoop : Code → St → Option (Rs (List (Exit × St))) := fun _ _ => none

/-- code: how it is left, and the state then -/
def exec (cfg : Cfg) (P : Program) (callF : Nat → List AV → HL → Nat → Rs (List Out)) (lf : Code → St → Option (Rs (List (Exit × St)))) (N : Nat) : Nat → Code → St → Rs (List (Exit × St))
  | 0, _, _ => .er "fuel" []
  | n + 1, c, st => match c with
    | .skip => .ok [(.normal, st)]
    | .region _ ops false => match seqOps cfg P callF N ops ops.toList st with
      | .ok l => .ok (l.map fun s => (.normal, s))
      | .er e xs => .er e xs
    | .region _ ops true =>
      let ms := masks ops.toList []
      match statOK ops.toList ms && Nat.beq ms.length ops.toList.length with
      | true => match forkOf cfg P ops.toList st with
        | none => match anyOps cfg P callF N ops ms ops.toList st [] with
          | .ok l => .ok (l.map fun s => (.normal, s))
          | .er e xs => .er e xs
        | some f => match st.E.all (fun p => noAny 20 p.2) && st.H.all (fun p => match p.2 with | some B => noAnyB B | none => true) with
          | false => .er "fork: any" []
          | true => bindAll (fun has => match anyOps { ft := cfg.ft } P (fun _ _ _ _ => .er "fork: call" []) N ops ms ops.toList (f.st st has) [] with
            | .ok l => match mapAll f.back l with
              | .ok l => .ok (l.map fun s => (.normal, s))
              | .er e xs => .er e xs
            | .er e xs => .er e xs) [true, false]
      | false => .er "any order, the text" []
    | .seq a b => match exec cfg P callF lf N n a st with
      | .ok l => bindAll (fun p => match isNormal p.1 with
        | true => exec cfg P callF lf N n b p.2
        | false => .ok [p]) l
      | .er e xs => .er e xs
    | .cond c a b => match ev st.E c with
      | some x => match bv cfg x with
        | some true => exec cfg P callF lf N n a st
        | some false => exec cfg P callF lf N n b st
        | none => .er "cond undecided" [x]
      | none => .er "cond" []
    | .block id b => match exec cfg P callF lf N n b st with
      | .ok l => .ok (l.map fun p => (blockExit id p.1, p.2))
      | .er e xs => .er e xs
    | .loop b => match lf b st with
      | some r => r
      | none => match exec cfg P callF lf N n b st with
        | .ok l => bindAll (fun p => match isNormal p.1 with
          | true => exec cfg P callF lf N n (.loop b) p.2
          | false => .ok [p]) l
        | .er e xs => .er e xs
    | .exit id => .ok [(.exit id, st)]
    | .ret => .ok [(.ret, st)]
    | _ => .er "code" []

/-! ### calls -/
def argsEL : Nat → List AV → EL
  | _, [] => []
  | i, x :: r => (i, x) :: argsEL (i + 1) r
def isEnd : Exit → Bool
  | .ret => true
  | .normal => true
  | _ => false
/-- what a call leaves to its caller -/
def leave (P : Program) (fn : Func) (Hs : HL) (R : List Nat) (nx : Nat) (p : Exit × St) : Rs Out := match isEnd p.1 with
  | false => .er "left" []
  | true => match resAll P (envOf p.2.E) (lkR p.2.H) fn.results.toList with
    | none => .er ("results " ++ fn.name) []
    | some r =>
      let K := reach p.2.H 100000 (namesA 4 r ++ R) []
      let U := ((R.filter fun k => memN k p.2.D) ++ (K.filter fun k => !memN k R)).map fun k => (k, lkR p.2.H k)
      let h0 := setAll Hs U
      match nmB (fun k => (lkR h0 k).isSome) 5 r && h0.all (fun q => match q.2 with | some B => nmBlk (fun k => (lkR h0 k).isSome) 5 B | none => true)
          && U.all (fun q => (lkR Hs q.1).isSome || q.2.isSome) && U.all (fun q => (lkR Hs q.1).isSome || Nat.ble nx q.1) && U.all (fun q => Nat.blt q.1 p.2.nx) with
      | false => .er ("names " ++ fn.name) [r]
      | true => .ok { res := some r, U := U, m := p.2.nx - nx }
def beqOut (x y : Out) : Bool := (match x.res, y.res with
  | some a, some b => beqA 20 a b
  | none, none => true
  | _, _ => false) && allP beqU x.U y.U
/-- ways that end alike are one -/
def oneOut : List Out → Rs (List Out)
  | [] => .er "no end" []
  | [u] => .ok [u]
  | u :: r => match r.all (beqOut u) with
    | true => .ok [{ u with m := r.foldl (fun m v => Nat.max m v.m) u.m }]
    | false => .er "ends" ((u :: r).filterMap (·.res))
/-- functions without a body -/
def extV (cfg : Cfg) (f : Nat) (args : List AV) : Option AV := match lk2 cfg.ext f, args with
  | some 0, [x, y] => match sOf x, sOf y with
    | some l, some m => (cmpD cfg l m).map fun n => .lit (.int .i64 n)
    | _, _ => none
  | some 1, [x] => some x
  | _, _ => none
def lkCt : List (Nat × List AV × AV) → Nat → List AV → Option AV
  | [], _, _ => none
  | (f, xs, r) :: q, g, ys => match Nat.beq f g && allP (beqA 20) xs ys with
    | true => some r
    | false => lkCt q g ys
/-- lists of the caller's own are data to what is told ahead; they are given up if what comes back may lie in them -/
def scalR : Nat → AV → Bool
  | 0, _ => false
  | n + 1, x => match x with
    | .lit _ => true
    | .sym (.int _ _) => true
    | .sym (.bool _ _) => true
    | .sym (.str _) => true
    | .tup xs => xs.all (scalR n)
    | _ => false
def lkCtF (cfg : Cfg) (H : HL) (nx f : Nat) (args : List AV) : Option Out := match lkCt cfg.ct f args with
  | some v => some { res := some v }
  | none => match cfg.ct.any (fun p => Nat.beq p.1 f) with
    | false => none
    | true => match two (fzK cfg H 9) args with
      | some (xs, kl) => match lkCt cfg.ct f xs with
        | some v => match scalR 5 v with
          | true => some { res := some v }
          | false => match kl.all (fun k => Nat.blt k nx) with
            | true => some { res := some v, U := killU kl }
            | false => none
        | none => none
      | none => none
/-- calls that are told ahead with the blocks that they read and change -/
def subH : HL → HL → Bool
  | [], _ => true
  | (k, B) :: r, H => (match B, lkR H k with
    | some a, some b => beqB a b
    | _, _ => false) && subH r H
def lkCm : List (Nat × List AV × HL × Nat × AV × HL × Nat) → HL → Nat → Nat → List AV → Option Out
  | [], _, _, _, _ => none
  | (f, xs, Hs, n, r, U, m) :: q, H, nx, g, ys => match Nat.beq f g && Nat.beq n nx && allP (beqA 20) xs ys && subH Hs H with
    | true => some { res := some r, U := U, m := m }
    | false => lkCm q H nx g ys
/-- the loops that are told ahead -/
def loopF (L : List Lp) (P : Program) (callOf : Cfg → Nat → List AV → HL → Nat → Rs (List Out)) (N f n0 : Nat) : Code → St → Option (Rs (List (Exit × St))) := match L with
  | [] => noLoop
  | L => fun b st => match loopId 20 b with
    | none => none
    | some i => match lkLp L f i with
      | none => none
      | some lp => runLoop (fun cf b st => exec cf P (callOf cf) noLoop N 4000 b st) n0 lp b st
def callIn (cfg : Cfg) (L : List Lp) (P : Program) : Nat → Nat → List AV → HL → Nat → Rs (List Out)
  | 0, f, _, _, _ => .er "depth" []
  | d + 1, f, args, H, nx => match P.funcs[f]? with
    | none => .er "function" []
    | some fn => match fn.body with
      | none => match lkCt cfg.ct f args with
        | some v => .ok [{ res := some v }]
        | none => .of ("no body " ++ fn.name) args ((extV cfg f args).map fun v => [{ res := some v }])
      | some c => match lkCtF cfg H nx f args with
       | some u => .ok [u]
       | none => match lkCm cfg.cm H nx f args with
        | some u => .ok [u]
        | none =>
        let R := reach H 100000 (args.flatMap (namesA 4)) []
        let Hs := keepH R H
        match Nat.ble args.length fn.ntmps && args.all (nmB (fun k => (lkR Hs k).isSome) 5) && Hs.all (fun q => match q.2 with | some B => nmBlk (fun k => (lkR Hs k).isSome) 5 B | none => true) && Hs.all (fun q => Nat.blt q.1 nx) with
        | false => .er ("call of " ++ fn.name) args
        | true => match exec cfg P (callIn cfg L P d) (loopF L P (fun cf => callIn cf [] P d) fn.ntmps f nx) fn.ntmps 5000 c ⟨argsEL 0 args, Hs, nx, []⟩ with
          | .er e xs => .er (e ++ " < " ++ fn.name) xs
          | .ok l => match mapAll (leave P fn Hs R nx) l with
            | .er e xs => .er e xs
            | .ok us => oneOut us
end Go.Abs
end
section
namespace Go.Abs

theorem isZ_iff {n : Int} : isZ n = true ↔ n = 0 := by
  cases n with
  | ofNat m => simp only [isZ, Nat.beq_eq]; exact ⟨fun h => by rw [h]; rfl, fun h => by injection h⟩
  | negSucc m => simp [isZ]
theorem isZ_false {n : Int} : isZ n = false ↔ n ≠ 0 := by
  rw [← Bool.not_eq_true, isZ_iff]
theorem isNg_iff {n : Int} : isNg n = true ↔ n < 0 := by
  cases n with
  | ofNat m => simp [isNg]
  | negSucc m => simp [isNg, Int.negSucc_lt_zero]
theorem isNg_false {n : Int} : isNg n = false ↔ 0 ≤ n := by
  rw [← Bool.not_eq_true, isNg_iff]; omega

variable [VL]
theorem insT_val (a : Nat) (k : Int) : ∀ l, tsum (insT a k l) = k * VL.i a + tsum l
  | [] => by simp [insT, tsum]
  | (b, m) :: r => by
    simp only [insT]
    cases h : Nat.beq a b with
    | true =>
      have e := Nat.eq_of_beq_eq_true h
      subst e
      cases hz : isZ (m + k) with
      | true =>
        have := isZ_iff.1 hz
        simp only [tsum]
        have h2 : (m + k) * VL.i a = 0 := by rw [this, Int.zero_mul]
        rw [Int.add_mul] at h2
        omega
      | false =>
        simp only [tsum, Int.add_mul]
        omega
    | false =>
      cases Nat.blt a b with
      | true => simp [tsum]
      | false =>
        simp only [tsum, insT_val a k r]
        omega
theorem addT_val (x : List (Nat × Int)) : ∀ y, tsum (addT x y) = tsum x + tsum y
  | [] => by simp [addT, tsum]
  | (a, k) :: r => by
    simp only [addT, insT_val, tsum, addT_val x r]; omega
theorem mulT_val (c : Int) : ∀ x, tsum (mulT c x) = c * tsum x
  | [] => by simp [mulT, tsum]
  | (a, k) :: r => by
    simp only [mulT, tsum, mulT_val c r, Int.mul_add, Int.mul_assoc]
@[simp] theorem Lin.k_val (n : Int) : Lin.val (Lin.k n) = n := by simp [Lin.k, Lin.val, tsum]
@[simp] theorem Lin.c_val (n : Int) : Lin.val ([], n) = n := by simp [Lin.val, tsum]
@[simp] theorem Lin.add_val (x y : Lin) : (Lin.add x y).val = x.val + y.val := by
  simp only [Lin.add, Lin.val, addT_val]; omega
@[simp] theorem Lin.neg_val (x : Lin) : (Lin.neg x).val = - x.val := by
  simp only [Lin.neg, Lin.val, mulT_val]; omega
@[simp] theorem Lin.sub_val (x y : Lin) : (Lin.sub x y).val = x.val - y.val := by
  simp only [Lin.sub, Lin.val, addT_val, mulT_val]; omega
@[simp] theorem Lin.mul_val (c : Int) (x : Lin) : (Lin.mul c x).val = c * x.val := by
  unfold Lin.mul
  cases h : isZ c with
  | true => rw [isZ_iff.1 h]; simp
  | false => simp only [Lin.val, mulT_val, Int.mul_add]
theorem eqT_eq : ∀ {x y : List (Nat × Int)}, eqT x y = true → x = y
  | [], [], _ => rfl
  | (a, k) :: r, (b, m) :: q, h => by
    simp only [eqT, Bool.and_eq_true] at h
    have h1 := Nat.eq_of_beq_eq_true h.1.1
    have h2 := isZ_iff.1 h.1.2
    rw [h1, eqT_eq h.2, show k = m from by omega]
  | [], _ :: _, h => by cases h
  | _ :: _, [], h => by cases h
theorem Lin.beq_eq {x y : Lin} (h : Lin.beq x y = true) : x = y := by
  simp only [Lin.beq, Bool.and_eq_true] at h
  have := isZ_iff.1 h.2
  exact Prod.ext (eqT_eq h.1) (by omega)

/-- named values told outright -/
def denA : Nat → AV → AV
  | 0, x => x
  | n + 1, x => match x with
    | .ro e xs => .ro e (xs.map fun r => r.map (denA n))
    | .rp xs o => .rp (xs.map (denA n)) o
    | .agg xs => .agg (xs.map (denA n))
    | .tup xs => .tup (xs.map (denA n))
    | .sym (.ro e a) => .ro e (VL.r a)
    | .sym (.any a) => .sym (.any a)
    | .sym s => match s.val with
      | some v => .lit v
      | none => .sym s
    | x => x
/-- data that name nothing -/
def AV.dat : AV → Bool
  | .lit _ => true
  | .ro _ _ => true
  | .rp _ _ => true
  | _ => false
/-- what is told ahead is so -/
structure Cfg.OK (cfg : Cfg) : Prop where
  bd : ∀ a l h, lk2 cfg.bd a = some (l, h) → l ≤ VL.i a ∧ VL.i a ≤ h
  fs : ∀ f, f ∈ cfg.fs → 0 ≤ Lin.val f
  fb : ∀ p, p ∈ cfg.fb → p.1.val = p.2
  sl : ∀ a x, lk2 cfg.sl a = some x → ((VL.s a).length : Int) = Lin.val x
  rd : ∀ a row, row ∈ VL.r a → ∀ x, x ∈ row → x.dat = true ∧ Pure x
  rl : ∀ a x, lk2 cfg.rl a = some x → ((VL.r a).length : Int) = Lin.val x
  rv : ∀ a l xs, (a, l, xs) ∈ cfg.rv → ∃ j : Nat, Lin.val l = (j : Int) ∧ (VL.r a)[j]? = some (xs.map (denA 20))
  ra : ∀ a' a l xs, (a', a, l, xs) ∈ cfg.ra → ∃ (j : Nat) (row : List AV), Lin.val l = (j : Int) ∧ (VL.r a)[j]? = some row ∧ row.length = xs.length ∧ VL.r a' = (VL.r a).set j (xs.map (denA 20))
  rp : ∀ a' a rows, (a', a, rows) ∈ cfg.rp → VL.r a' = VL.r a ++ rows.map (fun r => r.map (denA 20))
  rm : ∀ a n xs, (a, n, xs) ∈ cfg.rm → ∃ j : Nat, Lin.val n = (j : Int) ∧ VL.r a = List.replicate j (xs.map (denA 20))
  mm : ∀ a cs v, (a, cs, v) ∈ cfg.mm → ∃ val, denA 20 v = .lit val ∧ VL.m a (cs.map (denA 20)) val ∧ (∀ c, c ∈ cs → ∀ xs o, c = .rp xs o → Pure (denA 20 c)) ∧
    ∀ s w ks cs' vs val', Go.Abs.OK s w → (∀ q, q ∈ ks → ∃ xs, s.hp q = some (.box xs)) → KeyD s w a ks cs' vs → KeyD s w a ks (cs.map (denA 20)) vs → VL.m a cs' val' → val' = val
  nl : ∀ o k x y z, (o, k, x, y, z) ∈ cfg.nl → ∀ t, (binOp o t (.int k (Lin.val x)) (.int k (Lin.val y)) : Sem Value) = pure (.int k (Lin.val z))

variable {cfg : Cfg} (ok : cfg.OK)
 include ok
theorem loT_val : ∀ l n, loT cfg l = some n → n ≤ tsum l
  | [], n, h => by cases h; exact Int.le_refl _
  | (a, k) :: r, n, h => by
    simp only [loT] at h
    split at h
    · rename_i l u s h1 h2
      cases h
      have hb := ok.bd a l u h1
      have ih := loT_val r s h2
      simp only [tsum]
      cases hk : isNg k with
      | true =>
        have := isNg_iff.1 hk
        have : k * u ≤ k * VL.i a := Int.mul_le_mul_of_nonpos_left (by omega) hb.2
        simp only; omega
      | false =>
        have := isNg_false.1 hk
        have : k * l ≤ k * VL.i a := Int.mul_le_mul_of_nonneg_left hb.1 this
        simp only; omega
    · cases h
theorem nng_val {x : Lin} (h : nng cfg x = true) : 0 ≤ x.val := by
  unfold nng at h
  split at h
  · rename_i l hl
    have := loT_val ok _ _ hl
    simp only [Bool.not_eq_true', isNg_false] at h
    unfold Lin.val; omega
  · cases h
theorem ltz_val {x : Lin} {b : Bool} (h : ltz cfg x = some b) : decide (x.val < 0) = b := by
  unfold ltz at h
  split at h
  · cases h
    rename_i c
    cases hc : isNg c with
    | true => have := isNg_iff.1 hc; simp [this]
    | false => have := isNg_false.1 hc; simp; omega
  · have key : ∀ (y : Lin), (nng cfg y || cfg.fs.any (fun f => nng cfg (Lin.sub y f))) = true → 0 ≤ y.val := by
      intro y hy
      simp only [Bool.or_eq_true, List.any_eq_true] at hy
      rcases hy with h1 | ⟨f, hf, h1⟩
      · exact nng_val ok h1
      · have h2 := nng_val ok h1
        have h3 := ok.fs f hf
        simp at h2; omega
    split at h
    · cases h; rename_i h1; have := key _ h1; simp; omega
    · split at h
      · cases h; rename_i h1; have := key _ h1; simp at this; simp; omega
      · cases h
theorem eqz_val {x : Lin} {b : Bool} (h : eqz cfg x = some b) : decide (x.val = 0) = b := by
  unfold eqz at h
  split at h
  · cases h
    rename_i c
    cases hc : isZ c with
    | true => have := isZ_iff.1 hc; simp [this]
    | false => have := isZ_false.1 hc; simpa using this
  · generalize e1 : ltz cfg x = p at h
    generalize e2 : ltz cfg (Lin.neg x) = q at h
    have h1 := fun b => ltz_val ok (x := x) (b := b)
    have h2 := fun b => ltz_val ok (x := Lin.neg x) (b := b)
    rw [e1] at h1
    rw [e2] at h2
    rcases p with _ | _ | _ <;> rcases q with _ | _ | _ <;> cases h
    · have := h2 true rfl; simp at this ⊢; omega
    · have a := h1 false rfl; have b := h2 false rfl; simp at a b ⊢; omega
    · have := h2 true rfl; simp at this ⊢; omega
    · have := h1 true rfl; simp at this ⊢; omega
    · have := h1 true rfl; simp at this ⊢; omega
    · have := h1 true rfl; simp at this ⊢; omega
 omit ok
/-- the plain value that a value is -/
def AV.vl : AV → Option Value
  | .lit v => some v
  | .sym x => x.val
  | _ => none
theorem Rel.vl_eq {s : Sg} {w : World} {x : AV} {v u : Value} (h : Rel s w x v) (hx : x.vl = some u) : v = u := by
  cases x with
  | lit y => cases hx; exact Rel.lit_eq h
  | sym y =>
    cases h with
    | rep h => cases h with
      | sym h => have : y.val = some u := hx; rw [h] at this; cases this; rfl
      | sro h => cases hx
      | any h => cases hx
    | ssl => cases hx
    | sptr => cases hx
  | _ => cases hx
theorem vl_rel {s : Sg} {w : World} {x : AV} {u : Value} (hx : x.vl = some u) (h1 : u.oneCell' = true) : Rel s w x u := by
  cases x with
  | lit y => cases hx; exact .rep (.lit h1)
  | sym y => exact .rep (.sym hx)
  | _ => cases hx
theorem iOf_vl {x : AV} {k : IntKind} {l : Lin} (h : iOf x = some (k, l)) : x.vl = some (.int k l.val) := by
  unfold iOf at h
  split at h
  · cases h; simp [AV.vl]
  · cases h; rfl
  · cases h
theorem mkI_vl (k : IntKind) (x : Lin) : (mkI k x).vl = some (.int k x.val) := by
  unfold mkI
  split
  · simp [AV.vl]
  · rfl
theorem beqSP_eq {x y : SP} (h : beqSP x y = true) : x = y := by
  cases x <;> cases y <;> first | (cases h; done) | skip
  · simp only [beqSP] at h; rw [Nat.eq_of_beq_eq_true h]
  · simp only [beqSP] at h; rw [Lin.beq_eq h]
  · simp only [beqSP] at h; rw [Nat.eq_of_beq_eq_true h]
theorem beqSS_eq : ∀ {x y : List SP}, beqSS x y = true → x = y
  | [], [], _ => rfl
  | x :: r, y :: q, h => by
    simp only [beqSS, Bool.and_eq_true] at h
    rw [beqSP_eq h.1, beqSS_eq h.2]
  | [], _ :: _, h => by cases h
  | _ :: _, [], h => by cases h
theorem beqBA_eq {x y : BA} (h : beqBA x y = true) : x = y := by
  cases x <;> cases y <;> first | (cases h; done) | skip
  · simp only [beqBA] at h; rw [Lin.beq_eq h]
  · simp only [beqBA] at h; rw [Lin.beq_eq h]
  · simp only [beqBA] at h; rw [Nat.eq_of_beq_eq_true h]
  · simp only [beqBA, Bool.and_eq_true] at h; rw [beqSS_eq h.1, beqSS_eq h.2]
theorem lkB_mem : ∀ {l : List (BA × Bool)} {x : BA} {b : Bool}, lkB l x = some b → (x, b) ∈ l
  | [], _, _, h => by cases h
  | (a, b') :: r, x, b, h => by
    simp only [lkB] at h
    split at h
    · rename_i h1; cases h; rw [beqBA_eq h1]; simp
    · exact List.mem_cons_of_mem _ (lkB_mem h)
theorem mkB_vl (ok : cfg.OK) {n : Bool} {a : BA} {v : Option Bool} (h : ∀ b, v = some b → a.val = b) : (mkB cfg n a v).vl = some (.bool (Bool.xor n a.val)) := by
  unfold mkB
  cases v with
  | none =>
    simp only
    split
    · rename_i b hb
      have := ok.fb _ (lkB_mem hb)
      rw [show a.val = b from this]; rfl
    · rfl
  | some b => rw [h b rfl]; rfl
theorem bv_vl (ok : cfg.OK) {x : AV} {b : Bool} (h : bv cfg x = some b) : x.vl = some (.bool b) := by
  unfold bv at h
  split at h
  · cases h; rfl
  · rename_i n a
    obtain ⟨c, hc, rfl⟩ := Option.map_eq_some_iff.1 h
    have := ok.fb _ (lkB_mem hc)
    show some (Value.bool (Bool.xor n a.val)) = _
    rw [show a.val = c from this]
  · cases h


end Go.Abs
end
section
namespace Go.Abs
variable [VL]

theorem u8_back (b : UInt8) : UInt8.ofNat b.toNat = b := by simp
theorem sOf_vl {x : AV} {l : List SP} (h : sOf x = some l) : x.vl = some (.string (sval l)) := by
  unfold sOf at h
  split at h
  · cases h
    rename_i s
    have : (List.map (fun (b : UInt8) => SP.b b.toNat) s.data.toList).flatMap SP.val = s.data.toList := by
      induction s.data.toList with
      | nil => rfl
      | cons a r ih => simp only [List.map_cons, List.flatMap_cons, SP.val, u8_back, ih]; rfl
    simp only [AV.vl, sval, this]
  · cases h; rfl
  · cases h
theorem allB_val : ∀ {ps : List SP} {l : List Nat}, allB ps = some l → ps.flatMap SP.val = l.map UInt8.ofNat
  | [], l, h => by cases h; rfl
  | .b n :: r, l, h => by
    simp only [allB, Option.map_eq_some_iff] at h
    obtain ⟨m, hm, rfl⟩ := h
    simp only [List.flatMap_cons, SP.val, allB_val hm, List.map_cons]; rfl
  | .e _ :: _, l, h => by cases h
  | .o _ :: _, l, h => by cases h
theorem mkS_vl (ps : List SP) : (mkS ps).vl = some (.string (sval ps)) := by
  unfold mkS
  split
  · rename_i l h
    simp only [AV.vl, sval, allB_val h]
  · rfl
theorem sval_inj {x y : List SP} : sval x = sval y ↔ x.flatMap SP.val = y.flatMap SP.val := by
  unfold sval
  constructor
  · intro h
    have := congrArg (fun s => s.data.toList) h
    simpa using this
  · intro h; rw [h]
theorem sval_size (ps : List SP) : (sval ps).size = (ps.flatMap SP.val).length := by simp [sval, ByteArray.size]
theorem sval_append (x y : List SP) : sval x ++ sval y = sval (x ++ y) := by
  simp [sval, ByteArray.ext_iff]

variable {cfg : Cfg} (ok : cfg.OK)
 include ok
theorem slen_val : ∀ {ps : List SP} {x : Lin}, slen cfg ps = some x → ((ps.flatMap SP.val).length : Int) = x.val
  | [], x, h => by cases h; simp
  | .o a :: r, x, h => by
    simp only [slen] at h
    split at h
    · rename_i y z h1 h2
      cases h
      have h3 := ok.sl a y h1
      have h4 := slen_val h2
      simp only [List.flatMap_cons, List.length_append, SP.val, Lin.add_val]
      omega
    · cases h
  | .b n :: r, x, h => by
    simp only [slen, Option.map_eq_some_iff] at h
    obtain ⟨y, h1, rfl⟩ := h
    have h4 := slen_val h1
    simp only [List.flatMap_cons, List.length_append, SP.val, Lin.add_val, Lin.k_val, List.length_singleton]
    omega
  | .e n :: r, x, h => by
    simp only [slen, Option.map_eq_some_iff] at h
    obtain ⟨y, h1, rfl⟩ := h
    have h4 := slen_val h1
    simp only [List.flatMap_cons, List.length_append, SP.val, Lin.add_val, Lin.k_val, List.length_singleton]
    omega
 omit ok
theorem byteL_val {p : SP} {l : Lin} (h : byteL p = some l) : SP.val p = [UInt8.ofNat l.val.toNat] := by
  cases p with
  | b n => cases h; simp [SP.val]
  | e x => cases h; rfl
  | o a => cases h
theorem u8_eq {p q : Int} (hp : 0 ≤ p) (hp' : p ≤ 255) (hq : 0 ≤ q) (hq' : q ≤ 255) : UInt8.ofNat p.toNat = UInt8.ofNat q.toNat ↔ p = q := by
  constructor
  · intro h
    have := congrArg UInt8.toNat h
    simp at this
    omega
  · intro h; rw [h]
 include ok
theorem byte_bounds {l m : Lin} (h : (nng cfg l && nng cfg (Lin.sub (Lin.k 255) l) && nng cfg m && nng cfg (Lin.sub (Lin.k 255) m)) = true) : 0 ≤ l.val ∧ l.val ≤ 255 ∧ 0 ≤ m.val ∧ m.val ≤ 255 := by
  simp only [Bool.and_eq_true] at h
  have h1 := nng_val ok h.1.1.1
  have h2 := nng_val ok h.1.1.2
  have h3 := nng_val ok h.1.2
  have h4 := nng_val ok h.2
  simp at h2 h4
  omega
theorem seqD_val : ∀ {x y : List SP} {b : Bool}, seqD cfg x y = some b → decide (x.flatMap SP.val = y.flatMap SP.val) = b := by
  intro x
  induction x with
  | nil =>
    intro y b h
    cases y with
    | nil => simp only [seqD] at h; cases h; simp
    | cons q r =>
      simp only [seqD] at h
      split at h
      · rename_i l hl
        cases h
        rw [List.flatMap_cons, byteL_val hl]; simp
      · cases h
  | cons p r ih =>
    intro y b h
    cases y with
    | nil =>
      cases p <;> simp only [seqD] at h <;>
      · split at h
        · rename_i l hl
          cases h
          rw [List.flatMap_cons, byteL_val hl]; simp
        · cases h
    | cons q s =>
      have key : (match byteL p, byteL q with
          | some l, some m => match nng cfg l && nng cfg (Lin.sub (Lin.k 255) l) && nng cfg m && nng cfg (Lin.sub (Lin.k 255) m) with
            | true => match eqz cfg (Lin.sub l m) with
              | some true => seqD cfg r s
              | some false => some false
              | none => none
            | false => none
          | _, _ => none) = some b → decide ((p :: r).flatMap SP.val = (q :: s).flatMap SP.val) = b := by
        intro h
        split at h
        · rename_i l m hl hm
          split at h
          · rename_i hb
            have hb := byte_bounds ok hb
            rw [List.flatMap_cons, List.flatMap_cons, byteL_val hl, byteL_val hm]
            have hu := u8_eq hb.1 hb.2.1 hb.2.2.1 hb.2.2.2
            split at h
            · rename_i he
              have := eqz_val ok he
              simp at this
              have e : l.val = m.val := by omega
              rw [← ih h, e]; simp
            · rename_i he
              cases h
              have := eqz_val ok he
              simp at this
              simp only [List.singleton_append, List.cons.injEq, decide_eq_false_iff_not, not_and]
              intro h2
              have := hu.1 h2
              omega
            · cases h
          · cases h
        · cases h
      cases p with
      | o a =>
        cases q with
        | o c =>
          simp only [seqD] at h
          split at h
          · rename_i hac
            rw [← ih h, Nat.eq_of_beq_eq_true hac]
            simp only [List.flatMap_cons, List.append_cancel_left_eq]
          · cases h
        | _ => exact key h
      | _ => cases q <;> exact key h
theorem cmpD_val : ∀ {x y : List SP} {n : Int}, cmpD cfg x y = some n → Lib.compareBytes (x.flatMap SP.val) (y.flatMap SP.val) = n := by
  intro x
  induction x with
  | nil =>
    intro y b h
    cases y with
    | nil => simp only [cmpD] at h; cases h; simp [Lib.compareBytes]
    | cons q r =>
      simp only [cmpD] at h
      split at h
      · rename_i l hl
        cases h
        rw [List.flatMap_cons, byteL_val hl]; simp [Lib.compareBytes]
      · cases h
  | cons p r ih =>
    intro y b h
    cases y with
    | nil =>
      cases p <;> simp only [cmpD] at h <;>
      · split at h
        · rename_i l hl
          cases h
          rw [List.flatMap_cons, byteL_val hl]; simp [Lib.compareBytes]
        · cases h
    | cons q s =>
      have lt8 : ∀ {p q : Int}, 0 ≤ p → p ≤ 255 → 0 ≤ q → q ≤ 255 → (UInt8.ofNat p.toNat < UInt8.ofNat q.toNat ↔ p < q) := by
        intro p q h1 h2 h3 h4
        rw [UInt8.lt_iff_toNat_lt]
        simp
        omega
      have key : (match byteL p, byteL q with
          | some l, some m => match nng cfg l && nng cfg (Lin.sub (Lin.k 255) l) && nng cfg m && nng cfg (Lin.sub (Lin.k 255) m) with
            | true => match ltz cfg (Lin.sub l m), ltz cfg (Lin.sub m l) with
              | some true, _ => some (-1)
              | _, some true => some 1
              | some false, some false => cmpD cfg r s
              | _, _ => none
            | false => none
          | _, _ => none) = some b → Lib.compareBytes ((p :: r).flatMap SP.val) ((q :: s).flatMap SP.val) = b := by
        intro h
        split at h
        · rename_i l m hl hm
          split at h
          · rename_i hb
            have hb := byte_bounds ok hb
            rw [List.flatMap_cons, List.flatMap_cons, byteL_val hl, byteL_val hm]
            have h12 := lt8 hb.1 hb.2.1 hb.2.2.1 hb.2.2.2
            have h21 := lt8 hb.2.2.1 hb.2.2.2 hb.1 hb.2.1
            generalize e1 : ltz cfg (Lin.sub l m) = u at h
            generalize e2 : ltz cfg (Lin.sub m l) = v at h
            have g1 := fun b => ltz_val ok (x := Lin.sub l m) (b := b)
            have g2 := fun b => ltz_val ok (x := Lin.sub m l) (b := b)
            rw [e1] at g1
            rw [e2] at g2
            simp only [Lin.sub_val] at g1 g2
            simp only [List.singleton_append, Lib.compareBytes]
            have c1 : u = some true → l.val < m.val := fun e => by have := g1 true e; simp at this; omega
            have c2 : v = some true → m.val < l.val := fun e => by have := g2 true e; simp at this; omega
            have d1 : u = some false → ¬ l.val < m.val := fun e => by have := g1 false e; simp at this; omega
            have d2 : v = some false → ¬ m.val < l.val := fun e => by have := g2 false e; simp at this; omega
            rcases u with _ | _ | _ <;> rcases v with _ | _ | _ <;> simp only [] at h <;> first | (cases h; done) | skip
            · cases h
              have := c2 rfl
              rw [if_neg (by rw [h12]; omega), if_pos (by rw [h21]; omega)]
            · have a1 := d1 rfl
              have a2 := d2 rfl
              rw [if_neg (by rw [h12]; omega), if_neg (by rw [h21]; omega)]
              exact ih h
            · cases h
              have := c2 rfl
              rw [if_neg (by rw [h12]; omega), if_pos (by rw [h21]; omega)]
            · cases h; rw [if_pos (by rw [h12]; exact c1 rfl)]
            · cases h; rw [if_pos (by rw [h12]; exact c1 rfl)]
            · cases h; rw [if_pos (by rw [h12]; exact c1 rfl)]
          · cases h
        · cases h
      cases p with
      | o a =>
        cases q with
        | o c =>
          simp only [cmpD] at h
          split at h
          · rename_i hac
            rw [Nat.eq_of_beq_eq_true hac]
            simp only [List.flatMap_cons]
            have hself : ∀ (u v w : List UInt8), Lib.compareBytes (u ++ v) (u ++ w) = Lib.compareBytes v w := by
              intro u v w
              induction u with
              | nil => rfl
              | cons z u ihu =>
                simp only [List.cons_append, Lib.compareBytes]
                rw [if_neg (by rw [UInt8.lt_iff_toNat_lt]; omega), if_neg (by rw [UInt8.lt_iff_toNat_lt]; omega), ihu]
            rw [hself]
            exact ih h
          · cases h
        | _ => exact key h
      | _ => cases q <;> exact key h
 omit ok
theorem dropS_val : ∀ {n : Nat} {l r : List SP}, dropS n l = some r → (l.flatMap SP.val).drop n = r.flatMap SP.val ∧ n ≤ (l.flatMap SP.val).length
  | 0, l, r, h => by cases h; simp
  | n + 1, [], r, h => by cases h
  | n + 1, p :: q, r, h => by
    simp only [dropS] at h
    split at h
    · rename_i l hl
      have ih := dropS_val h
      rw [List.flatMap_cons, byteL_val hl]
      simp only [List.singleton_append, List.drop_succ_cons, List.length_cons]
      exact ⟨ih.1, by omega⟩
    · cases h
theorem takeS_val : ∀ {n : Nat} {l r : List SP}, takeS n l = some r → (l.flatMap SP.val).take n = r.flatMap SP.val ∧ n ≤ (l.flatMap SP.val).length
  | 0, l, r, h => by cases h; simp
  | n + 1, [], r, h => by cases h
  | n + 1, p :: q, r, h => by
    simp only [takeS] at h
    split at h
    · rename_i l hl
      obtain ⟨m, hm, rfl⟩ := Option.map_eq_some_iff.1 h
      have ih := takeS_val hm
      rw [List.flatMap_cons, List.flatMap_cons, byteL_val hl]
      simp only [List.singleton_append, List.take_succ_cons, List.length_cons, ih.1]
      exact ⟨trivial, by omega⟩
    · cases h

section
variable {P : Program} {o : Oper} {E : Env} {H : Hp}
/-- an operation on plain values -/
theorem AOp.binVal {op : BinOp} {t u : TypeId} {x y : Operand} {ax ay ar : AV} {p q r : Value} (ho : o.op = .binOp op t x y u) (hx : evO E x = some ax) (hy : evO E y = some ay) (hax : ax.vl = some p) (hay : ay.vl = some q)
    (hr : ∀ w : World, (do eqGuard op t x y p q; binOp op t p q : Sem Value).run P w = .ok r w) (har : ar.vl = some r) (h1 : r.oneCell' = true) : AOp P o E H [] (some ar) [] :=
  AOp.reads fun s w a _ hE _ => by
    have e1 := (evO_rel hE hx).vl_eq hax
    have e2 := (evO_rel hE hy).vl_eq hay
    refine ⟨r, ?_, vl_rel har h1⟩
    simp only [execOp, ho, e1, e2]
    rw [Sem.run_bind, hr w]
    rfl

theorem wrap_in {k : IntKind} {n : Int} (h1 : k.min ≤ n) (h2 : n ≤ k.max) : k.wrap n = n := by
  cases k <;> simp [IntKind.min, IntKind.max, IntKind.signed, IntKind.bits] at h1 h2 <;> simp [IntKind.wrap, IntKind.signed, IntKind.bits] <;> omega
theorem fitI_vl (ok : cfg.OK) {k : IntKind} {x : Lin} {r : AV} (h : fitI cfg k x = some r) : r.vl = some (.int k (k.wrap x.val)) := by
  unfold fitI at h
  cases hin : inR cfg k x with
  | true =>
    rw [hin] at h
    cases h
    rw [mkI_vl, wrap_in]
    · unfold inR at hin
      split at hin
      · simp only [Bool.and_eq_true, Bool.not_eq_true', isNg_false] at hin; simp; omega
      · simp only [Bool.and_eq_true] at hin
        have := nng_val ok hin.1; simp at this; omega
    · unfold inR at hin
      split at hin
      · simp only [Bool.and_eq_true, Bool.not_eq_true', isNg_false] at hin; simp; omega
      · simp only [Bool.and_eq_true] at hin
        have := nng_val ok hin.2; simp at this; omega
  | false =>
    rw [hin] at h
    simp only at h
    split at h
    · cases h; simp [AV.vl]
    · cases h
theorem inR_val (ok : cfg.OK) {k : IntKind} {x : Lin} (h : inR cfg k x = true) : k.min ≤ x.val ∧ x.val ≤ k.max := by
  unfold inR at h
  split at h
  · simp only [Bool.and_eq_true, Bool.not_eq_true', isNg_false] at h; simp; omega
  · simp only [Bool.and_eq_true] at h
    have h1 := nng_val ok h.1
    have h2 := nng_val ok h.2
    simp at h1 h2; omega
theorem fitC_vl (ok : cfg.OK) {k : IntKind} {x : Lin} {r : AV} (h : fitC cfg k x = some r) : r.vl = some (.int k (k.wrap x.val)) := by
  unfold fitC at h
  split at h
  · rename_i v hv
    cases h
    exact fitI_vl ok hv
  · split at h
    · rename_i hin
      cases h
      obtain ⟨h1, h2⟩ := inR_val ok hin
      rw [mkI_vl]
      have e := wrap_in h1 h2
      rw [← e]
      congr 2
      simp [IntKind.wrap]
    · cases h
theorem linC_val {x : Lin} {c : Int} (h : linC x = some c) : x.val = c := by
  unfold linC at h
  split at h
  · cases h; simp
  · cases h
theorem lkNl_mem : ∀ {l : List (BinOp × IntKind × Lin × Lin × Lin)} {o : BinOp} {k : IntKind} {x y z : Lin}, lkNl l o k x y = some z → (o, k, x, y, z) ∈ l
  | [], _, _, _, _, _, h => by cases h
  | (o, k, x, y, z) :: r, o', k', x', y', z', h => by
    simp only [lkNl] at h
    split at h
    · rename_i hb
      cases h
      simp only [Bool.and_eq_true, decide_eq_true_eq] at hb
      obtain ⟨⟨⟨h1, h2⟩, h3⟩, h4⟩ := hb
      subst h1; subst h2
      rw [Lin.beq_eq h3, Lin.beq_eq h4]; simp
    · exact List.mem_cons_of_mem _ (lkNl_mem h)
theorem ltB_vl (ok : cfg.OK) (n : Bool) (x : Lin) : (ltB cfg n x).vl = some (.bool (Bool.xor n (decide (x.val < 0)))) :=
  mkB_vl ok (a := .lt x) fun b hb => ltz_val ok hb
theorem eqB_vl (ok : cfg.OK) (n : Bool) (x : Lin) : (eqB cfg n x).vl = some (.bool (Bool.xor n (decide (x.val = 0)))) :=
  mkB_vl ok (a := .eq x) fun b hb => eqz_val ok hb
/-- what an operation on two numbers comes to -/
def BinR (P : Program) (op : BinOp) (p q : Value) (r : AV) : Prop := ∃ v, r.vl = some v ∧ v.oneCell' = true ∧ ∀ (t : TypeId) (x y : Operand) (w : World), (do eqGuard op t x y p q; binOp op t p q : Sem Value).run P w = .ok v w
theorem binR_of {op : BinOp} {p q : Value} {r : AV} {v : Value} (hv : r.vl = some v) (h1 : v.oneCell' = true) (hg : ∀ t x y, eqGuard op t x y p q = pure ()) (hb : ∀ t, (binOp op t p q : Sem Value) = pure v) : BinR P op p q r :=
  ⟨v, hv, h1, fun t x y w => by rw [hg, hb]; rfl⟩
theorem constI_ok {op : BinOp} {k k' : IntKind} {p q : Int} {r : AV} (h : constI op k p q = some r) (hk : k = k' ∨ op = .shl ∨ op = .shr) : BinR P op (.int k p) (.int k' q) r := by
  have hg : ∀ t x y, eqGuard op t x y (.int k p) (.int k' q) = pure () := fun t x y => eqGuard_at_int ..
  cases op <;> simp only [constI] at h <;> first | (cases h; done) | skip
  case shl =>
    split at h
    · cases h
    · rename_i hn
      cases h
      have hn : ¬ q < 0 := by rw [← isNg_iff]; simpa using hn
      exact binR_of rfl rfl hg fun t => by rw [binOp_shl]; simp [Op.shift, hn]
  case shr =>
    split at h
    · cases h
    · rename_i hn
      cases h
      have hn : ¬ q < 0 := by rw [← isNg_iff]; simpa using hn
      exact binR_of rfl rfl hg fun t => by rw [binOp_shr]; simp [Op.shift, hn]
  all_goals
    have hk : k = k' := by rcases hk with h | h | h <;> first | exact h | cases h
    subst hk
  case quo =>
    split at h
    · cases h
    · rename_i hn
      cases h
      have hn : ¬ q = 0 := by rw [← isZ_iff]; simpa using hn
      exact binR_of rfl rfl hg fun t => by rw [binOp_quo]; simp [Op.intDiv, hn]
  case rem =>
    split at h
    · cases h
    · rename_i hn
      cases h
      have hn : ¬ q = 0 := by rw [← isZ_iff]; simpa using hn
      exact binR_of rfl rfl hg fun t => by rw [binOp_rem]; simp [Op.intDiv, hn]
  case and => cases h; exact binR_of rfl rfl hg fun t => by rw [binOp_and]; rfl
  case or => cases h; exact binR_of rfl rfl hg fun t => by rw [binOp_or]; rfl
  case xor => cases h; exact binR_of rfl rfl hg fun t => by rw [binOp_xor]; rfl
  case andNot => cases h; exact binR_of rfl rfl hg fun t => by rw [binOp_andNot]; rfl
theorem lkNl_ok (ok : cfg.OK) {op : BinOp} {k : IntKind} {x y z : Lin} (h : lkNl cfg.nl op k x y = some z) : BinR P op (.int k x.val) (.int k y.val) (mkI k z) :=
  binR_of (v := .int k z.val) (mkI_vl _ _) rfl (fun t x y => eqGuard_at_int ..) (fun t => ok.nl _ _ _ _ _ (lkNl_mem h) t)
theorem lessL_val : ∀ {x y : List Nat}, (∀ n ∈ x, n < 256) → (∀ n ∈ y, n < 256) → Op.bytesLess (x.map UInt8.ofNat) (y.map UInt8.ofNat) = lessL x y
  | [], [], _, _ => rfl
  | [], _ :: _, _, _ => rfl
  | _ :: _, [], _, _ => rfl
  | a :: r, b :: q, hx, hy => by
    have ha := hx a (by simp)
    have hb := hy b (by simp)
    simp only [List.map_cons, Op.bytesLess, lessL]
    have ih := lessL_val (x := r) (y := q) (fun n hn => hx n (by simp [hn])) (fun n hn => hy n (by simp [hn]))
    have e1 : (UInt8.ofNat a < UInt8.ofNat b) ↔ a < b := by rw [UInt8.lt_iff_toNat_lt]; simp; omega
    have e2 : (UInt8.ofNat a == UInt8.ofNat b) = decide (a = b) := by
      rw [Bool.eq_iff_iff]; simp
      constructor
      · intro h; have := congrArg UInt8.toNat h; simp at this; omega
      · intro h; rw [h]
    cases h : Nat.beq a b with
    | true =>
      have := Nat.eq_of_beq_eq_true h
      subst this
      simp [ih]
    | false =>
      have : a ≠ b := Nat.ne_of_beq_eq_false h
      simp only [e2, ih]
      rw [Bool.eq_iff_iff]
      simp [e1, this, Nat.blt_eq]
theorem binI_ok (ok : cfg.OK) {op : BinOp} {k k' : IntKind} {x y : Lin} {r : AV} (h : binI cfg op k x y k' = some r) : BinR P op (.int k x.val) (.int k' y.val) r := by
  have hg : ∀ t u v, eqGuard op t u v (.int k x.val) (.int k' y.val) = pure () := fun t u v => eqGuard_at_int ..
  have two : ∀ {op' : BinOp}, op = op' → (op' = .shl ∨ op' = .shr) → (match linC x, linC y with
      | some p, some q => constI op' k p q
      | _, _ => none) = some r → BinR P op (.int k x.val) (.int k' y.val) r := by
    intro op' e ho h
    subst e
    split at h
    · rename_i p q hp hq
      rw [linC_val hp, linC_val hq]
      exact constI_ok h (.inr ho)
    · cases h
  unfold binI at h
  split at h
  · exact two rfl (.inl rfl) h
  · exact two rfl (.inr rfl) h
  · split at h
    · cases h
    · rename_i hkk
      have hkk := of_decide_eq_true hkk
      subst hkk
      split at h
      · exact binR_of (fitI_vl ok h) rfl hg fun t => by rw [binOp_add]; simp [Op.intArith]
      · exact binR_of (fitI_vl ok h) rfl hg fun t => by rw [binOp_sub]; simp [Op.intArith]
      · split at h
        · rename_i p hp
          exact binR_of (fitI_vl ok h) rfl hg fun t => by rw [binOp_mul]; simp [Op.intArith, linC_val hp]
        · rename_i q hq _
          exact binR_of (fitI_vl ok h) rfl hg fun t => by rw [binOp_mul]; simp [Op.intArith, linC_val hq, Int.mul_comm]
        · obtain ⟨z, hz, rfl⟩ := Option.map_eq_some_iff.1 h
          exact lkNl_ok ok hz
      · cases h; exact binR_of (ltB_vl ok _ _) rfl hg fun t => by rw [binOp_lss]; simp; congr 2; simp; omega
      · cases h; exact binR_of (ltB_vl ok _ _) rfl hg fun t => by rw [binOp_gtr]; simp; congr 2; simp; omega
      · cases h; exact binR_of (ltB_vl ok _ _) rfl hg fun t => by
          have e : decide (x.val ≤ y.val) = !decide (y.val - x.val < 0) := by rw [Bool.eq_iff_iff]; simp
          rw [binOp_leq, e]; simp
      · cases h; exact binR_of (ltB_vl ok _ _) rfl hg fun t => by
          have e : decide (x.val ≥ y.val) = !decide (x.val - y.val < 0) := by rw [Bool.eq_iff_iff]; simp
          rw [binOp_geq, e]; simp
      · cases h; exact binR_of (eqB_vl ok _ _) rfl hg fun t => by
          have e : (x.val == y.val) = decide (x.val - y.val = 0) := by rw [Bool.eq_iff_iff]; simp; omega
          rw [binOp_eql, e]; simp
      · cases h; exact binR_of (eqB_vl ok _ _) rfl hg fun t => by
          have e : (x.val != y.val) = !decide (x.val - y.val = 0) := by rw [Bool.eq_iff_iff]; simp; omega
          rw [binOp_neq, e]; simp
      · split at h
        · rename_i p q hp hq
          rw [linC_val hp, linC_val hq]
          exact constI_ok h (.inl rfl)
        · obtain ⟨z, hz, rfl⟩ := Option.map_eq_some_iff.1 h
          exact lkNl_ok ok hz
end
end Go.Abs
end
section
namespace Go.Abs
variable [VL]
section
variable {cfg : Cfg} {P : Program} {o : Oper} {E : Env} {H : Hp}
theorem allB8_val {ps : List SP} {l : List Nat} (h : allB8 ps = some l) : ps.flatMap SP.val = l.map UInt8.ofNat ∧ ∀ n ∈ l, n < 256 := by
  unfold allB8 at h
  split at h
  · rename_i m hm
    split at h
    · rename_i ha
      cases h
      exact ⟨allB_val hm, fun n hn => by simpa [Nat.blt_eq] using List.all_eq_true.1 ha n hn⟩
    · cases h
  · cases h
theorem toList_sval (ps : List SP) : (sval ps).toList = ps.flatMap SP.val := by
  simp [sval, ByteArray.toList_eq]
theorem binS_ok (ok : cfg.OK) {op : BinOp} {x y : List SP} {r : AV} (h : binS cfg op x y = some r) : BinR P op (.string (sval x)) (.string (sval y)) r := by
  have hg : ∀ t u v, eqGuard op t u v (.string (sval x)) (.string (sval y)) = pure () := fun t u v => eqGuard_at_string ..
  have less : ∀ {l m : List Nat}, allB8 x = some l → allB8 y = some m → Op.bytesLess (sval x).toList (sval y).toList = lessL l m ∧ Op.bytesLess (sval y).toList (sval x).toList = lessL m l := by
    intro l m h1 h2
    have a := allB8_val h1
    have b := allB8_val h2
    rw [toList_sval, toList_sval, a.1, b.1]
    exact ⟨lessL_val a.2 b.2, lessL_val b.2 a.2⟩
  unfold binS at h
  split at h
  · split at h
    · rename_i l m hl hm
      split at h
      · rename_i hb
        cases h
        have h1 := slen_val ok hl
        have h2 := slen_val ok hm
        have h3 := nng_val ok hb
        simp at h3
        refine ⟨_, mkS_vl _, rfl, fun t u v w => ?_⟩
        rw [show eqGuard .add t u v (.string (sval x)) (.string (sval y)) = pure () from rfl, binOp_string_add]
        have hsz : ¬ (((sval x).size + (sval y).size : Nat) : Int) > IntKind.i64.max := by
          rw [sval_size, sval_size]
          have : IntKind.i64.max = 9223372036854775807 := by decide
          rw [this]; omega
        have hs2 : ¬ (IntKind.i64.max < ((sval x).size : Int) + ((sval y).size : Int)) := by
          have := hsz; push_cast at this; exact this
        have hs3 : ¬ ((((sval x).size + (sval y).size : Nat) : Int) > IntKind.i64.max) := hsz
        simp only [Op.stringOp, if_neg hs3, sval_append]
        rfl
      · cases h
    · cases h
  · cases h
    refine ⟨_, mkB_vl ok (a := .seq x y) (fun b hb => ?_), rfl, fun t u v w => ?_⟩
    · have := seqD_val ok hb
      simp only [BA.val, sval_inj]; exact this
    · rw [hg, binOp_string_eql]
      have : ((sval x).toList == (sval y).toList) = decide (sval x = sval y) := bytes_eq _ _
      simp [this, BA.val]
  · cases h
    refine ⟨_, mkB_vl ok (a := .seq x y) (fun b hb => ?_), rfl, fun t u v w => ?_⟩
    · have := seqD_val ok hb
      simp only [BA.val, sval_inj]; exact this
    · rw [hg, binOp_string_neq]
      have : ((sval x).toList == (sval y).toList) = decide (sval x = sval y) := bytes_eq _ _
      simp [this, BA.val]
  · split at h
    · rename_i l m h1 h2
      cases h
      exact ⟨_, rfl, rfl, fun t u v w => by rw [hg, binOp_string_lss, (less h1 h2).1]; rfl⟩
    · cases h
  · split at h
    · rename_i l m h1 h2
      cases h
      exact ⟨_, rfl, rfl, fun t u v w => by rw [hg, binOp_string_geq, (less h1 h2).1]; rfl⟩
    · cases h
  · cases h

/-- what an operation on two values comes to: one of these -/
def BinM (P : Program) (H : Hp) (op : BinOp) (t : TypeId) (x y : AV) (l : List AV) : Prop := ∀ (s : Sg) (w : World) (px py : Value), (∀ k B, H k = some B → s.hp k = some B) → Rel s w x px → Rel s w y py →
  ∃ r ∈ l, ∃ v, r.vl = some v ∧ v.oneCell' = true ∧ ∀ (u u' : Operand), (do eqGuard op t u u' px py; binOp op t px py : Sem Value).run P w = .ok v w
theorem BinR.m {op : BinOp} {t : TypeId} {x y r : AV} {p q : Value} (h : BinR P op p q r) (hx : x.vl = some p) (hy : y.vl = some q) : BinM P H op t x y [r] := by
  intro s w px py hH h1 h2
  obtain ⟨v, h3, h4, h5⟩ := h
  rw [h1.vl_eq hx, h2.vl_eq hy]
  exact ⟨r, by simp, v, h3, h4, fun u u' => h5 t u u' w⟩
def opN : Bool → BinOp
  | false => .eql
  | true => .neq
theorem boolM {n b : Bool} {op : BinOp} {t : TypeId} {x y : AV} (h : ∀ (s : Sg) (w : World) (px py : Value), (∀ k B, H k = some B → s.hp k = some B) → Rel s w x px → Rel s w y py → ∀ (u u' : Operand), (do eqGuard op t u u' px py; binOp op t px py : Sem Value).run P w = .ok (.bool (Bool.xor n b)) w) : BinM P H op t x y (someB n b) :=
  fun s w px py hH h1 h2 => ⟨.lit (.bool (Bool.xor n b)), by simp [someB], .bool (Bool.xor n b), rfl, rfl, fun u u' => h s w px py hH h1 h2 u u'⟩

/-- the plain values of cells -/
def vls : List AV → Option (List Value)
  | [] => some []
  | x :: r => match x.vl, vls r with
    | some v, some l => some (v :: l)
    | _, _ => none
theorem vls_get : ∀ {xs : List AV} {us : List Value}, vls xs = some us → xs.length = us.length ∧ ∀ (i : Nat) (x : AV) (u : Value), xs[i]? = some x → us[i]? = some u → x.vl = some u
  | [], us, h => by cases h; simp
  | x :: r, us, h => by
    simp only [vls] at h
    split at h
    · rename_i v l h1 h2
      cases h
      obtain ⟨h3, h4⟩ := vls_get h2
      refine ⟨by simp [h3], fun i y u hy hu => ?_⟩
      cases i with
      | zero => simp at hy hu; subst hy; subst hu; exact h1
      | succ i => exact h4 i y u (by simpa using hy) (by simpa using hu)
    · cases h
theorem agg_vls {s : Sg} {w : World} {xs : List AV} {us : List Value} {v : Value} (h : Rel s w (.agg xs) v) (hv : vls xs = some us) : v = .agg us.toArray := by
  obtain ⟨hl, hg⟩ := vls_get hv
  cases h with
  | rep h => cases h
  | @agg _ vs hl' h =>
    congr 1
    apply Array.ext'
    apply List.ext_getElem?
    intro i
    by_cases hi : i < xs.length
    · have h1 : xs[i]? = some xs[i] := List.getElem?_eq_getElem hi
      have h2 : vs[i]? = some (vs[i]'(by omega)) := Array.getElem?_eq_getElem _
      have h3 : us[i]? = some (us[i]'(by omega)) := List.getElem?_eq_getElem _
      have := (h i _ _ h1 h2).vl_eq (hg i _ _ h1 h3)
      simp [h2, h3, this]
    · simp [show ¬ i < vs.size by omega, show ¬ i < us.length by omega]

theorem eqF_ok (ok : cfg.OK) {k : SK} {x y : AV} {d : Option Bool} (h : eqF cfg k x y = some d) : ∃ u v, x.vl = some u ∧ y.vl = some v ∧ conf k u v = true ∧ ∀ b, d = some b → eqV1 u v = b := by
  cases k <;> simp only [eqF] at h
  · split at h
    · rename_i a b ha hb
      cases h
      exact ⟨_, _, bv_vl ok ha, bv_vl ok hb, rfl, fun c hc => by cases hc; rfl⟩
    · cases h
  · split at h
    · rename_i l m hl hm
      cases h
      refine ⟨_, _, sOf_vl hl, sOf_vl hm, rfl, fun b hb => ?_⟩
      have := seqD_val ok hb
      simp only [eqV1, sval_inj]; exact this
    · cases h
  · split at h
    · rename_i k l k' m hl hm
      split at h
      · rename_i hk
        cases h
        refine ⟨_, _, iOf_vl hl, iOf_vl hm, hk, fun b hb => ?_⟩
        have := eqz_val ok hb
        simp only [eqV1]
        rw [← this, Bool.eq_iff_iff]; simp; omega
      · cases h
    · cases h
theorem eqFs_ok (ok : cfg.OK) : ∀ {ks : List SK} {xs ys : List AV} {d : Option Bool}, eqFs cfg ks xs ys = some d → ∃ us vs, vls xs = some us ∧ vls ys = some vs ∧ confs ks us vs = true ∧ ∀ b, d = some b → eqVs us vs = b
  | [], [], [], d, h => by cases h; exact ⟨[], [], rfl, rfl, rfl, fun b hb => by cases hb; rfl⟩
  | k :: ks, x :: r, y :: q, d, h => by
    simp only [eqFs] at h
    split at h
    · rename_i a b ha hb
      cases h
      obtain ⟨u, v, h1, h2, h3, h4⟩ := eqF_ok ok ha
      obtain ⟨us, vs, h5, h6, h7, h8⟩ := eqFs_ok ok hb
      refine ⟨u :: us, v :: vs, by simp [vls, h1, h5], by simp [vls, h2, h6], by simp [confs, h3, h7], fun c hc => ?_⟩
      simp only [eqVs]
      rcases a with _ | _ | _ <;> rcases b with _ | _ | _ <;> simp only [andO] at hc <;> first | (cases hc; done) | skip
      all_goals (cases hc)
      · simp [h8 false rfl]
      · simp [h4 false rfl]
      · simp [h4 false rfl]
      · simp [h4 false rfl]
      · simp [h8 false rfl]
      · simp [h4 true rfl, h8 true rfl]
    · cases h
  | [], _ :: _, _, _, h => by cases h
  | [], [], _ :: _, _, h => by cases h
  | _ :: _, [], _, _, h => by cases h
  | _ :: _, _ :: _, [], _, h => by cases h
/-- the facts on the types that the walker is told of -/
def FtOK (cfg : Cfg) (P : Program) : Prop := ∀ t ks, lk2 cfg.ft t = some ks → FlatT P t ks
theorem eqV_ok {H : HL} (ok : cfg.OK) (ft : FtOK cfg P) {n : Bool} {t : TypeId} {x y : AV} {l : List AV} (h : eqV cfg P H n t x y = some l) : BinM P (lkH H) (opN n) t x y l := by
  have ptr : ptrT P t = true → P.underlying t = some (.pointer (P.pointee t)) := by
    intro h
    unfold ptrT at h
    split at h
    · rename_i e hu; unfold Program.pointee; rw [hu]
    · cases h
  have ptr2 : ptrT P t = true → ∃ te j, P.underlying t = some (.pointer te) ∧ P.info? te = some j := by
    intro h
    unfold ptrT at h
    split at h
    · rename_i e hu
      obtain ⟨j, hj⟩ := Option.isSome_iff_exists.1 h
      exact ⟨e, j, hu, hj⟩
    · cases h
  have mp : mpT P t = true → ∃ k e, P.underlying t = some (.map k e) := by
    intro h
    unfold mpT at h
    split at h
    · rename_i k e hu; exact ⟨k, e, hu⟩
    · cases h
  have sl : slT P t = true → ∃ e, P.underlying t = some (.slice e) := by
    intro h
    unfold slT at h
    split at h
    · rename_i e hu; exact ⟨e, hu⟩
    · cases h
  unfold eqV at h
  split at h
  · -- structs
    split at h
    · rename_i ks hks
      split at h
      · rename_i b hb
        cases h
        obtain ⟨us, vs, h1, h2, h3, h4⟩ := eqFs_ok ok hb
        have T := ft _ _ hks
        obtain ⟨fs, hu, hk⟩ := T.un
        have hr := eqFlat hu T.st hk h3
        refine boolM fun s w px py hH hx hy u u' => ?_
        rw [agg_vls hx h1, agg_vls hy h2]
        have hb := h4 b rfl
        cases n
        · simp only [opN]
          simp [run_eqGuard_agg w _ t _ _ _ _ T.eq, run_eql_struct, hr, hb]
        · simp only [opN]
          simp [run_eqGuard_agg w _ t _ _ _ _ T.eq, run_neq_struct, hr, hb]
      · cases h
    · cases h
  · split at h
    · rename_i hp
      cases h
      refine boolM fun s w px py hH hx hy u u' => ?_
      rw [Rel.lit_eq hx, Rel.lit_eq hy]
      have hq := ptr hp
      cases n
      · simp [opN, eqGuard_at_pointer, run_eql_pointer_nil, hq]
      · simp [opN, eqGuard_at_pointer, run_neq_pointer_nil, hq]
    · cases h
  · split at h
    · rename_i hp
      cases h
      obtain ⟨k, e, hu⟩ := mp hp
      refine boolM fun s w px py hH hx hy u u' => ?_
      rw [Rel.lit_eq hy]
      cases hx with
      | rep h => cases h
      | mp h =>
        cases n
        · simp [opN, eqGuard_at_map, Go.run_eql_map_nil w t k e _ hu]
        · simp [opN, eqGuard_at_map, Go.run_neq_map_nil w t k e _ hu]
    · cases h
  · split at h
    · rename_i hp
      cases h
      obtain ⟨k, e, hu⟩ := mp hp
      refine boolM fun s w px py hH hx hy u u' => ?_
      rw [Rel.lit_eq hx, Rel.lit_eq hy]
      cases n
      · simp [opN, eqGuard_at_map, Go.run_eql_map_nil w t k e _ hu]
      · simp [opN, eqGuard_at_map, Go.run_neq_map_nil w t k e _ hu]
    · cases h
  · split at h
    · rename_i hb
      cases h
      simp only [Bool.and_eq_true] at hb
      obtain ⟨⟨⟨⟨h1, h2⟩, h3⟩, h4⟩, h5⟩ := hb
      have hq := ptr h5
      rw [← Nat.eq_of_beq_eq_true h1, ← Nat.eq_of_beq_eq_true h2, ← Nat.eq_of_beq_eq_true h3, ← Nat.eq_of_beq_eq_true h4]
      refine boolM fun s w px py hH hx hy u u' => ?_
      have hpp : ∃ a, px = .pointer (some a) ∧ py = .pointer (some a) := by
        cases hx with
        | rep h => cases h
        | ptr hx =>
          cases hy with
          | rep h => cases h
          | ptr hy => rw [hx] at hy; cases hy; exact ⟨_, rfl, rfl⟩
      obtain ⟨a, rfl, rfl⟩ := hpp
      obtain ⟨te, j, hp, hte⟩ := ptr2 h5
      have h0 : ∀ d : Nat, (Op.equalIn (d + 1) t (.pointer (some a)) (.pointer (some a))).run P w = .ok true w := fun d => by
        simp [Op.equalIn, run_underlying hp, sizeOf, typeInfo, hte, run_sameAddr_same]
      cases n
      · simp only [opN, eqGuard_at_pointer, binOp]
        simp [Op.equal, Op.maxDepth, h0 9999]
      · simp only [opN, eqGuard_at_pointer, binOp]
        simp [Op.equal, Op.maxDepth, h0 9999]
    · cases h
  · split at h
    · rename_i hb
      cases h
      simp only [Bool.and_eq_true] at hb
      have hq := ptr hb.2
      refine boolM fun s w px py hH hx hy u u' => ?_
      obtain ⟨ad, rfl⟩ := there_ptr hx hb.1
      rw [Rel.lit_eq hy]
      cases n
      · simp [opN, eqGuard_at_pointer, run_eql_pointer_nil, hq]
      · simp [opN, eqGuard_at_pointer, run_neq_pointer_nil, hq]
    · cases h
  · split at h
    · rename_i hs
      obtain ⟨e, hu⟩ := sl hs
      have run : ∀ (w : World) (A : Option Addr) (m c : Nat) (u u' : Operand), (do eqGuard (opN n) t u u' (.slice A m c) (.slice none 0 0); binOp (opN n) t (.slice A m c) (.slice none 0 0) : Sem Value).run P w = .ok (.bool (Bool.xor n A.isNone)) w := by
        intro w A m c u u'
        cases n
        · have h0 : ∀ d, (Op.equalIn (d + 1) t (.slice A m c) (.slice none 0 0)).run P w = .ok A.isNone w := by intro d; cases A <;> simp [Op.equalIn, run_underlying hu]
          have h1 := h0 9999
          simp only [opN, eqGuard_at_slice, binOp]
          simp [Op.equal, Op.maxDepth, h1]
        · simp [opN, eqGuard_at_slice, run_neq_slice_nil_any w t e A m c 0 0 hu]
      have two : ∀ (x : AV), (∀ (s : Sg) (w : World) (px : Value), Rel s w x px → ∃ A m c, px = .slice A m c) → BinM P (lkH H) (opN n) t x (.lit (.slice none 0 0)) [.lit (.bool true), .lit (.bool false)] := by
        intro x hx s w px py hH h1 h2
        obtain ⟨A, m, c, rfl⟩ := hx s w px h1
        rw [Rel.lit_eq h2]
        refine ⟨.lit (.bool (Bool.xor n A.isNone)), ?_, _, rfl, rfl, fun u u' => run w A m c u u'⟩
        cases n <;> cases A <;> simp
      have non : ∀ (x : AV), (∀ (s : Sg) (w : World) (px : Value), (∀ k B, lkH H k = some B → s.hp k = some B) → Rel s w x px → ∃ A m c, px = .slice (some A) m c) → BinM P (lkH H) (opN n) t x (.lit (.slice none 0 0)) (someB n false) := by
        intro x hx
        refine boolM fun s w px py hH h1 h2 u u' => ?_
        obtain ⟨A, m, c, rfl⟩ := hx s w px hH h1
        rw [Rel.lit_eq h2]
        have := run w (some A) m c u u'
        simpa using this
      split at h
      · cases h
        refine boolM fun s w px py hH hx hy u u' => ?_
        rw [Rel.lit_eq hx, Rel.lit_eq hy]
        have := run w none 0 0 u u'
        simpa using this
      · cases h
        refine non _ fun s w px hH hx => ?_
        cases hx with
        | rep h => cases h with
          | ro => exact ⟨_, _, _, rfl⟩
      · cases h
        refine two _ fun s w px hx => ?_
        cases hx with
        | rep h => cases h with
          | nil => exact ⟨_, _, _, rfl⟩
          | ro => exact ⟨_, _, _, rfl⟩
      · split at h
        · rename_i hk
          cases h
          obtain ⟨B, hB⟩ := Option.isSome_iff_exists.1 hk
          refine non _ fun s w px hH hx => ?_
          cases hx with
          | rep h => cases h
          | sl => exact ⟨_, _, _, rfl⟩
          | slg _ hp => rw [hH _ _ (lkH_den hB)] at hp; cases hp
        · cases h
      · cases h
        refine two _ fun s w px hx => ?_
        cases hx with
        | rep h => cases h
        | sl => exact ⟨_, _, _, rfl⟩
        | sln => exact ⟨_, _, _, rfl⟩
        | slg => exact ⟨_, _, _, rfl⟩
      · cases h
    · cases h
  · cases h
end
end Go.Abs
end
section
namespace Go.Abs
variable [VL]
section
variable {cfg : Cfg} {P : Program} {o : Oper} {E : Env} {H : HL}
theorem boolOf_vl {x : AV} (h : boolOf x = some ()) : ∃ b, x.vl = some (.bool b) := by
  unfold boolOf at h
  split at h
  · exact ⟨_, rfl⟩
  · exact ⟨_, rfl⟩
  · cases h
theorem binV_ok (ok : cfg.OK) (ft : FtOK cfg P) {op : BinOp} {t : TypeId} {x y : AV} {l : List AV} (h : binV cfg P H op t x y = some l) : BinM P (lkH H) op t x y l := by
  unfold binV at h
  split at h
  · rename_i k p k' q hp hq
    obtain ⟨r, hr, rfl⟩ := Option.map_eq_some_iff.1 h
    exact (binI_ok ok hr).m (iOf_vl hp) (iOf_vl hq)
  · split at h
    · rename_i p q hp hq
      obtain ⟨r, hr, rfl⟩ := Option.map_eq_some_iff.1 h
      exact (binS_ok ok hr).m (sOf_vl hp) (sOf_vl hq)
    · split at h
      · split at h
        · rename_i a b ha hb
          split at h
          · rename_i hu
            have va := bv_vl ok ha
            have vb := bv_vl ok hb
            split at h
            · cases h
              intro s w px py hH h1 h2
              rw [h1.vl_eq va, h2.vl_eq vb]
              exact ⟨.lit (.bool (a == b)), by simp, .bool (a == b), rfl, rfl, fun u u' => by simp [eqGuard_at_bool, run_eql_bool, hu]⟩
            · cases h
              intro s w px py hH h1 h2
              rw [h1.vl_eq va, h2.vl_eq vb]
              exact ⟨.lit (.bool (!(a == b))), by simp, .bool (!(a == b)), rfl, rfl, fun u u' => by simp [eqGuard_at_bool, run_neq_bool, hu]⟩
            · cases h
          · cases h
        · cases h
      · split at h
        · exact eqV_ok ok ft h
        · exact eqV_ok ok ft h
        · cases h

/-- an operation on one plain value -/
theorem AOp.unVal {op : UnOp} {t : TypeId} {x : Operand} {ax ar : AV} {p r : Value} (ho : o.op = .unOp op t x) (hx : evO E x = some ax) (hax : ax.vl = some p) {Hp : Hp}
    (hr : ∀ w : World, (Op.unary op p : Sem Value).run P w = .ok r w) (har : ar.vl = some r) (h1 : r.oneCell' = true) : AOp P o E Hp [] (some ar) [] :=
  AOp.reads fun s w a _ hE _ => by
    have e1 := (evO_rel hE hx).vl_eq hax
    refine ⟨r, ?_, vl_rel har h1⟩
    simp only [execOp, ho, e1]
    rw [Sem.run_bind, hr w]
    rfl
theorem unV_ok (ok : cfg.OK) {Hp : Hp} {op : UnOp} {t : TypeId} {x : Operand} {ax r : AV} (h : unV cfg op ax = some r) (ho : o.op = .unOp op t x) (hx : evO E x = some ax) : AOp P o E Hp [] (some r) [] := by
  unfold unV at h
  split at h
  · split at h
    · cases h
      exact AOp.unVal ho hx rfl (fun w => rfl) rfl rfl
    · rename_i n a
      split at h
      · rename_i b hb
        cases h
        exact AOp.unVal ho hx (bv_vl ok hb) (fun w => rfl) rfl rfl
      · cases h
        exact AOp.unVal ho hx rfl (fun w => rfl) (by show some (Value.bool (Bool.xor (!n) a.val)) = some (Value.bool (!(Bool.xor n a.val))); cases n <;> cases a.val <;> rfl) rfl
    · cases h
  · split at h
    · rename_i k l hl
      refine AOp.unVal ho hx (iOf_vl hl) (r := .int k (k.wrap (- l.val))) (fun w => ?_) (by rw [fitI_vl ok h]; simp) rfl
      simp [Op.unary, Op.intArith]
    · cases h
  · cases h

theorem szOf_eq {t : TypeId} {n : Nat} (h : szOf P t = some n) : (P.info? t).map (·.size) = some n := h
theorem zOf_eq {t : TypeId} {z : Value} (h : zOf P t = some z) : (P.info? t).bind (·.zero) = some z ∧ z.cells.toList.all (·.oneCell') = true := by
  unfold zOf at h
  split at h
  · rename_i z' hz
    split at h
    · rename_i ha; cases h; exact ⟨hz, ha⟩
    · cases h
  · cases h
theorem elOf_eq {t el : TypeId} (h : elOf P t = some el) : P.underlying t = some (.slice el) := by
  unfold elOf at h
  split at h
  · rename_i e hu; cases h; exact hu
  · cases h
theorem arrOf_eq {t el : TypeId} {n : Nat} (h : arrOf P t = some (n, el)) : P.underlying t = some (.array n el) := by
  unfold arrOf at h
  split at h
  · rename_i e hu; cases h; exact hu
  · cases h
theorem isStr_eq {t : TypeId} (h : isStr P t = true) : P.underlying t = some .string := by
  unfold isStr at h
  split at h
  · rename_i hu; exact hu
  · cases h
theorem ikOf_eq {t : TypeId} {k : IntKind} (h : ikOf P t = some k) : P.underlying t = some (.int k) := by
  unfold ikOf at h
  split at h
  · rename_i hu; cases h; exact hu
  · cases h
theorem elT_eq {t el : TypeId} {esz bytes : Nat} {z : Value} (h : elT P t = some (el, esz, bytes, z)) : ElT P t el esz bytes ∧ (P.info? el).bind (·.zero) = some z ∧ z.cells.toList.all (·.oneCell') = true ∧ z.cells.size = esz ∧ (P.info? el).map (fun i => (i.size, i.bytes)) = some (esz, bytes) := by
  unfold elT at h
  split at h
  · rename_i e he
    split at h
    · rename_i i z' hi hz
      split at h
      · rename_i hb
        cases h
        simp only [Bool.and_eq_true] at hb
        have h1 := Nat.eq_of_beq_eq_true hb.1
        have h2 : 0 < i.size := by simpa [Nat.blt_eq] using hb.2
        obtain ⟨h3, h4⟩ := zOf_eq hz
        refine ⟨⟨elOf_eq he, ?_, h2⟩, h3, h4, h1, by simp [hi]⟩
        rw [hi] at h3 ⊢
        have h3 : i.zero = some z := h3
        simp [h3, h1]
      · cases h
    · cases h
  · cases h
theorem beq2 {a b c d : Nat} (h : (Nat.beq a b && Nat.beq c d) = true) : a = b ∧ c = d := by
  simp only [Bool.and_eq_true] at h
  exact ⟨Nat.eq_of_beq_eq_true h.1, Nat.eq_of_beq_eq_true h.2⟩

theorem as_false (x : AV) : x.as false = x := rfl
theorem map_as (l : List AV) : l.map (·.as false) = l := by
  have : (fun x : AV => x.as false) = id := rfl
  rw [this]; simp
theorem loadV_ok {t : TypeId} {x : Operand} {p r : AV} (h : loadV P H t p = some r) (ho : o.op = .load t x) (hx : evO E x = some p) : AOp P o E (lkH H) [] (some r) [] := by
  unfold loadV at h
  split at h
  · rename_i k esz e j ha
    split at h
    · rename_i cells hk
      split at h
      · rename_i hb
        obtain ⟨rfl, rfl⟩ := beq2 hb
        exact AOp.load1 ha ho hx (lkH_of hk) h
      · cases h
    · rename_i esz' els hk
      split at h
      · rename_i row hb he
        have hb := Nat.eq_of_beq_eq_true hb
        subst hb
        exact AOp.aload1 ha ho hx (lkH_of hk) he h
      · cases h
    · cases h
  · rename_i xs j ha
    exact AOp.rload1 ha ho hx h
  · rename_i k esz e j ha
    split at h
    · rename_i size cells hs hk
      split at h
      · rename_i hb
        cases h
        simp only [Bool.and_eq_true] at hb
        have h1 := Nat.eq_of_beq_eq_true hb.1.1
        have h2 := Nat.eq_of_beq_eq_true hb.1.2
        subst h1; subst h2
        exact AOp.loadN ha hs ho hx (lkH_of hk) (Nat.le_of_ble_eq_true hb.2)
      · cases h
    · rename_i size esz' els hs hk
      split at h
      · rename_i row hb he
        split at h
        · rename_i hle
          cases h
          have hb := Nat.eq_of_beq_eq_true hb
          subst hb
          have := AOp.aloadN ha hs ho hx (lkH_of hk) he (Nat.le_of_ble_eq_true hle)
          rwa [map_as] at this
        · cases h
      · cases h
    · cases h
  · rename_i xs j ha
    split at h
    · rename_i size hs
      split at h
      · rename_i hle
        cases h
        exact AOp.rloadN ha hs ho hx (Nat.le_of_ble_eq_true hle)
      · cases h
    · cases h
  · cases h
theorem isTup_ne {x : AV} (h : isTup x = false) : ∀ xs, x ≠ .tup xs := by
  intro xs e; subst e; cases h
theorem storeV_ok {t : TypeId} {x y : Operand} {p v : AV} {U : HL} (h : storeV P H t p v = some U) (ho : o.op = .store t x y) (hx : evO E x = some p) (hy : evO E y = some v) : AOp P o E (lkH H) [] none (denU U) := by
  unfold storeV at h
  split at h
  · rename_i size k esz e j hs
    split at h
    · rename_i hb
      simp only [Bool.and_eq_true, Bool.not_eq_true'] at hb
      obtain ⟨⟨h1, h2⟩, h3⟩ := hb
      have h2 := Nat.eq_of_beq_eq_true h2
      split at h
      · rename_i cells hk
        split at h
        · rename_i hc
          cases h
          simp only [Bool.and_eq_true] at hc
          have c1 := Nat.eq_of_beq_eq_true hc.1.1
          have c2 := Nat.eq_of_beq_eq_true hc.1.2
          subst c1; subst c2
          exact AOp.store hs ho hx hy (lkH_of hk) (isTup_ne h1) h3 h2 (Nat.le_of_ble_eq_true hc.2)
        · cases h
      · rename_i esz' els hk
        split at h
        · rename_i row ys hc he hbare
          split at h
          · rename_i hle
            cases h
            have hc := Nat.eq_of_beq_eq_true hc
            subst hc
            exact AOp.astore hs ho hx hy (lkH_of hk) he (isTup_ne h1) hbare h2 (Nat.le_of_ble_eq_true hle)
          · cases h
        · cases h
      · cases h
    · cases h
  · cases h
theorem faddrV_ok {Hp : Hp} {t : TypeId} {x : Operand} {i : Nat} {p r : AV} (h : faddrV P t i p = some r) (ho : o.op = .fieldAddr t x i) (hx : evO E x = some p) : AOp P o E Hp [] (some r) [] := by
  unfold faddrV at h
  split at h
  · rename_i off k esz e j hf; cases h; exact AOp.faddr hf ho hx
  · rename_i off xs j hf; cases h; exact AOp.faddr_rp hf ho hx
  · cases h
theorem nOf_eq {x : AV} {n : Nat} (h : nOf x = some n) : ∃ k, x = .lit (.int k (n : Int)) := by
  unfold nOf at h
  split at h
  · cases h; exact ⟨_, rfl⟩
  · cases h
theorem iaddrV_ok {t : TypeId} {x y : Operand} {p q r : AV} (h : iaddrV P H t p q = some r) (ho : o.op = .indexAddr t x y) (hx : evO E x = some p) (hy : evO E y = some q) : AOp P o E (lkH H) [] (some r) [] := by
  unfold iaddrV at h
  split at h
  · rename_i j hj
    obtain ⟨kd, rfl⟩ := nOf_eq hj
    split at h
    · rename_i k esz off n
      split at h
      · rename_i el hel
        split at h
        · rename_i s hs
          split at h
          · rename_i hb
            cases h
            simp only [Bool.and_eq_true] at hb
            obtain ⟨⟨h1, h2⟩, h3⟩ := hb
            have h1 := Nat.eq_of_beq_eq_true h1
            subst h1
            exact AOp.iaddr_sl (elOf_eq hel) hs ho hx hy rfl (by simpa [Nat.blt_eq] using h2) (by intro e; rw [← lkH_is, e] at h3; cases h3)
          · cases h
        · cases h
      · cases h
    · rename_i esz xs
      split at h
      · rename_i el hel
        split at h
        · rename_i s row hs hr
          split at h
          · rename_i hb
            cases h
            have h1 := Nat.eq_of_beq_eq_true hb
            subst h1
            exact AOp.iaddr_ro (elOf_eq hel) hs ho hx hy rfl hr
          · cases h
        · cases h
      · cases h
    · rename_i k off
      split at h
      · rename_i len el hel
        split at h
        · rename_i s hs
          split at h
          · rename_i hb
            cases h
            exact AOp.iaddr_arr (arrOf_eq hel) hs ho hx hy rfl (by simpa [Nat.blt_eq] using hb)
          · cases h
        · cases h
      · cases h
    · cases h
  · cases h

/-- reading a plain value out of a value: an operation whose answer is known at each -/
theorem AOp.val {Hp : Hp} {r : AV} {v : Value} (hv : r.vl = some v) (h1 : v.oneCell' = true) (h : ∀ (s : Sg) (w : World) (a : Act), OK s w → (∀ t av, E t = some av → Rel s w av (a.tmps.getD t undef)) → (∀ k B, Hp k = some B → s.hp k = some B) → (execOp a.eval o).run P w = .ok (.value v) w) : AOp P o E Hp [] (some r) [] :=
  AOp.reads fun s w a ok hE hH => ⟨v, h s w a ok hE hH, vl_rel hv h1⟩
theorem lenV_ok (ok : cfg.OK) {t : TypeId} {x : Operand} {p r : AV} (h : lenV cfg P H t p = some r) (ho : o.op = .call { callee := .builtin .len, args := #[x], argTypes := #[t] }) (hx : evO E x = some p) : AOp P o E (lkH H) [] (some r) [] := by
  unfold lenV at h
  split at h
  · rename_i hs
    split at h
    · rename_i l hl
      obtain ⟨y, hy, rfl⟩ := Option.map_eq_some_iff.1 h
      have hvl := slen_val ok hy
      have hu := isStr_eq hs
      refine AOp.val (v := .int .i64 y.val) (mkI_vl _ _) rfl fun s w a _ hE _ => ?_
      have e1 := (evO_rel hE hx).vl_eq (sOf_vl hl)
      have : ((sval l).size : Int) = y.val := by rw [sval_size]; exact hvl
      simp [execOp, ho, resolve, invoke, builtin, Builtin.len_, e1, run_underlying hu, goInt, this]
    · cases h
  · split at h
    · rename_i el hel
      have hu := elOf_eq hel
      split at h
      · rename_i k _ off n
        split at h
        · rename_i hk
          cases h
          exact AOp.len_sl hu ho hx (by intro e; rw [← lkH_is, e] at hk; cases hk)
        · cases h
      · cases h; exact AOp.len_ro hu ho (.inl hx) rfl
      · cases h; exact AOp.len_nil hu ho hx
      · cases h
        refine AOp.val (v := .int .i64 0) rfl rfl fun s w a _ hE _ => ?_
        have e1 := evO_rel hE hx
        generalize hq : a.eval x = u at e1
        cases e1 with
        | rep h => cases h
        | emp =>
          simp [execOp, ho, resolve, invoke, builtin, Builtin.len_, hq, run_underlying hu, goInt]
      · cases h
    · split at h
      · rename_i hm
        have hu : ∃ k e, P.underlying t = some (.map k e) := by
          unfold mpT at hm
          split at hm
          · rename_i k e hu; exact ⟨k, e, hu⟩
          · cases hm
        obtain ⟨kt, el, hu⟩ := hu
        split at h
        · rename_i k
          split at h
          · rename_i es hk
            cases h
            refine AOp.val (v := .int .i64 es.length) rfl rfl fun s w a ok hE hH => ?_
            have e1 := evO_rel hE hx
            generalize hq : a.eval x = u at e1
            cases e1 with
            | rep h => cases h
            | @mp _ b hr =>
              obtain ⟨z', hz', b', ents, clock, rfl, hb, hes⟩ := ok.blk k _ (hH k _ (lkH_of hk))
              rw [hr] at hz'; cases hz'
              have hget : (getObj b).run P w = .ok (.map ents clock) w := by simp [getObj, Sem.run, hb]
              have hl : es.length = ents.size := by rw [← hes]; simp
              simp [execOp, ho, resolve, invoke, builtin, Builtin.len_, hq, run_underlying hu, hget, goInt, hl, Result.andThen]
          · cases h
        · cases h
          refine AOp.val (v := .int .i64 0) rfl rfl fun s w a ok hE hH => ?_
          have e1 := Rel.lit_eq (evO_rel hE hx)
          simp [execOp, ho, resolve, invoke, builtin, Builtin.len_, e1, run_underlying hu, goInt]
        · cases h
      · cases h

/-! ### maps -/
theorem findNow_eq (kd : TypeDesc) (q : Value) : ∀ (es : List MapEntry) (l : List (Value × Value)) (i : Nat), es.map (fun e => (e.key, e.val)) = l → Instr.findNow kd q es i = findM kd q l i
  | [], l, i, h => by subst h; rfl
  | e :: es, l, i, h => by
    subst h
    have ih := findNow_eq kd q es _ (i + 1) rfl
    simp only [Instr.findNow, List.map_cons, findM, ih]
    generalize Instr.sameNow kd q e.key = r
    rcases r with _ | _ | _ <;> rfl
theorem findM_lt (kd : TypeDesc) (q : Value) : ∀ (l : List (Value × Value)) (i j : Nat) (v : Value), findM kd q l i = some (some (j, v)) → i ≤ j ∧ j - i < l.length ∧ (l[j - i]?).map (·.2) = some v
  | [], i, j, v, h => by cases h
  | (k, u) :: r, i, j, v, h => by
    simp only [findM] at h
    split at h
    · cases h; simp
    · obtain ⟨h1, h2, h3⟩ := findM_lt kd q r _ _ _ h
      have : j - i = (j - (i + 1)) + 1 := by omega
      refine ⟨by omega, by simp; omega, ?_⟩
      rw [this, List.getElem?_cons_succ]; exact h3
    · cases h
theorem run_checkKey {kt : TypeId} {kd : TypeDesc} (h : P.underlying kt = some kd) (hk : kdOK kd = true) (e : Bool) (v : Value) (w : World) : (Instr.checkKey e 10000 kt v).run P w = .ok () w := by
  have : ∀ n, (Instr.checkKey e (n + 1) kt v).run P w = .ok () w := by
    intro n
    cases kd <;> first | (cases hk; done) | simp [Instr.checkKey, run_underlying h]
  exact this 9999
theorem mapT_eq {t : TypeId} {kd : TypeDesc} {z : Value} (h : mapT P t = some (kd, z)) : ∃ kt el, P.underlying t = some (.map kt el) ∧ P.underlying kt = some kd ∧ (P.info? el).bind (·.zero) = some z ∧ kdOK kd = true ∧ z.oneCell' = true := by
  unfold mapT at h
  split at h
  · rename_i kt el hu
    split at h
    · rename_i kd' z' hk hz
      split at h
      · rename_i hb
        cases h
        simp only [Bool.and_eq_true] at hb
        exact ⟨kt, el, hu, hk, (zOf_eq hz).1, hb.1, hb.2⟩
      · cases h
    · cases h
  · cases h
theorem keyOK_eq {y : AV} {q : Value} (h : keyOK y = some q) : y = .lit q := by
  unfold keyOK at h
  split at h <;> cases h <;> rfl
theorem litOf_eq {y : AV} {q : Value} (h : litOf y = some q) : y = .lit q := by
  unfold litOf at h
  split at h <;> cases h <;> rfl
theorem okV_rel {s : Sg} {w : World} {v : Value} (b : Bool) (h1 : v.oneCell' = true) (ok : Bool) : Rel s w (okV ok b v) (if ok then .tuple #[v, .bool b] else v) := by
  cases ok
  · exact .rep (.lit h1)
  · refine .tup rfl fun i av u ha hu => ?_
    rcases i with _ | _ | i
    · simp at ha hu; subst ha; subst hu; exact .rep (.lit h1)
    · simp at ha hu; subst ha; subst hu; exact .rep (.lit rfl)
    · simp at ha
theorem lookupV_ok {t : TypeId} {x y : Operand} {ok : Bool} {p q r : AV} (h : lookupV P H t p q ok = some r) (ho : o.op = .lookup t x y ok) (hx : evO E x = some p) (hy : evO E y = some q) : AOp P o E (lkH H) [] (some r) [] := by
  unfold lookupV at h
  split at h
  · rename_i kd z key hm hkey
    obtain ⟨kt, el, hu, hkt, hz, hkd, hz1⟩ := mapT_eq hm
    have := keyOK_eq hkey
    subst this
    obtain ⟨inf, hinf, hz⟩ := Option.bind_eq_some_iff.1 hz
    split at h
    · rename_i k
      split at h
      · rename_i es hk
        have run : ∀ (s : Sg) (w : World) (a : Act), OK s w → (∀ t av, E t = some av → Rel s w av (a.tmps.getD t undef)) → (∀ k B, lkH H k = some B → s.hp k = some B) → ∃ b ents clock, a.eval x = .map (some b) ∧ (getObj b).run P w = .ok (.map ents clock) w ∧ Instr.findNow kd key ents.toList 0 = findM kd key es 0 ∧ a.eval y = key := by
          intro s w a ok hE hH
          have e1 := evO_rel hE hx
          have e2 := Rel.lit_eq (evO_rel hE hy)
          generalize hq : a.eval x = u at e1
          cases e1 with
          | rep h => cases h
          | @mp _ b hr =>
            obtain ⟨z', hz', b', ents, clock, rfl, hb, hes⟩ := ok.blk k _ (hH k _ (lkH_of hk))
            rw [hr] at hz'; cases hz'
            exact ⟨b, ents, clock, rfl, by simp [getObj, Sem.run, hb], findNow_eq kd key _ _ 0 hes, e2⟩
        split at h
        · rename_i i v hf
          split at h
          · rename_i h1
            cases h
            refine AOp.reads fun s w a ok' hE hH => ?_
            obtain ⟨b, ents, clock, e1, hget, hfn, e2⟩ := run s w a ok' hE hH
            rw [hf] at hfn
            refine ⟨if ok then .tuple #[v, .bool true] else v, ?_, okV_rel true h1 ok⟩
            simp [execOp, ho, e1, e2, Instr.lookup, run_underlying hu, hget, run_checkKey hkt hkd, run_underlying hkt, Instr.findKey, hfn, Result.andThen]
          · cases h
        · rename_i hf
          cases h
          refine AOp.reads fun s w a ok' hE hH => ?_
          obtain ⟨b, ents, clock, e1, hget, hfn, e2⟩ := run s w a ok' hE hH
          rw [hf] at hfn
          refine ⟨if ok then .tuple #[z, .bool false] else z, ?_, okV_rel false hz1 ok⟩
          simp [execOp, ho, e1, e2, Instr.lookup, run_underlying hu, hget, run_checkKey hkt hkd, run_underlying hkt, Instr.findKey, hfn, zeroValue, typeInfo, hinf, hz, Result.andThen]
        · cases h
      · cases h
    · cases h
      refine AOp.reads fun s w a ok' hE hH => ?_
      have e1 := Rel.lit_eq (evO_rel hE hx)
      have e2 := Rel.lit_eq (evO_rel hE hy)
      refine ⟨if ok then .tuple #[z, .bool false] else z, ?_, okV_rel false hz1 ok⟩
      simp [execOp, ho, e1, e2, Instr.lookup, run_underlying hu, run_checkKey hkt hkd, run_underlying hkt, Instr.findKey, Instr.findNow, zeroValue, typeInfo, hinf, hz, Result.andThen]
    · cases h
  · cases h
theorem updateV_ok {t : TypeId} {x y z : Operand} {p q v : AV} {U : HL} (h : updateV P H t p q v = some U) (ho : o.op = .mapUpdate t x y z) (hx : evO E x = some p) (hy : evO E y = some q) (hz : evO E z = some v) : AOp P o E (lkH H) [] none (denU U) := by
  unfold updateV at h
  split at h
  · rename_i kd z0 kv u hm hkey hlit
    obtain ⟨kt, el, hu, hkt, _, hkd, _⟩ := mapT_eq hm
    have := keyOK_eq hkey
    subst this
    have := litOf_eq hlit
    subst this
    split at h
    · rename_i k
      split at h
      · rename_i es hk
        have key : ∀ {es' : List (Value × Value)}, (∀ (ents : Array MapEntry) (clock : Nat), ents.toList.map (fun e => (e.key, e.val)) = es → ∃ ents' clock', ents'.toList.map (fun (e : MapEntry) => (e.key, e.val)) = es' ∧ ∀ (w : World) (b : Nat), w.heap[b]? = some (.map ents clock) →
            (Instr.mapUpdate t (.map (some b)) kv u).run P w = .ok () { w with heap := w.heap.setIfInBounds b (.map ents' clock') }) → AOp P o E (lkH H) [] none [(k, some (.map es'))] := by
          intro es' hrun
          refine AOp.skip fun s w a ok hE hH' _ => ?_
          have e1 := evO_rel hE hx
          have e2 := Rel.lit_eq (evO_rel hE hy)
          have e3 := Rel.lit_eq (evO_rel hE hz)
          generalize hq : a.eval x = pu at e1
          cases e1 with
          | rep h => cases h
          | @mp _ b hr =>
            obtain ⟨z', hz', b', ents, clock, rfl, hb, hes⟩ := ok.blk k _ (hH' k _ (lkH_of hk))
            rw [hr] at hz'; cases hz'
            obtain ⟨ents', clock', h1, h2⟩ := hrun ents clock hes
            refine ⟨_, _, ?_, Post.updM ok (.map ents' clock') (hH' k _ (lkH_of hk)) hr hb ?_⟩
            · simp [execOp, ho, hq, e2, e3, h2 w b hb, Result.andThen]
            · intro s' w' _ hnew
              exact ⟨b, _, _, rfl, hnew, h1⟩
        have hget : ∀ (w : World) (b : Nat) (ents : Array MapEntry) (clock : Nat), w.heap[b]? = some (.map ents clock) → (getObj b).run P w = .ok (.map ents clock) w := fun w b ents clock hb => by simp [getObj, Sem.run, hb]
        have hset : ∀ (w : World) (b : Nat) (ents : Array MapEntry) (clock : Nat), w.heap[b]? = some (.map ents clock) → ∀ ob, (setObj b ob).run P w = .ok () { w with heap := w.heap.setIfInBounds b ob } := fun w b ents clock hb ob => by simp [setObj, Sem.run, hb]
        split at h
        · rename_i i v0 hf
          split at h
          · rename_i old v1 hi
            split at h
            · rename_i hsb
              cases h
              refine key fun ents clock hes => ⟨ents.modify i fun e => { e with key := kv, val := u }, clock, ?_, fun w b hb => ?_⟩
              · rw [Array.toList_modify, ← hes]
                obtain ⟨_, hlt, _⟩ := findM_lt _ _ _ _ _ _ hf
                simp only [Nat.sub_zero] at hlt
                apply List.ext_getElem?
                intro j
                simp only [List.getElem?_map, List.getElem?_modify, List.getElem?_set]
                rw [← hes] at hlt
                simp only [List.length_map, Array.length_toList] at hlt
                by_cases hj : i = j
                · subst hj
                  simp [hlt]
                · simp only [hj, if_false]
                  cases ents.toList[j]? <;> simp
              · have hfn := findNow_eq kd kv _ _ 0 hes
                rw [hf] at hfn
                have hk1 : ((ents[i]?).map (·.key)).getD kv = old := by
                  rw [← hes, List.getElem?_map, Option.map_eq_some_iff] at hi
                  obtain ⟨e, he, h2⟩ := hi
                  have he' : ents[i]? = some e := by simpa using he
                  rw [he']; cases h2; rfl
                simp [Instr.mapUpdate, run_underlying hu, hget w b _ _ hb, run_checkKey hkt hkd, run_underlying hkt, Instr.findKey, hfn, Result.andThen, hset w b _ _ hb, Instr.keyThatStays, hsb, hk1]
            · cases h
          · cases h
        · rename_i hf
          cases h
          refine key fun ents clock hes => ⟨ents.push { key := kv, val := u, born := clock }, clock + 1, by simp [hes], fun w b hb => ?_⟩
          have hfn := findNow_eq kd kv _ _ 0 hes
          rw [hf] at hfn
          simp [Instr.mapUpdate, run_underlying hu, hget w b _ _ hb, run_checkKey hkt hkd, run_underlying hkt, Instr.findKey, hfn, Result.andThen, hset w b _ _ hb]
        · cases h
      · cases h
    · cases h
  · cases h
end
end Go.Abs
end
section
namespace Go.Abs
variable [VL]
section
variable {cfg : Cfg} {P : Program} {o : Oper} {E : EL} {H : HL}
theorem buildV_ok {Hp : Hp} {t : TypeId} {parts : Array (Nat × Operand)} {r : AV} (h : buildV P E t parts = some r) (ho : o.op = .build t parts) : AOp P o (envOf E) Hp [] (some r) [] := by
  unfold buildV at h
  split at h
  · rename_i z ps hz hp
    obtain ⟨hz1, hz2⟩ := zOf_eq hz
    split at h
    · rename_i n el ha
      split at h
      · rename_i esz hs
        obtain ⟨cells, hc, rfl⟩ := Option.map_eq_some_iff.1 h
        exact AOp.buildArr ho hz1 hz2 (arrOf_eq ha) hs hp hc
      · cases h
    · split at h
      · rename_i pl hpl
        obtain ⟨cells, hc, rfl⟩ := Option.map_eq_some_iff.1 h
        exact AOp.build ho hz1 hz2 hpl hp hc
      · cases h
  · cases h
theorem chunks_ok (esz : Nat) : ∀ (n : Nat) (l : List AV), l.length = n * esz → (chunks esz n l).flatten = l ∧ (chunks esz n l).length = n ∧ (chunks esz n l).all (fun r => r.length == esz) = true
  | 0, l, h => by
    have : l = [] := List.length_eq_zero_iff.1 (by simpa using h)
    subst this
    simp [chunks]
  | n + 1, l, h => by
    rw [Nat.succ_mul] at h
    obtain ⟨h1, h2, h3⟩ := chunks_ok esz n (l.drop esz) (by simp; omega)
    refine ⟨by simp [chunks, h1], by simp [chunks, h2], ?_⟩
    simp only [chunks, List.all_cons, h3, Bool.and_true, beq_iff_eq, List.length_take]
    omega
theorem buildSliceV_ok {Hp : Hp} {nx : Nat} {t : TypeId} {len : Nat} {parts : Array (Nat × Operand)} {u : Out} (h : buildSliceV P E nx t len parts = some u) (ho : o.op = .buildSlice t len parts) : AOp P o (envOf E) Hp [nx] u.res (denU u.U) ∧ u.m = 1 := by
  unfold buildSliceV at h
  split at h
  · rename_i el esz bytes z he
    obtain ⟨T, hz1, hz2, hz3, _⟩ := elT_eq he
    have hsz : (P.info? el).map (·.size) = some esz := by
      obtain ⟨i, z', hi, _, h1, _⟩ := T.open
      rw [hi]; simp [h1]
    split at h
    · split at h
      · rename_i hl
        cases h
        have : parts = #[] := by apply Array.ext'; simpa using hl
        subst this
        exact ⟨AOp.buildEmpty nx false T.ht hsz ho, rfl⟩
      · cases h
    · rename_i n'
      split at h
      · rename_i ps hp
        split at h
        · rename_i cells hc
          split at h
          · rename_i flat hb hle
            split at h
            · rename_i hlen
              cases h
              have hlen := Nat.eq_of_beq_eq_true hlen
              obtain ⟨h1, h2, h3⟩ := chunks_ok esz (n' + 1) flat hlen
              refine ⟨AOp.buildSlice nx false _ T.ht hsz hz1 hz3 hz2 ?_ ?_ ho hp hc hb h1 h2 h3, rfl⟩
              · have := T.pos
                intro e
                rcases Nat.mul_eq_zero.1 e with e | e <;> omega
              · have := Nat.le_of_ble_eq_true hle
                omega
            · cases h
          · cases h
        · cases h
      · cases h
  · cases h
theorem makeSliceV_ok {Hp : Hp} {nx : Nat} {t : TypeId} {x y : Operand} {p q : AV} {u : Out} (h : makeSliceV P nx t p q = some u) (ho : o.op = .makeSlice t x y) (hx : evO (envOf E) x = some p) (hy : evO (envOf E) y = some q) : AOp P o (envOf E) Hp [nx] u.res (denU u.U) ∧ u.m = 1 := by
  unfold makeSliceV at h
  split at h
  · rename_i el esz bytes z n m he
    obtain ⟨T, hz1, hz2, hz3, hz4⟩ := elT_eq he
    split at h
    · rename_i hb
      cases h
      simp only [Bool.and_eq_true] at hb
      have h1 := Nat.eq_of_beq_eq_true hb.1.1
      subst h1
      exact ⟨AOp.makeSlice nx false T.ht hz4 hz1 hz3 hz2 T.pos ho hx hy rfl rfl (Nat.le_of_ble_eq_true hb.1.2) (Nat.le_of_ble_eq_true hb.2), rfl⟩
    · cases h
  · cases h
theorem srcV_ok {esz : Nat} {y : Operand} {q : AV} {rows : List (List AV)} (h : srcV H esz q = some rows) (hy : evO (envOf E) y = some q) : SrcAV (envOf E) (lkH H) esz false y rows := by
  unfold srcV at h
  split at h
  · rename_i k e off m
    split at h
    · rename_i e' els hk
      split at h
      · rename_i hb
        cases h
        simp only [Bool.and_eq_true] at hb
        have h1 := Nat.eq_of_beq_eq_true hb.1.1
        have h2 := Nat.eq_of_beq_eq_true hb.1.2
        subst h1; subst h2
        exact .sl hy (lkH_of hk) (Nat.le_of_ble_eq_true hb.2) (by simp)
      · cases h
    · cases h
  · rename_i e rows'
    split at h
    · rename_i hb
      cases h
      have h1 := Nat.eq_of_beq_eq_true hb
      subst h1
      exact .ro hy rfl
    · cases h
  · cases h; exact .nil hy
  · cases h
theorem appendV_ok {nx : Nat} {t : TypeId} {x y : Operand} {p q : AV} {u : Out} (h : appendV P H nx t p q = some u) (ho : o.op = .call { callee := .builtin .append, args := #[x, y], argTypes := #[t, t] }) (hx : evO (envOf E) x = some p) (hy : evO (envOf E) y = some q) :
    AOp P o (envOf E) (lkH H) (List.range' nx u.m) u.res (denU u.U) := by
  unfold appendV at h
  split at h
  · rename_i el esz bytes z he
    obtain ⟨T, _⟩ := elT_eq he
    split at h
    · rename_i rows hr
      have hsrc := srcV_ok hr hy
      split at h
      · rename_i k e n
        split at h
        · rename_i e' els hk
          split at h
          · rename_i hb
            cases h
            simp only [Bool.and_eq_true] at hb
            obtain ⟨⟨⟨⟨h1, h2⟩, h3⟩, h4⟩, h5⟩ := hb
            have h1 := Nat.eq_of_beq_eq_true h1
            have h2 := Nat.eq_of_beq_eq_true h2
            have h3 := Nat.eq_of_beq_eq_true h3
            subst h1; subst h2
            exact AOp.append nx T ho hx (lkH_of hk) h3 hsrc (Nat.le_of_ble_eq_true h4) (Nat.le_of_ble_eq_true h5)
          · cases h
        · cases h
      · split at h
        · rename_i hb
          cases h
          simp only [Bool.and_eq_true] at hb
          exact AOp.append_emp nx false T ho (.inl hx) hsrc (Nat.le_of_ble_eq_true hb.1) (Nat.le_of_ble_eq_true hb.2)
        · cases h
      · split at h
        · rename_i hb
          cases h
          simp only [Bool.and_eq_true] at hb
          exact AOp.append_emp nx false T ho (.inr ⟨_, hx⟩) hsrc (Nat.le_of_ble_eq_true hb.1) (Nat.le_of_ble_eq_true hb.2)
        · cases h
      · cases h
    · cases h
  · cases h

theorem bndV_eq {d n : Nat} {x : Option Operand} (h : bndV E (some d) x = some n) : bndO (envOf E) x d n := by
  unfold bndV at h
  split at h
  · cases h; rfl
  · split at h
    · rename_i y v hv
      obtain ⟨k, rfl⟩ := nOf_eq h
      exact ⟨k, n, hv, rfl⟩
    · cases h
theorem bndV_eq' {n : Nat} {y : Operand} (h : bndV E none (some y) = some n) : ∃ k, evO (envOf E) y = some (.lit (.int k (n : Int))) := by
  simp only [bndV] at h
  split at h
  · rename_i v hv
    obtain ⟨k, rfl⟩ := nOf_eq h
    exact ⟨k, hv⟩
  · cases h
/-- a slice of the call's own, cut -/
theorem AOp.slice_sl {E : Env} {Hp : Hp} {t el esz i j k off n : Nat} {x : Operand} {lo hi : Option Operand} (ht : P.underlying t = some (.slice el)) (hs : (P.info? el).map (·.size) = some esz)
    (ho : o.op = .slice t x lo hi none) (hx : evO E x = some (.sl k esz off n)) (hk : Hp k ≠ none) (hlo : bndO E lo 0 i) (hhi : bndO E hi n j) (hij : i ≤ j) (hj : j ≤ n) :
    AOp P o E Hp [] (some (if i < j ∨ i = 0 then .sl k esz (off + i) (j - i) else .ro esz [])) [] :=
  AOp.reads fun s w a _ hE hH => by
    have h := evO_rel hE hx
    obtain ⟨inf, hinf, rfl⟩ := Option.map_eq_some_iff.1 hs
    generalize hv : a.eval x = u at h
    cases h with
    | rep h => cases h
    | slg hr hp =>
      obtain ⟨B, hB⟩ := Option.ne_none_iff_exists'.1 hk
      rw [hH k B hB] at hp; cases hp
    | @sln _ _ _ A hr =>
      have : j = 0 := by omega
      subst this
      have : i = 0 := by omega
      subst this
      have hrun := run_bounds (P := P) (a := a) (w := w) (cap := 0) hE hlo hhi hij (by omega)
      refine ⟨.slice A 0 0, ?_, ?_⟩
      · simp [execOp, ho, hv, Instr.sliceAt, run_underlying ht, Instr.slice, hrun, sizeOf, typeInfo, hinf]
      · rw [if_pos (.inr rfl)]; exact .sln hr
    | @sl _ _ _ _ b cap fr els cs ty fz hr hp hle hb hn hc hsz =>
      have hrun := run_bounds (P := P) (a := a) (w := w) (cap := cap) hE hlo hhi hij (by omega)
      refine ⟨.slice (some (if cap = i then ⟨b, off * inf.size, none⟩ else ⟨b, off * inf.size + i * inf.size, none⟩)) (j - i) (cap - i), ?_, ?_⟩
      · simp [execOp, ho, hv, Instr.sliceAt, run_underlying ht, Instr.slice, hrun, sizeOf, typeInfo, hinf, addr_add]
        by_cases e : cap = i <;> simp [e]
      · by_cases hc0 : i < j ∨ i = 0
        · rw [if_pos hc0]
          have hmul : (off + i) * inf.size = off * inf.size + i * inf.size := Nat.add_mul ..
          have haddr : (if cap = i then (⟨b, off * inf.size, none⟩ : Addr) else ⟨b, off * inf.size + i * inf.size, none⟩) = ⟨b, (off + i) * inf.size, none⟩ := by
            split
            · rename_i e
              have : i = 0 := by omega
              subst this
              simp
            · rw [hmul]
          rw [haddr]
          refine .sl hr hp (by omega) hb (by omega) (by omega) ?_
          rw [show off + i + (cap - i) = off + cap by omega]; exact hsz
        · rw [if_neg hc0]
          have : j - i = 0 := by omega
          rw [this]
          exact .rep (.nil (by omega))
theorem AOp.slice_nil {E : Env} {Hp : Hp} {t el : Nat} {x : Operand} {lo hi : Option Operand} (ht : P.underlying t = some (.slice el)) (hs : ∃ n, (P.info? el).map (·.size) = some n)
    (ho : o.op = .slice t x lo hi none) (hx : evO E x = some (.lit (.slice none 0 0))) (hlo : bndO E lo 0 0) (hhi : bndO E hi 0 0) :
    AOp P o E Hp [] (some (.lit (.slice none 0 0))) [] :=
  AOp.val (v := .slice none 0 0) rfl rfl fun s w a _ hE hH => by
    have e1 := Rel.lit_eq (evO_rel hE hx)
    obtain ⟨n, hs⟩ := hs
    obtain ⟨inf, hinf, _⟩ := Option.map_eq_some_iff.1 hs
    have hrun := run_bounds (P := P) (a := a) (w := w) (cap := 0) hE hlo hhi (Nat.le_refl 0) (Nat.le_refl 0)
    simp [execOp, ho, e1, Instr.sliceAt, run_underlying ht, Instr.slice, hrun, sizeOf, typeInfo, hinf]
theorem AOp.slice_zero_sl {E : Env} {Hp : Hp} {t el esz k e off n : Nat} {x : Operand} {y z : Operand} {kd kd' : IntKind} (ht : P.underlying t = some (.slice el)) (hs : (P.info? el).map (·.size) = some esz)
    (ho : o.op = .slice t x none (some y) (some z)) (hx : evO E x = some (.sl k e off n))
    (hy : evO E y = some (.lit (.int kd 0))) (hz : evO E z = some (.lit (.int kd' 0))) : AOp P o E Hp [] (some .emp) [] :=
  AOp.reads fun s w a _ hE _ => by
    obtain ⟨inf, hinf, rfl⟩ := Option.map_eq_some_iff.1 hs
    have h := evO_rel hE hx
    have e1 := Rel.lit_eq (evO_rel hE hy)
    have e2 := Rel.lit_eq (evO_rel hE hz)
    have hform : ∃ A n c, a.eval x = .slice A n c := by
      generalize a.eval x = u at h
      cases h with
      | rep h => cases h
      | _ => exact ⟨_, _, _, rfl⟩
    obtain ⟨A, n, c, hv⟩ := hform
    refine ⟨.slice A 0 0, ?_, .emp⟩
    simp [execOp, ho, hv, Instr.sliceAt, run_underlying ht, Instr.slice, Instr.sliceBounds, Instr.sliceBound, asIntOf, e1, e2, sizeOf, typeInfo, hinf]
theorem sliceV_ok (ok : cfg.OK) {t : TypeId} {x : Operand} {lo hi mx : Option Operand} {p r : AV} (h : sliceV cfg P E H t p lo hi mx = some r) (ho : o.op = .slice t x lo hi mx) (hx : evO (envOf E) x = some p) : AOp P o (envOf E) (lkH H) [] (some r) [] := by
  unfold sliceV at h
  split at h
  · rename_i hs
    have hu := isStr_eq hs
    split at h
    · rename_i l hl
      split at h
      · rename_i i hi1
        split at h
        · rename_i rr hd
          obtain ⟨hd1, hd2⟩ := dropS_val hd
          have hvl := sOf_vl hl
          have run : ∀ (j : Nat) (hi' : Option Operand), hi = hi' → bndO (envOf E) hi' (sval l).size j → i ≤ j → j ≤ (sval l).size → ∀ (q : AV), q.vl = some (.string ((sval l).extract i j)) → AOp P o (envOf E) (lkH H) [] (some q) [] := by
            intro j hi' hh hb hij hj q hq
            subst hh
            refine AOp.val hq rfl fun s w a _ hE _ => ?_
            have e := (evO_rel hE hx).vl_eq hvl
            have hlo := bndV_eq hi1
            have hb' : (Instr.sliceBounds false (sval l).size (sval l).size (lo.map a.eval) (hi.map a.eval) none).run P w = .ok (i, j, (sval l).size) w := by
              cases lo with
              | none =>
                simp only [bndO] at hlo
                subst hlo
                cases hi with
                | none => simp only [bndO] at hb; subst hb; simp [Instr.sliceBounds]
                | some y =>
                  obtain ⟨kd, z, h1, rfl⟩ := hb
                  have e2 := Rel.lit_eq (evO_rel hE h1)
                  simp [Instr.sliceBounds, e2, Instr.sliceBound, asIntOf, hj]
              | some u =>
                obtain ⟨kd', z', h1', rfl⟩ := hlo
                have e3 := Rel.lit_eq (evO_rel hE h1')
                cases hi with
                | none => simp only [bndO] at hb; subst hb; simp [Instr.sliceBounds, e3, Instr.sliceBound, asIntOf, hij]
                | some y =>
                  obtain ⟨kd, z, h1, rfl⟩ := hb
                  have e2 := Rel.lit_eq (evO_rel hE h1)
                  simp [Instr.sliceBounds, e2, e3, Instr.sliceBound, asIntOf, hj, hij]
            simp [execOp, ho, e, Instr.sliceAt, run_underlying hu, Instr.slice, hb']
          have hext : ∀ j, (sval l).extract i j = ⟨((rr.flatMap SP.val).take (j - i)).toArray⟩ := by
            intro j
            rw [← hd1]
            simp [sval, ByteArray.ext_iff, List.extract_eq_take_drop]
          cases hi with
          | none =>
            cases h
            refine run _ none rfl rfl (by rw [sval_size]; exact hd2) (Nat.le_refl _) _ ?_
            rw [mkS_vl, hext, List.take_of_length_le]
            · rfl
            · rw [← hd1, sval_size]; simp
          | some y =>
            simp only at h
            split at h
            · rename_i j hj
              split at h
              · rename_i hij
                obtain ⟨tt, ht, rfl⟩ := Option.map_eq_some_iff.1 h
                obtain ⟨ht1, ht2⟩ := takeS_val ht
                have hij := Nat.le_of_ble_eq_true hij
                obtain ⟨kd, hb⟩ := bndV_eq' hj
                rw [← hd1] at ht2
                simp only [List.length_drop] at ht2
                refine run j (some y) rfl ⟨kd, j, hb, rfl⟩ hij (by rw [sval_size]; omega) _ ?_
                rw [mkS_vl, hext, ht1]; rfl
              · cases h
            · cases h
        · cases h
      · cases h
    · cases h
  · split at h
    · rename_i el esz bytes z he
      obtain ⟨T, _⟩ := elT_eq he
      have hsz : (P.info? el).map (·.size) = some esz := by
        obtain ⟨i, z', hi, _, h1, _⟩ := T.open
        rw [hi]; simp [h1]
      split at h
      · rename_i e xs
        split at h
        · rename_i i j hb hi1 hj1
          split at h
          · rename_i hij
            cases h
            have hb := Nat.eq_of_beq_eq_true hb
            subst hb
            simp only [Bool.and_eq_true] at hij
            exact AOp.slice_ro T.ht hsz ho hx (bndV_eq hi1) (bndV_eq hj1) (Nat.le_of_ble_eq_true hij.1) (Nat.le_of_ble_eq_true hij.2)
          · cases h
        · cases h
      · rename_i k e off n
        split at h
        · rename_i i j hb hi1 hj1
          split at h
          · rename_i hij
            simp only [Bool.and_eq_true] at hb hij
            have hb1 := Nat.eq_of_beq_eq_true hb.1
            subst hb1
            have := AOp.slice_sl (Hp := lkH H) T.ht hsz ho hx (by intro e; rw [← lkH_is, e] at hb; cases hb.2) (bndV_eq hi1) (bndV_eq hj1) (Nat.le_of_ble_eq_true hij.1) (Nat.le_of_ble_eq_true hij.2)
            split at h
            · rename_i hc
              cases h
              rw [if_pos] at this
              · exact this
              · simp only [Bool.or_eq_true, Nat.blt_eq] at hc
                rcases hc with hc | hc
                · exact .inl hc
                · exact .inr (Nat.eq_of_beq_eq_true hc)
            · rename_i hc
              cases h
              rw [if_neg] at this
              · exact this
              · rintro (hc' | hc')
                · rw [show Nat.blt i j = true from by simpa [Nat.blt_eq] using hc'] at hc; cases hc
                · subst hc'; simp at hc
          · cases h
        · cases h
      · split at h
        · rename_i h1 h2
          cases h
          exact AOp.slice_nil T.ht ⟨_, hsz⟩ ho hx (bndV_eq h1) (bndV_eq h2)
        · cases h
      · cases h
    · rename_i el esz bytes z m he
      obtain ⟨T, _⟩ := elT_eq he
      have hsz : (P.info? el).map (·.size) = some esz := by
        obtain ⟨i, z', hi, _, h1, _⟩ := T.open
        rw [hi]; simp [h1]
      split at h
      · rename_i hh hm
        cases hi with
        | none => simp [bndV] at hh
        | some y =>
          obtain ⟨kd, hy⟩ := bndV_eq' hh
          obtain ⟨kd', hz⟩ := bndV_eq' hm
          split at h
          · rename_i e xs
            split at h
            · rename_i hb
              cases h
              have hb := Nat.eq_of_beq_eq_true hb
              subst hb
              exact AOp.slice_zero T.ht hsz ho hx (.inl ⟨_, rfl⟩) hy hz
            · cases h
          · rename_i k e off n
            split at h
            · cases h
              exact AOp.slice_zero_sl T.ht hsz ho hx hy hz
            · cases h
          · cases h
            exact AOp.slice_zero T.ht hsz ho hx (.inr (.inr ⟨_, _, _, rfl⟩)) hy hz
          · cases h
      · cases h
    · cases h
end
end Go.Abs
end
section
namespace Go.Abs
variable [VL]
section
variable {cfg : Cfg} {P : Program} {o : Oper} {E : EL} {H : HL}
theorem byteC_ok (ok : cfg.OK) {x : Lin} {p : SP} (h : byteC cfg x = some p) : ∃ b : UInt8, SP.val p = [b] ∧ x.val = (b.toNat : Int) := by
  unfold byteC at h
  split at h
  · rename_i n
    split at h
    · rename_i hn
      cases h
      have hn : n < 256 := by simpa [Nat.blt_eq] using hn
      exact ⟨UInt8.ofNat n, rfl, by simp; omega⟩
    · cases h
  · split at h
    · rename_i hb
      cases h
      simp only [Bool.and_eq_true] at hb
      have h1 := nng_val ok hb.1
      have h2 := nng_val ok hb.2
      simp at h2
      exact ⟨_, rfl, by simp; omega⟩
    · cases h
theorem rowsS_ok (ok : cfg.OK) : ∀ {rows : List (List AV)} {ps : List SP}, rowsS cfg rows = some ps → rows.length = (ps.flatMap SP.val).length ∧ ∀ (j : Nat) (b : UInt8), (ps.flatMap SP.val)[j]? = some b → ∃ c, rows[j]? = some [c] ∧ c.vl = some (.int .u8 b.toNat)
  | [], ps, h => by cases h; simp
  | [c] :: r, ps, h => by
    simp only [rowsS] at h
    split at h
    · rename_i x l h1 h2
      split at h
      · rename_i p hp
        cases h
        obtain ⟨b, hb, hx⟩ := byteC_ok ok hp
        obtain ⟨h3, h4⟩ := rowsS_ok ok h2
        refine ⟨by simp [hb, h3], fun j b' hj => ?_⟩
        rw [List.flatMap_cons, hb] at hj
        cases j with
        | zero =>
          simp at hj
          subst hj
          refine ⟨c, rfl, ?_⟩
          rw [iOf_vl h1, hx]
        | succ j => exact h4 j b' (by simpa using hj)
      · cases h
    · cases h
  | [] :: r, ps, h => by simp [rowsS] at h
  | (_ :: _ :: _) :: r, ps, h => by simp [rowsS] at h
/-- text out of bytes that are told -/
theorem AOp.bstrV {E : Env} {Hp : Hp} {src dst e : TypeId} {x : Operand} {rows : List (List AV)} {q : AV} (l : List UInt8) (hs : P.underlying src = some (.slice e)) (he : P.underlying e = some (.int .u8)) (hd : P.underlying dst = some .string) (ho : o.op = .convert src dst x)
    (hx : SrcAV E Hp 1 false x rows) (hlen : rows.length = l.length) (hl : ∀ (j : Nat) (b : UInt8), l[j]? = some b → ∃ c, rows[j]? = some [c] ∧ c.vl = some (.int .u8 b.toNat)) (hq : q.vl = some (.string (strOf l))) : AOp P o E Hp [] (some q) [] := by
  refine AOp.value fun s w a ok hE hH _ => ?_
  obtain ⟨A, c, news, hsrc⟩ := hx.src (a := a) ok hE hH
  refine ⟨.string (strOf l), s, w, ?_, Post.refl ok, ?_⟩
  · have hn : news = (l.map fun b => (b.toNat : Int)).map (Value.int .u8) := by
      have hlen : news.length = l.length := by rw [hsrc.len, hlen]; simp
      apply List.ext_getElem?
      intro i
      by_cases hi : i < l.length
      · obtain ⟨cc, hrow, hcv⟩ := hl i l[i] (by simp [hi])
        obtain ⟨v, hv, hrep⟩ := hsrc.rep i _ 0 _ hrow (by rfl)
        rw [Nat.mul_one, Nat.add_zero] at hv
        rw [hv, hrep.1.vl_eq hcv]; simp [hi]
      · rw [List.getElem?_eq_none (by omega), List.getElem?_eq_none (by simp; omega)]
    simp only [execOp, ho, hsrc.eq, Sem.run_bind, run_convert_bytes_string w src dst e _ _ _ hs he hd]
    rcases Nat.eq_zero_or_pos l.length with h0 | h0
    · have : l = [] := List.length_eq_zero_iff.1 h0
      subst this
      have hr0 : rows.length = 0 := hlen
      cases A with
      | none => simp [Conv.bytesToString, Sem.run_pure, strOf, Result.andThen, hr0]; rfl
      | some ad =>
        have h := run_bytesToString (P := P) w ad 0 c [] (by
          have h := run_loadCells_list (P := P) (w := w) ad [] (by simp)
          simpa using h)
        rw [hr0]
        rw [h]; simp [Sem.run_pure, Result.andThen, strOf]; rfl
    · obtain ⟨ad, rfl, had⟩ := hsrc.some (by
        intro e
        rw [e] at hlen
        simp at hlen
        omega)
      have h := run_bytesToString (P := P) w ad rows.length c (l.map fun b => (b.toNat : Int)) (by
        have h := run_loadCells_list (P := P) (w := w) ad news (fun j v hj => had j v hj)
        rw [hn] at h
        simpa [hlen] using h)
      rw [h, foldl_push]
      simp [Sem.run_pure, Result.andThen, strOf]
  · rintro av ⟨⟩
    exact vl_rel hq rfl
theorem convV_ok (ok : cfg.OK) {src dst : TypeId} {x : Operand} {p r : AV} (h : convV cfg P H src dst p = some r) (ho : o.op = .convert src dst x) (hx : evO (envOf E) x = some p) : AOp P o (envOf E) (lkH H) [] (some r) [] := by
  unfold convV at h
  split at h
  · rename_i k l hl
    split at h
    · rename_i k' d hk hs
      have hd := ikOf_eq hk
      refine AOp.val (fitC_vl ok h) rfl fun s w a _ hE _ => ?_
      have e := (evO_rel hE hx).vl_eq (iOf_vl hl)
      simp only [execOp, ho, e, convert]
      simp [run_underlying hs, run_underlying hd, Conv.intToInt]
    · cases h
  · split at h
    · rename_i hd
      split at h
      · rename_i e he
        split at h
        · rename_i he8
          split at h
          · rename_i rows hr
            obtain ⟨ps, hps, rfl⟩ := Option.map_eq_some_iff.1 h
            obtain ⟨h1, h2⟩ := rowsS_ok ok hps
            exact AOp.bstrV (ps.flatMap SP.val) (elOf_eq he) (ikOf_eq he8) (isStr_eq hd) ho (srcV_ok hr hx) h1 h2 (mkS_vl ps)
          · cases h
        · cases h
      · cases h
    · cases h

/-- an operation comes to one of these -/
def AOpM (P : Program) (o : Oper) (E : Env) (H : Hp) (nx : Nat) (outs : List Out) : Prop :=
  ∀ (s : Sg) (w : World) (a : Act) (K : Act → World → Prop) (Q : Exit → Act → World → Prop), OK s w →
    (∀ t av, E t = some av → Rel s w av (a.tmps.getD t undef)) → (∀ k B, H k = some B → s.hp k = some B) → (∀ u ∈ outs, ∀ k, k ∈ List.range' nx u.m → s.ρ k = none) →
    (∀ u ∈ outs, ∀ v s' w', Post s w (List.range' nx u.m) (denU u.U) s' w' → (∀ av, u.res = some av → Rel s' w' av v) → K (a.put o.dst v) w') → o.wp P a w K Q
theorem Post.moreFr {s s' : Sg} {w w' : World} {fr fr' : List Nat} {U : List (Nat × Option Blk)} (h : Post s w fr U s' w') (hf : ∀ k, k ∈ fr → k ∈ fr') : Post s w fr' U s' w' :=
  { h with fresh := fun k h1 h2 => h.fresh k h1 fun h3 => h2 (hf k h3) }
theorem AOp.m {E : Env} {Hp : Hp} {nx m : Nat} {fr : List Nat} {res : Option AV} {U : List (Nat × Option Blk)} (h : AOp P o E Hp fr res (denU U)) (hf : ∀ k, k ∈ fr → k ∈ List.range' nx m) : AOpM P o E Hp nx [{ res := res, U := U, m := m }] :=
  fun s w a K Q ok hE hH hfr hK => h s w a K Q ok hE hH (fun k hk => hfr { res := res, U := U, m := m } (List.mem_singleton.2 rfl) k (hf k hk)) fun v s' w' p hr => hK { res := res, U := U, m := m } (List.mem_singleton.2 rfl) v s' w' (p.moreFr hf) hr
theorem outV_ok {E : Env} {Hp : Hp} {nx : Nat} {x : Option AV} {outs : List Out} (h : outV x = some outs) (hx : ∀ v, x = some v → AOp P o E Hp [] (some v) []) : AOpM P o E Hp nx outs := by
  unfold outV at h
  obtain ⟨v, hv, rfl⟩ := Option.map_eq_some_iff.1 h
  exact (hx v hv).m (by simp)
theorem Rs.of_ok {α : Type} {m : String} {xs : List AV} {x : Option α} {a : α} (h : Rs.of m xs x = .ok a) : x = some a := by
  unfold Rs.of at h
  split at h
  · cases h; rfl
  · cases h
theorem BinM.m {E : Env} {Hp : Hp} {nx : Nat} {op : BinOp} {t u : TypeId} {x y : Operand} {p q : AV} {l : List AV} (h : BinM P Hp op t p q l) (ho : o.op = .binOp op t x y u) (hx : evO E x = some p) (hy : evO E y = some q) :
    AOpM P o E Hp nx (l.map fun v => { res := some v }) := by
  intro s w a K Q ok hE hH hfr hK
  obtain ⟨r, hr, v, hv, h1, hrun⟩ := h s w _ _ hH (evO_rel hE hx) (evO_rel hE hy)
  have hr1 : (execOp a.eval o).run P w = .ok (.value v) w := by
    simp only [execOp, ho]
    rw [Sem.run_bind, hrun x y]
    rfl
  unfold Oper.wp
  rw [hr1]
  exact hK { res := some r } (List.mem_map.2 ⟨r, hr, rfl⟩) v s w ((Post.refl ok).moreFr (by simp)) (by rintro av ⟨⟩; exact vl_rel hv h1)
theorem callB_ok (ok : cfg.OK) {nx : Nat} {b : Builtin} {xs : Array Operand} {tys : Array TypeId} {vs : List AV} {outs : List Out} (h : callB cfg P H nx b vs tys.toList = some outs) (ho : o.op = .call { callee := .builtin b, args := xs, argTypes := tys }) (hx : evArgs (envOf E) xs.toList = some vs) :
    AOpM P o (envOf E) (lkH H) nx outs := by
  have arr1 : ∀ {α : Type} {l : Array α} {x : α}, l.toList = [x] → l = #[x] := fun h => by apply Array.ext'; simpa using h
  have arr2 : ∀ {α : Type} {l : Array α} {x y : α}, l.toList = [x, y] → l = #[x, y] := fun h => by apply Array.ext'; simpa using h
  have ev1 : ∀ {v : AV}, vs = [v] → ∃ x, xs = #[x] ∧ evO (envOf E) x = some v := by
    rintro v rfl
    cases hl : xs.toList with
    | nil => rw [hl] at hx; cases hx
    | cons x r =>
      rw [hl] at hx
      simp only [evArgs] at hx
      split at hx
      · rename_i a l h1 h2
        cases hx
        cases r with
        | nil => exact ⟨x, arr1 hl, h1⟩
        | cons y q =>
          simp only [evArgs] at h2
          split at h2 <;> cases h2
      · cases hx
  have ev2 : ∀ {v u : AV}, vs = [v, u] → ∃ x y, xs = #[x, y] ∧ evO (envOf E) x = some v ∧ evO (envOf E) y = some u := by
    rintro v u rfl
    cases hl : xs.toList with
    | nil => rw [hl] at hx; cases hx
    | cons x r =>
      rw [hl] at hx
      simp only [evArgs] at hx
      split at hx
      · rename_i a l h1 h2
        cases hx
        cases r with
        | nil => cases h2
        | cons y q =>
          simp only [evArgs] at h2
          split at h2
          · rename_i a' l' h3 h4
            cases h2
            cases q with
            | nil => exact ⟨x, y, arr2 hl, h1, h3⟩
            | cons z q' =>
              simp only [evArgs] at h4
              split at h4 <;> cases h4
          · cases h2
      · cases hx
  unfold callB at h
  split at h
  · rename_i v t htl
    obtain ⟨x, rfl, h1⟩ := ev1 rfl
    have := arr1 htl
    subst this
    exact outV_ok h fun r hr => lenV_ok ok hr ho h1
  · rename_i v u t t' htl
    obtain ⟨x, y, rfl, h1, h2⟩ := ev2 rfl
    have := arr2 htl
    subst this
    split at h
    · rename_i htt
      have := Nat.eq_of_beq_eq_true htt
      subst this
      obtain ⟨w, hw, rfl⟩ := Option.map_eq_some_iff.1 h
      exact (appendV_ok hw ho h1 h2).m fun _ h => h
    · cases h
  · rename_i v u
    obtain ⟨x, y, rfl, h1, h2⟩ := ev2 rfl
    split at h
    · rename_i k l k' m hl hm
      split at h
      · rename_i hk hlt
        have hk := of_decide_eq_true hk
        subst hk
        refine outV_ok h fun r hr => ?_
        cases hr
        have := ltz_val ok hlt
        simp at this
        refine AOp.val (mkI_vl _ _) rfl fun s w a _ hE _ => ?_
        have e1 := (evO_rel hE h1).vl_eq (iOf_vl hl)
        have e2 := (evO_rel hE h2).vl_eq (iOf_vl hm)
        have hgt : m.val > l.val := by omega
        simp only [execOp, ho]
        simp [resolve, invoke, builtin, Builtin.max_, Builtin.max2, e1, e2, hgt]
      · rename_i hk hlt
        have hk := of_decide_eq_true hk
        subst hk
        refine outV_ok h fun r hr => ?_
        cases hr
        have := ltz_val ok hlt
        simp at this
        refine AOp.val (mkI_vl _ _) rfl fun s w a _ hE _ => ?_
        have e1 := (evO_rel hE h1).vl_eq (iOf_vl hl)
        have e2 := (evO_rel hE h2).vl_eq (iOf_vl hm)
        have hgt : ¬ (l.val < m.val) := by omega
        simp only [execOp, ho]
        simp [resolve, invoke, builtin, Builtin.max_, Builtin.max2, e1, e2, hgt]
      · cases h
    · cases h
  · rename_i v u
    obtain ⟨x, y, rfl, h1, h2⟩ := ev2 rfl
    split at h
    · rename_i k l k' m hl hm
      split at h
      · rename_i hk hlt
        have hk := of_decide_eq_true hk
        subst hk
        refine outV_ok h fun r hr => ?_
        cases hr
        have := ltz_val ok hlt
        simp at this
        refine AOp.val (mkI_vl _ _) rfl fun s w a _ hE _ => ?_
        have e1 := (evO_rel hE h1).vl_eq (iOf_vl hl)
        have e2 := (evO_rel hE h2).vl_eq (iOf_vl hm)
        have hgt : ¬ (m.val < l.val) := by omega
        simp only [execOp, ho]
        simp [resolve, invoke, builtin, Builtin.min_, Builtin.min2, e1, e2, hgt]
      · rename_i hk hlt
        have hk := of_decide_eq_true hk
        subst hk
        refine outV_ok h fun r hr => ?_
        cases hr
        have := ltz_val ok hlt
        simp at this
        refine AOp.val (mkI_vl _ _) rfl fun s w a _ hE _ => ?_
        have e1 := (evO_rel hE h1).vl_eq (iOf_vl hl)
        have e2 := (evO_rel hE h2).vl_eq (iOf_vl hm)
        simp only [execOp, ho]
        by_cases hgt : m.val < l.val
        · simp [resolve, invoke, builtin, Builtin.min_, Builtin.min2, e1, e2, hgt]
        · have : m.val = l.val := by omega
          simp [resolve, invoke, builtin, Builtin.min_, Builtin.min2, e1, e2, this]
      · cases h
    · cases h
  · cases h
end
end Go.Abs
end
