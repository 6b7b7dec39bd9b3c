/- The evaluator: slices, rows, maps, calls, code. (Definitions; their proofs stand in the texts behind.) -/
import Derived.Test.YtlfljoeafpimpaaGreatDoorEvf
namespace Go.Proofs.YtlfljoeafpimpaaGreatDoor
open Go.RowKit

/-! ### slices -/
def intN : RV → Option Nat
  | .lit (.int _ (.ofNat m)) => some m
  | _ => none
def optN : Option RV → Nat → Option Nat
  | none, d => some d
  | some x, _ => intN x
/-- low, high, max of a slice expression -/
def bounds (len cap : Nat) (lo hi mx : Option RV) : Option (Nat × Nat × Nat) :=
  match mx, hi with
  | some _, none => none
  | _, _ => match optN mx cap with
    | none => none
    | some m => match optN hi len with
      | none => none
      | some h => match optN lo 0 with
        | none => none
        | some l => match Nat.ble m cap, Nat.ble h m, Nat.ble l h with
          | true, true, true => some (l, h, m)
          | _, _, _ => none
/-- the place a slice begins -/
def moved (o l m s : Nat) : Nat := match Nat.beq m l with
  | true => o
  | false => o + l * s
/-- how far a slice of unknown capacity is cut -/
def topN (n : Nat) (hi : Option RV) : Nat := match hi with
  | some x => match intN x with
    | some k => k
    | none => n
  | none => n
/-- a text of unknown capacity: what its block shows -/
def roomy (h : Hp) (b d hi : Nat) : Bool := match h.at? b with
  | some (.row cs _ (s + 1)) => Nat.ble ((d + hi) * (s + 1)) (lenS cs)
  | _ => false
def evSlice (Ty : Tr TypeInfo) (H : Hp) (t : TypeId) (x : RV) (lo hi mx : Option RV) : Option RV :=
  match undE Ty t with
  | some (.array n el) => match x, szE Ty el, bounds n n lo hi mx with
    | .ptr b o, some s, some (l, h, m) => some (.sl b (moved o l m s) (h - l) (m - l))
    | _, _, _ => none
  | some (.slice el) => match szE Ty el with
    | some s => match x with
      | .sl b o n c => match bounds n c lo hi mx with
        | some (l, h, m) => some (.sl b (moved o l m s) (h - l) (m - l))
        | none => none
      | .slu b o n d => match mx with
        | none => match bounds n (topN n hi) lo hi none with
          | some (l, h, _) => match roomy H b d h, Nat.ble (l + 1) h with
            | true, true => some (.slu b (o + l * s) (h - l) (d + l))
            | true, false => match l with
              | 0 => some (.slu b o (h - 0) d)
              | _ => some (.sle b o (o + l * s) (d + l))
            | _, _ => none
          | none => none
        | some x => match intN x with
          | some m' => match roomy H b d m', bounds n m' lo hi mx with
            | true, some (l, h, m) => some (.sl b (moved o l m s) (h - l) (m - l))
            | _, _ => none
          | none => none
      | .sle b o q d => match mx, bounds 0 0 lo hi none with
        | none, some (0, 0, _) => some (.sle b o q d)
        | _, _ => none
      | .lit (.slice none n c) => match bounds n c lo hi mx with
        | some (l, h, m) => some (.lit (.slice none (h - l) (m - l)))
        | none => none
      | _ => none
    | none => none
  | some .string => match x, mx with
    | .lit (.string s), none => match bounds s.size s.size lo hi none with
      | some (l, h, _) => some (.lit (.string (s.extract l h)))
      | none => none
    | _, _ => none
  | _ => none
def lenV : RV → Option Nat
  | .sl _ _ n _ => some n
  | .slu _ _ n _ => some n
  | .sle _ _ _ _ => some 0
  | .lit (.slice none n _) => some n
  | .lit (.string s) => some s.size
  | _ => none
def lenT : RV → Option Nat
  | .lit (.string s) => some s.size
  | .rst _ k => some k
  | _ => none
def lenS' : RV → Option Nat
  | .sl _ _ n _ => some n
  | .slu _ _ n _ => some n
  | .sle _ _ _ _ => some 0
  | .lit (.slice none n _) => some n
  | _ => none
def intV (n : Nat) : RV := .lit (.int .i64 n)
def evLen (Ty : Tr TypeInfo) (h : Hp) (t : TypeId) (x : RV) : Option RV :=
  match undE Ty t with
  | some (.array n _) => some (intV n)
  | some (.pointer u) => match undE Ty u with
    | some (.array n _) => some (intV n)
    | _ => none
  | some (.map _ _) => match x with
    | .lit (.map none) => some (intV 0)
    | .mp b => match h.at? b with
      | some (.map es _) => some (intV es.length)
      | _ => none
    | _ => none
  | some .string => (lenT x).map intV
  | some (.slice _) => (lenS' x).map intV
  | _ => none
/-- the cells of the first elements of a slice, or of a text -/
def firstS (h : Hp) (sz n : Nat) : RV → Option (List Seg)
  | .lit (.slice none _ _) => some []
  | .lit (.string s) => some (pack ((s.extract 0 n).data.toList.map fun b => .int .u8 b.toNat))
  | .sle _ _ _ _ => match n with
    | 0 => some []
    | _ => none
  | x => match rowOf x with
    | some (b, o, _) => match h.at? b with
      | some y => match y.segs with
        | some (cs, _) => match Nat.beq (lenS (takeS (dropS cs o) (n * sz))) (n * sz) with
          | true => some (takeS (dropS cs o) (n * sz))
          | false => none
        | none => none
      | none => none
    | none => none
def putRow (h : Hp) (b o : Nat) (vs : List Seg) : Option Hp := match h.at? b with
  | some y => match y.segs with
    | some (cs, _) => match Nat.ble (o + lenS vs) (lenS cs), oneS vs with
      | true, true => some (h.put b (y.withS (putS cs o vs)))
      | _, _ => none
    | none => none
  | none => none
def evCopy (Ty : Tr TypeInfo) (h : Hp) (t : TypeId) (d s : RV) : Option (RV × Hp) :=
  match undE Ty t with
  | some (.slice el) => match szE Ty el, lenV d, lenV s with
    | some sz, some dn, some sn => match firstS h sz (Nat.min sn dn) s with
      | some vs => match d with
        | .lit (.slice none _ _) => some (intV (Nat.min sn dn), h)
        | _ => match rowOf d with
          | some (b, o, _) => (putRow h b o vs).map fun h' => (intV (Nat.min sn dn), h')
          | none => none
      | none => none
    | _, _, _ => none
  | _ => none
def bytE (Ty : Tr TypeInfo) (t : TypeId) : Option Nat := (Tr.get 10 Ty t).map (·.bytes)
def repS (z : List Seg) : Nat → List Seg
  | 0 => []
  | n + 1 => z ++ repS z n
/-- n copies of some cells -/
def timesS (z : List Seg) (n : Nat) : List Seg := match z with
  | [.byt 0 k] => match n with
    | 0 => []
    | _ => [.byt 0 (k * n)]
  | _ => repS z n
def evMakeSlice (Ty : Tr TypeInfo) (h : Hp) (t : TypeId) (l c : RV) : Option (RV × Hp) :=
  match undE Ty t, intN l, intN c with
  | some (.slice el), some n, some m => match zerE Ty el, bytE Ty el, szE Ty el with
    | some z, some by', some s => match Nat.ble n m, Nat.ble (by' * m) 1000000000, Nat.ble m 1000000000, h.room, Nat.beq z.cells.size s with
      | true, true, true, true, true => some (.sl h.nx 0 n m, h.add (.cells (timesS (pack z.cells.toList) m) el))
      | _, _, _, _, _ => none
    | _, _, _ => none
  | _, _, _ => none
/-- append -/
def appKind (d : TypeDesc) (sz : Nat) : Bool := match d with
  | .slice _ => true
  | .string => Nat.beq sz 1
  | _ => false
/-- is the length within the capacity? -/
def fitsS (h : Hp) : RV → Nat → Bool
  | .sl _ _ _ c, n => Nat.ble n c
  | .slu b _ _ d, n => roomy h b d n
  | .lit (.slice none _ c), n => Nat.ble n c
  | .sle _ _ _ _, n => Nat.beq n 0
  | _, _ => false
def appGrow (h h1 : Hp) (i : TypeInfo) (el : TypeId) (n m : Nat) (s : RV) (vs : List Seg) : Option (RV × Hp) :=
  match i.zero with
  | some z => match Nat.beq z.cells.size i.size, Nat.ble ((2 * (n + m) + 2048) * i.bytes) 281474976710656, Nat.ble (n + m) 1000000000, h.room with
    | true, true, true, true => match firstS h i.size n s with
      | some old => match Nat.beq (lenS old) (n * i.size) with
        | true => some (.slu h.nx 0 (n + m) 0, h1.add (.row (nrm (old ++ vs)) el i.size))
        | false => none
      | none => none
    | _, _, _, _ => none
  | none => none
def isRow (h : Hp) (b : Nat) (el : TypeId) (sz : Nat) : Bool := match h.at? b with
  | some (.row _ t s) => match Nat.beq t el, Nat.beq s sz, s with
    | true, true, _ + 1 => true
    | _, _, _ => false
  | _ => false
def appAt (h : Hp) (i : TypeInfo) (el : TypeId) (n m : Nat) (s : RV) (vs : List Seg) : Option (RV × Hp) :=
  match m with
  | 0 => match fitsS h s n with
    | true => some (s, h)
    | false => none
  | _ => match s with
    | .sl b o _ c => match Nat.ble (n + m) c with
      | true => (putRow h b (o + n * i.size) vs).map fun h' => (.sl b o (n + m) c, h')
      | false => appGrow h h i el n m s vs
    | .slu b o _ d => match roomy h b d (n + m) with
      | true => (putRow h b (o + n * i.size) vs).map fun h' => (.slu b o (n + m) d, h')
      | false => match o, d with
        | 0, 0 => match isRow h b el i.size with
          | true => appGrow h (h.drop b) i el n m s vs
          | false => none
        | _, _ => none
    | .lit (.slice none _ 0) => appGrow h h i el n m s vs
    | _ => none
def evAppend (Ty : Tr TypeInfo) (h : Hp) (t u : TypeId) (s x : RV) : Option (RV × Hp) :=
  match undE Ty t, undE Ty u with
  | some (.slice el), some du => match Tr.get 10 Ty el with
    | some i => match appKind du i.size, lenS' s, lenV x with
      | true, some n, some m => match firstS h i.size m x with
        | some vs => match Nat.beq (lenS vs) (m * i.size), oneS vs with
          | true, true => appAt h i el n m s vs
          | _, _ => none
        | none => none
      | _, _, _ => none
    | none => none
  | _, _ => none
/-! ### building -/
def fillS (place : Nat → Option (Nat × Nat)) (cs : List Seg) : List (Nat × RV) → Option (List Seg)
  | [] => some cs
  | (i, v) :: r => match place i with
    | none => none
    | some (o, s) => match Nat.beq (lenS v.segs) s, Nat.ble (o + s) (lenS cs), oneS v.segs with
      | true, true, true => fillS place (putS cs o v.segs) r
      | _, _, _ => none
noncomputable def parts (ρ : Operand → Option RV) (l : List (Nat × Operand)) : Option (List (Nat × RV)) :=
  List.rec (motive := fun _ => Option (List (Nat × RV))) (some []) (fun x _ ih => match ρ x.2 with
    | some v => match ih with
      | some l => some ((x.1, v) :: l)
      | none => none
    | none => none) l
noncomputable def placesE (Ty : Tr TypeInfo) (l : List Field) : Option (List (Nat × Nat)) :=
  List.rec (motive := fun _ => Option (List (Nat × Nat))) (some []) (fun f _ ih => match szE Ty f.type with
    | some s => match ih with
      | some l => some ((f.offset, s) :: l)
      | none => none
    | none => none) l
noncomputable def evBuild (Ty : Tr TypeInfo) (t : TypeId) (ps : List (Nat × RV)) : Option RV :=
  match undE Ty t, zerE Ty t with
  | some (.struct fs), some z => match placesE Ty fs.toList with
    | some pl => (fillS (fun i => pl[i]?) (pack z.cells.toList) ps).map .agg
    | none => none
  | some (.array _ el), some z => match szE Ty el with
    | some s => (fillS (fun i => some (i * s, s)) (pack z.cells.toList) ps).map .agg
    | none => none
  | _, _ => none
def evBuildSlice (Ty : Tr TypeInfo) (h : Hp) (t : TypeId) (n : Nat) (ps : List (Nat × RV)) : Option (RV × Hp) :=
  match undE Ty t with
  | some (.slice el) => match zerE Ty el, szE Ty el, h.room with
    | some z, some (s + 1), true => match Nat.ble (n * (s + 1)) 16777216, Nat.beq z.cells.size (s + 1) with
      | true, true => (fillS (fun i => some (i * (s + 1), s + 1)) (timesS (pack z.cells.toList) n) ps).map fun cs => (.sl h.nx 0 n n, h.add (.cells cs el))
      | _, _ => none
    | _, _, _ => none
  | _ => none
/-! ### conversions -/
/-- the bytes of some cells -/
def bytL (n k : Nat) : List UInt8 := (List.range k).map fun i => UInt8.ofNat (n >>> (8 * i))
def bytesOf : List Seg → Option (List UInt8)
  | [] => some []
  | .byt n k :: r => (bytesOf r).map fun l => bytL n k ++ l
  | .one (.lit (.int .u8 (.ofNat m))) :: r => match Nat.ble 256 m with
    | false => (bytesOf r).map fun l => UInt8.ofNat m :: l
    | true => none
  | .rep (.lit (.int .u8 (.ofNat m))) k :: r => match Nat.ble 256 m with
    | false => (bytesOf r).map fun l => List.replicate k (UInt8.ofNat m) ++ l
    | true => none
  | _ => none
/-- a long text of one byte many times is kept as that -/
def longV (vs : List Seg) (v : RV) : RV := match vs with
  | [.rep (.lit (.int .u8 (.ofNat c))) k] => match Nat.ble 1000 k with
    | true => .rst (UInt8.ofNat c) k
    | false => v
  | _ => v
def evConv (Ty : Tr TypeInfo) (h : Hp) (s d : TypeId) (x : RV) : Option (RV × Hp) :=
  match undE Ty s, undE Ty d, x with
  | some _, some (.int k), .lit (.int _ n) => some (.lit (.int k (k.wrap n)), h)
  | some _, some .string, .lit (.string t) => some (.lit (.string t), h)
  | some .string, some (.slice el), .lit (.string t) => match undE Ty el, h.room with
    | some (.int .u8), true => some (.slu h.nx 0 t.size 0, h.add (.row (pack (t.data.toList.map fun b => .int .u8 b.toNat)) el 1))
    | _, _ => none
  | some (.slice el), some .string, x => match undE Ty el, lenS' x with
    | some (.int .u8), some n => match firstS h 1 n x with
      | some vs => match Nat.beq (lenS vs) n, bytesOf vs with
        | true, some l => some (longV vs (.lit (.string ⟨⟨l⟩⟩)), h)
        | _, _ => none
      | none => none
    | _, _ => none
  | some (.slice _), some (.slice el), x => match undE Ty el, Nat.beq s d, rowOf x with
    | some (.int .u8), true, some (b, _, _) => match h.at? b with
      | some y => match y.segs with
        | some _ => some (x, h.put b y)
        | none => none
      | none => none
    | _, _, _ => none
  | _, _, _ => none
/-! ### maps -/
/-- one byte many times: is it this list? -/
def rstEq (c : UInt8) : Nat → List UInt8 → Bool
  | 0, [] => true
  | k + 1, x :: l => match c == x with
    | true => rstEq c k l
    | false => false
  | _, _ => false
def keyEq : RV → RV → Option Bool
  | .lit (.int j a), .lit (.int k b) => match decide (j = k) with
    | true => some (a == b)
    | false => none
  | .lit (.string a), .lit (.string b) => some (a.data.toList == b.data.toList)
  | .lit (.bool a), .lit (.bool b) => some (a == b)
  | .rst c k, .lit (.string b) => some (rstEq c k b.data.toList)
  | _, _ => none
/-- a key of its type -/
def keyT : TypeDesc → RV → Bool
  | .int k, .lit (.int j _) => decide (k = j)
  | .string, .lit (.string _) => true
  | .bool, .lit (.bool _) => true
  | .string, .rst _ _ => true
  | _, _ => false
def findE (k : RV) : List (RV × RV × Nat) → Nat → Option (Option (Nat × RV))
  | [], _ => some none
  | x :: r, i => match keyEq k x.1 with
    | some true => some (some (i, x.2.1))
    | some false => findE k r (i + 1)
    | none => none
def mapAt (h : Hp) : RV → Option (List (RV × RV × Nat))
  | .lit (.map none) => some []
  | .mp b => match h.at? b with
    | some (.map es _) => some es
    | _ => none
  | _ => none
def okV (ok : Bool) (v : RV) (b : Bool) : RV := match ok with
  | true => .tup [v, .lit (.bool b)]
  | false => v
def zeroV : Value → RV
  | .agg cs => .agg (pack cs.toList)
  | z => .lit z
def evLookup (Ty : Tr TypeInfo) (h : Hp) (t : TypeId) (m k : RV) (ok : Bool) : Option RV :=
  match undE Ty t with
  | some (.map kt el) => match undE Ty kt, zerE Ty el, mapAt h m with
    | some d, some z, some es => match keyT d k, findE k es 0 with
      | true, some none => some (okV ok (zeroV z) false)
      | true, some (some (_, v)) => some (okV ok v true)
      | _, _ => none
    | _, _, _ => none
  | _ => none
def setNth (v : RV) : List (RV × RV × Nat) → Nat → List (RV × RV × Nat)
  | [], _ => []
  | x :: r, 0 => (x.1, v, x.2.2) :: r
  | x :: r, n + 1 => x :: setNth v r n
def evMapUpd (Ty : Tr TypeInfo) (h : Hp) (t : TypeId) (m k v : RV) : Option Hp := match undE Ty t with
  | some (.map kt _) => match undE Ty kt, m with
    | some d, .mp b => match h.at? b, keyT d k with
      | some (.map es c), true => match findE k es 0 with
        | some none => some (h.put b (.map (es ++ [(k, v, c)]) (c + 1)))
        | some (some (i, _)) => some (h.put b (.map (setNth v es i) c))
        | none => none
      | _, _ => none
    | _, _ => none
  | _ => none
/-- a key goes -/
def evDel (Ty : Tr TypeInfo) (h : Hp) (t : TypeId) (m k : RV) : Option Hp := match undE Ty t with
  | some (.map kt _) => match undE Ty kt with
    | some d => match keyT d k with
      | true => match m with
        | .lit (.map none) => some h
        | .mp b => match h.at? b with
          | some (.map es c) => match findE k es 0 with
            | some none => some (h.put b (.map es c))
            | some (some (i, _)) => some (h.put b (.map (es.eraseIdx i) c))
            | none => none
          | _ => none
        | _ => none
      | false => none
    | none => none
  | _ => none
/-! ### a walk over a map that has an entry at most -/
def evRng (Ty : Tr TypeInfo) (h : Hp) (t : TypeId) (x : RV) : Option (RV × Hp) := match undE Ty t, h.room with
  | some (.map _ _), true => match x with
    | .lit (.map none) => some (.ptr h.nx 0, h.add (.itr none 0 [] 0))
    | .mp b => match h.at? b with
      | some (.map _ c) => some (.ptr h.nx 0, h.add (.itr (some b) c [] c))
      | _ => none
    | _ => none
  | _, _ => none
def bornLt (n : Nat) : List (RV × RV × Nat) → Bool
  | [] => true
  | x :: r => match Nat.ble (x.2.2 + 1) n with
    | true => bornLt n r
    | false => false
def hasN (b : Nat) : List Nat → Bool
  | [] => false
  | x :: r => match Nat.beq x b with
    | true => true
    | false => hasN b r
def leftE (seen : List Nat) : List (RV × RV × Nat) → List (RV × RV × Nat)
  | [] => []
  | x :: r => match hasN x.2.2 seen with
    | true => leftE seen r
    | false => x :: leftE seen r
def evNxt (h : Hp) (x : RV) (str : Bool) : Option (RV × Hp) := match str, x with
  | false, .ptr i 0 => match h.at? i with
    | some (.itr none _ _ _) => some (.tup [.lit (.bool false)], h)
    | some (.itr (some m) since seen c0) => match h.at? m with
      | some (.map es c) => match bornLt since es, Nat.ble since c0 with
        | true, true => match leftE seen es with
          | [] => some (.tup [.lit (.bool false)], h)
          | [y] => some (.tup [.lit (.bool true), y.1, y.2.1], h.put i (.itr (some m) since (seen ++ [y.2.2]) c))
          | _ => none
        | _, _ => none
      | _ => none
    | _ => none
  | _, _ => none
def lastN : List Nat → Option Nat
  | [] => none
  | [b] => some b
  | _ :: r => lastN r
def bornE (b : Nat) : List (RV × RV × Nat) → Option (RV × RV × Nat)
  | [] => none
  | x :: r => match Nat.beq x.2.2 b with
    | true => some x
    | false => bornE b r
def evEnt (h : Hp) (x : RV) : Option (RV × Hp) := match x with
  | .ptr i 0 => match h.at? i with
    | some (.itr (some m) _ seen c0) => match lastN seen, h.at? m with
      | some b, some (.map es c) => match Nat.beq c c0, bornE b es with
        | true, some y => some (.tup [y.1, y.2.1], h)
        | _, _ => none
      | _, _ => none
    | _ => none
  | _ => none
/-! ### operations -/
/-- what is to be done at a function's end -/
inductive Dfr where
  | mark (b : Nat)
  | call (g : FuncId) (xs cs : List RV)
structure Fr where
  nt : Nat
  T : Tr RV
  D : List Dfr
  ro : Option Nat
noncomputable def opd (F : Fr) : Operand → Option RV
  | .tmp t => match Nat.ble (t + 1) F.nt with
    | true => getR F.T t
    | false => none
  | .const v => match v with
    | .agg cs => some (.agg (pack cs.toList))
    | v => some (.lit v)
  | .global g => some (.lit (.pointer (some ⟨g, 0, none⟩)))
  | .func f => some (.fn (.func f) [] [])
noncomputable def opds (F : Fr) : List Operand → Option (List RV)
  | [] => some []
  | x :: r => match opd F x, opds F r with
    | some v, some l => some (v :: l)
    | _, _ => none
noncomputable def optR (F : Fr) : Option Operand → Option (Option RV)
  | none => some none
  | some x => (opd F x).map some
noncomputable def wantE (ops : List Oper) (F : Fr) (o : Oper) : Option Bool := match o.guard with
  | none => some true
  | some (j, want) => match ops[j]? with
    | some g => match g.dst with
      | some d => match opd F (.tmp d) with
        | some (.lit (.bool b)) => some (b == want)
        | some (.lit (.tuple _)) => some false
        | _ => none
      | none => none
    | none => none
structure CallE where
  fn : FuncId → List RV → Hp → Option (RV × Hp)
  yl : Nat → List RV → Hp → Option (RV × Hp)
  flat : TypeId → Bool
  df : FuncId → List RV → Hp → Option Hp
def evBi (Ty : Tr TypeInfo) (h : Hp) (b : Builtin) (ts : List TypeId) (xs : List RV) : Option (RV × Hp) :=
  match b, ts, xs with
  | .len, t :: _, x :: _ => (evLen Ty h t x).map fun v => (v, h)
  | .append, [t, u], [s, x] => evAppend Ty h t u s x
  | .copy, t :: _, [d, s] => evCopy Ty h t d s
  | .delete, t :: _, [m, k] => (evDel Ty h t m k).map fun h' => (.lit (.tuple #[]), h')
  | .clear, t :: _, [x] => match undE Ty t, x with
    | some _, .lit (.map none) => some (.lit (.tuple #[]), h)
    | some _, .lit (.slice none _ _) => some (.lit (.tuple #[]), h)
    | some _, .mp b => match h.at? b with
      | some (.map _ c) => some (.lit (.tuple #[]), h.put b (.map [] c))
      | _ => none
    | some (.slice el), x => match rowOf x, zerE Ty el with
      | some (b, o, n + 1), some z => (putRow h b o (timesS (pack z.cells.toList) (n + 1))).map fun h' => (.lit (.tuple #[]), h')
      | some (_, _, 0), some _ => some (.lit (.tuple #[]), h)
      | _, _ => none
    | _, _ => none
  | .min, _, [.lit (.int k a), .lit (.int _ b)] => some (.lit (.int k (if b < a then b else a)), h)
  | .max, _, [.lit (.int k a), .lit (.int _ b)] => some (.lit (.int k (if b > a then b else a)), h)
  | .max, _, [.lit (.int k a), .lit (.int _ b), .lit (.int _ c)] => some (.lit (.int k (if c > (if b > a then b else a) then c else (if b > a then b else a))), h)
  | _, _, _ => none
/-! ### one operation -/
noncomputable def opMove (F : Fr) (h : Hp) (x : Operand) : Option (RV × Hp) := (opd F x).map fun v => (v, h)
noncomputable def opPick (F : Fr) (h : Hp) (c a b : Operand) : Option (RV × Hp) := match opd F c with
  | some (.lit (.bool true)) => opMove F h a
  | some (.lit (.bool false)) => opMove F h b
  | _ => none
noncomputable def opBox (F : Fr) (h : Hp) (t : TypeId) (x : Operand) : Option (RV × Hp) := match opd F x with
  | some v => evBox h t v
  | none => none
def with_ (h : Hp) (v : Option RV) : Option (RV × Hp) := v.map fun v => (v, h)
def done_ (h : Option Hp) : Option (RV × Hp) := h.map fun h' => (.lit undef, h')
noncomputable def opBuild (Ty : Tr TypeInfo) (F : Fr) (h : Hp) (t : TypeId) (ps : Array (Nat × Operand)) : Option (RV × Hp) := match parts (opd F) ps.toList with
  | some l => with_ h (evBuild Ty t l)
  | none => none
noncomputable def opBuildSlice (Ty : Tr TypeInfo) (F : Fr) (h : Hp) (t : TypeId) (n : Nat) (ps : Array (Nat × Operand)) : Option (RV × Hp) := match parts (opd F) ps.toList with
  | some l => evBuildSlice Ty h t n l
  | none => none
noncomputable def opLoad (Ty : Tr TypeInfo) (F : Fr) (h : Hp) (t : TypeId) (x : Operand) : Option (RV × Hp) := match opd F x with
  | some p => with_ h (evLoad Ty h t p)
  | none => none
noncomputable def opStore (Ty : Tr TypeInfo) (F : Fr) (h : Hp) (t : TypeId) (x y : Operand) : Option (RV × Hp) := match opd F x with
  | some p => match opd F y with
    | some v => done_ (evStore Ty h t p v)
    | none => none
  | none => none
/-- a method's function, where its receiver is the value itself -/
def methE (Ty : Tr TypeInfo) (t : TypeId) (name : String) : Option FuncId := match Tr.get 10 Ty t with
  | some i => match i.methods.find? (fun m => m.name == name), undE Ty t with
    | some m, some (.pointer _) => match m.path.size, m.func with
      | 0, some (f, true) => some f
      | _, _ => none
    | _, _ => none
  | none => none
def notNil (Ty : Tr TypeInfo) : RV → Bool
  | .ptr _ _ => true
  | .mp _ => true
  | .fn (.func _) _ _ => true
  | .fn (.method name) (.ifc t _ :: _) _ => (methE Ty t name).isSome
  | .yld _ => true
  | .ifc _ _ => true
  | _ => false
noncomputable def opNil (Ty : Tr TypeInfo) (F : Fr) (h : Hp) (x : Operand) : Option (RV × Hp) := match opd F x with
  | some v => match notNil Ty v with
    | true => some (v, h)
    | false => none
  | none => none
def isEq : BinOp → Option Bool
  | .eql => some true
  | .neq => some false
  | _ => none
def isK : Operand → Bool
  | .const _ => true
  | _ => false
/-- the model's guard of a comparison is silent -/
def quietEq (x y : Operand) (a b : RV) : Bool := match a, b with
  | .lit .nilIface, .lit .nilIface => isK x || isK y
  | .agg _, _ => false
  | .lit (.agg _), _ => false
  | _, _ => true
def opEq (Ty : Tr TypeInfo) (h : Hp) (op : BinOp) (t : TypeId) (x y : Operand) (a b : RV) : Option (RV × Hp) := match isEq op with
  | some p => match undE Ty t with
    | some d => match nilEq d a b with
      | some c => match quietEq x y a b with
        | true => some (.lit (.bool (c == p)), h)
        | false => none
      | none => none
    | none => none
  | none => none
def eqLit : Value → Value → Bool
  | .int j a, .int k b => decide (j = k) && a == b
  | .bool a, .bool b => a == b
  | .string a, .string b => a.data.toList == b.data.toList
  | .pointer none, .pointer none => true
  | .slice none n c, .slice none m d => Nat.beq n m && Nat.beq c d
  | .map none, .map none => true
  | .nilIface, .nilIface => true
  | .nilFunc, .nilFunc => true
  | .tuple cs, .tuple ds => Nat.beq cs.size 0 && Nat.beq ds.size 0
  | _, _ => false
def eqFn : Fn → Fn → Bool
  | .func f, .func g => Nat.beq f g
  | .method f, .method g => decide (f = g)
  | _, _ => false
mutual
def eqRV : RV → RV → Bool
  | .lit u, .lit v => eqLit u v
  | .ptr b o, .ptr c p => Nat.beq b c && Nat.beq o p
  | .sl b o n c, .sl b' o' n' c' => Nat.beq b b' && (Nat.beq o o' && (Nat.beq n n' && Nat.beq c c'))
  | .slu b o n c, .slu b' o' n' c' => Nat.beq b b' && (Nat.beq o o' && (Nat.beq n n' && Nat.beq c c'))
  | .sle b o n c, .sle b' o' n' c' => Nat.beq b b' && (Nat.beq o o' && (Nat.beq n n' && Nat.beq c c'))
  | .yld b, .yld c => Nat.beq b c
  | .mp b, .mp c => Nat.beq b c
  | .fn f a b, .fn g c d => eqFn f g && (eqRL a c && eqRL b d)
  | .ifc t v, .ifc u w => Nat.beq t u && eqRV v w
  | .agg cs, .agg ds => eqSS cs ds
  | .tup vs, .tup ws => eqRL vs ws
  | .rst c k, .rst c2 k2 => decide (c = c2) && Nat.beq k k2
  | _, _ => false
def eqRL : List RV → List RV → Bool
  | [], [] => true
  | v :: r, w :: s => eqRV v w && eqRL r s
  | _, _ => false
def eqSeg : Seg → Seg → Bool
  | .one v, .one w => eqRV v w
  | .byt n k, .byt m j => Nat.beq n m && Nat.beq k j
  | .rep v k, .rep w j => eqRV v w && Nat.beq k j
  | _, _ => false
def eqSS : List Seg → List Seg → Bool
  | [], [] => true
  | s :: r, t :: q => eqSeg s t && eqSS r q
  | _, _ => false
end
/-! equality of structs and arrays -/
def basicEq (d : TypeDesc) (x y : RV) : Option Bool := match x, y with
  | .lit (.int j a), .lit (.int k b) => match d, decide (j = k) with
    | .int _, true => some (a == b)
    | _, _ => none
  | .lit (.string a), .lit (.string b) => match d with
    | .string => some (a.data.toList == b.data.toList)
    | _ => none
  | x, y => nilEq d x y
def eqFs (Ty : Tr TypeInfo) (rec : TypeId → RV → RV → Option Bool) (cs ds : List Seg) : List Field → Option Bool
  | [] => some true
  | f :: fs => match decide (f.name = "_") with
    | true => eqFs Ty rec cs ds fs
    | false => match evPart Ty f.type cs f.offset, evPart Ty f.type ds f.offset with
      | some x, some y => match rec f.type x y with
        | some true => eqFs Ty rec cs ds fs
        | some false => some false
        | none => none
      | _, _ => none
def eqE (Ty : Tr TypeInfo) (flat : TypeId → Bool) : Nat → TypeId → RV → RV → Option Bool
  | 0, _, _, _ => none
  | n + 1, t, x, y => match x with
    | .agg cs => match y with
      | .agg ds => match undE Ty t with
        | some (.struct fs) => match flat t with
          | true => eqFs Ty (eqE Ty flat n) cs ds fs.toList
          | false => none
        | some (.array m el) => match undE Ty el, szE Ty el, cs, ds with
          | some (.int .u8), some 1, [.byt a k], [.byt b j] => match Nat.beq k m, Nat.beq j m, n with
            | true, true, _ + 1 => some (Nat.beq (a % 2 ^ (8 * m)) (b % 2 ^ (8 * m)))
            | _, _, _ => none
          | _, _, _, _ => none
        | _ => none
      | _ => none
    | x => match undE Ty t with
      | some d => basicEq d x y
      | none => none
def opEqA (Ty : Tr TypeInfo) (flat : TypeId → Bool) (h : Hp) (op : BinOp) (t : TypeId) (a b : RV) : Option (RV × Hp) := match isEq op, b with
  | some p, .agg _ => match flat t with
    | true => match eqE Ty flat 9 t a b with
      | some c => some (.lit (.bool (c == p)), h)
      | none => none
    | false => none
  | _, _ => none
/-! ### maps whose keys are structs of plain values -/
/-- fields of plain types, in each a value of its type -/
def keyFs (Ty : Tr TypeInfo) (cs : List Seg) : List Field → Bool
  | [] => true
  | f :: fs => match evPart Ty f.type cs f.offset, undE Ty f.type with
    | some x, some d => match keyT d x with
      | true => keyFs Ty cs fs
      | false => false
    | _, _ => false
def keyAg (Ty : Tr TypeInfo) (kt : TypeId) : RV → Bool
  | .agg cs => match undE Ty kt with
    | some (.struct fs) => keyFs Ty cs fs.toList
    | _ => false
  | _ => false
def findA (Ty : Tr TypeInfo) (flat : TypeId → Bool) (kt : TypeId) (k : RV) : List (RV × RV × Nat) → Nat → Option (Option (Nat × RV × RV))
  | [], _ => some none
  | x :: r, i => match eqE Ty flat 9 kt k x.1 with
    | some true => some (some (i, x.1, x.2.1))
    | some false => findA Ty flat kt k r (i + 1)
    | none => none
def plainSeg : Seg → Bool
  | .one (.lit (.int _ _)) => true
  | .one (.lit (.bool _)) => true
  | .one (.lit (.string _)) => true
  | _ => false
/-- a struct of plain values -/
def plainAg : RV → Bool
  | .agg cs => cs.all plainSeg
  | _ => false
def evLookA (Ty : Tr TypeInfo) (flat : TypeId → Bool) (h : Hp) (t : TypeId) (m k : RV) (ok : Bool) : Option RV := match undE Ty t with
  | some (.map kt el) => match zerE Ty el, mapAt h m, keyAg Ty kt k with
    | some z, some es, true => match findA Ty flat kt k es 0 with
      | some none => some (okV ok (zeroV z) false)
      | some (some (_, _, v)) => some (okV ok v true)
      | none => none
    | _, _, _ => none
  | _ => none
def evUpdA (Ty : Tr TypeInfo) (flat : TypeId → Bool) (h : Hp) (t : TypeId) (m k v : RV) : Option Hp := match undE Ty t, m with
  | some (.map kt _), .mp b => match h.at? b, keyAg Ty kt k with
    | some (.map es c), true => match findA Ty flat kt k es 0 with
      | some none => some (h.put b (.map (es ++ [(k, v, c)]) (c + 1)))
      | some (some (i, y, _)) => match plainAg k, eqRV y k with
        | true, true => some (h.put b (.map (setNth v es i) c))
        | _, _ => none
      | none => none
    | _, _ => none
  | _, _ => none
/-- delete of a key that is a struct -/
def isDelA (b : Builtin) (xs : List RV) : Bool := match b with
  | .delete => match xs with
    | [_, .agg _] => true
    | _ => false
  | _ => false
def evDelA (Ty : Tr TypeInfo) (flat : TypeId → Bool) (h : Hp) (t : TypeId) (m k : RV) : Option Hp := match undE Ty t, m with
  | some (.map kt _), .mp b => match h.at? b, keyAg Ty kt k with
    | some (.map es c), true => match findA Ty flat kt k es 0 with
      | some none => some (h.put b (.map es c))
      | some (some (i, _, _)) => some (h.put b (.map (es.eraseIdx i) c))
      | none => none
    | _, _ => none
  | _, _ => none
def evBiA (Ty : Tr TypeInfo) (flat : TypeId → Bool) (h : Hp) (ts : List TypeId) (xs : List RV) : Option (RV × Hp) := match ts, xs with
  | t :: _, [m, k] => (evDelA Ty flat h t m k).map fun h' => (.lit (.tuple #[]), h')
  | _, _ => none
def opBi (Ty : Tr TypeInfo) (flat : TypeId → Bool) (h : Hp) (b : Builtin) (ts : List TypeId) (xs : List RV) : Option (RV × Hp) := match isDelA b xs with
  | true => evBiA Ty flat h ts xs
  | false => evBi Ty h b ts xs
/-- a key's entry: its place, its key, its value -/
def findK (Ty : Tr TypeInfo) (flat : TypeId → Bool) (kt : TypeId) (k : RV) (es : List (RV × RV × Nat)) : Option (Option (Nat × RV × RV)) := match k with
  | .agg ks => match keyAg Ty kt (.agg ks) with
    | true => findA Ty flat kt (.agg ks) es 0
    | false => none
  | k => match undE Ty kt with
    | some d => match keyT d k, findE k es 0 with
      | true, some none => some none
      | true, some (some (i, v)) => some (some (i, k, v))
      | _, _ => none
    | none => none
def staysK (k y : RV) : Bool := match k with
  | .agg ks => plainAg (.agg ks) && eqRV y (.agg ks)
  | _ => true
/-- an entry that is to be written: its value, its stamp -/
def evMe (Ty : Tr TypeInfo) (flat : TypeId → Bool) (h : Hp) (t : TypeId) (m k : RV) : Option (RV × Hp) := match undE Ty t, m with
  | some (.map kt el), .mp b => match h.at? b with
    | some (.map es c) => match findK Ty flat kt k es with
      | some none => match zerE Ty el with
        | some z => some (.tup [zeroV z, intV c], h.put b (.map (es ++ [(k, zeroV z, c)]) (c + 1)))
        | none => none
      | some (some (i, y, v)) => match staysK k y, es[i]? with
        | true, some x => some (.tup [v, intV x.2.2], h.put b (.map es c))
        | _, _ => none
      | none => none
    | _ => none
  | _, _ => none
def idxB (n : Nat) : List (RV × RV × Nat) → Option Nat
  | [] => none
  | x :: r => match Nat.beq x.2.2 n with
    | true => some 0
    | false => match idxB n r with
      | some i => some (i + 1)
      | none => none
def evEs (h : Hp) (m s x : RV) : Option Hp := match m, s with
  | .mp b, .lit (.int _ (.ofNat n)) => match h.at? b with
    | some (.map es c) => match idxB n es with
      | some i => some (h.put b (.map (setNth x es i) c))
      | none => none
    | _ => none
  | _, _ => none
noncomputable def opMe (Ty : Tr TypeInfo) (flat : TypeId → Bool) (F : Fr) (h : Hp) (t : TypeId) (m k : Operand) : Option (RV × Hp) := match opd F m with
  | some a => match opd F k with
    | some b => evMe Ty flat h t a b
    | none => none
  | none => none
noncomputable def opEs (F : Fr) (h : Hp) (m s x : Operand) : Option (RV × Hp) := match opd F m with
  | some a => match opd F s with
    | some b => match opd F x with
      | some c => done_ (evEs h a b c)
      | none => none
    | none => none
  | none => none
noncomputable def opUpd (Ty : Tr TypeInfo) (flat : TypeId → Bool) (F : Fr) (h : Hp) (t : TypeId) (m k v : Operand) : Option (RV × Hp) := match opd F m with
  | some a => match opd F k with
    | some b => match opd F v with
      | some c => match b with
        | .agg ks => done_ (evUpdA Ty flat h t a (.agg ks) c)
        | b => done_ (evMapUpd Ty h t a b c)
      | none => none
    | none => none
  | none => none
/-- a text held against one byte many times -/
def rstB (op : BinOp) (a b : RV) : Option Bool := match op, a, b with
  | .eql, .lit (.string s), .rst c k => some (rstEq c k s.data.toList)
  | _, _, _ => none
noncomputable def opBin (Ty : Tr TypeInfo) (flat : TypeId → Bool) (F : Fr) (h : Hp) (op : BinOp) (t : TypeId) (x y : Operand) : Option (RV × Hp) := match opd F x with
  | some a => match opd F y with
    | some b => match evBin op a b with
      | some v => some (v, h)
      | none => match rstB op a b with
        | some c => some (.lit (.bool c), h)
        | none => match a with
          | .agg _ => opEqA Ty flat h op t a b
          | _ => opEq Ty h op t x y a b
    | none => none
  | none => none
noncomputable def opUn (F : Fr) (h : Hp) (op : UnOp) (x : Operand) : Option (RV × Hp) := match op with
  | .not => match opd F x with
    | some (.lit (.bool b)) => some (.lit (.bool (!b)), h)
    | _ => none
  | .xor => match opd F x with
    | some (.lit (.int k n)) => match xorB k (if k.signed then -1 else k.max) n with
      | some v => some (.lit v, h)
      | none => none
    | _ => none
  | .neg => match opd F x with
    | some (.lit (.int k n)) => some (.lit (.int k (k.wrap (0 - n))), h)
    | _ => none
  | _ => none
noncomputable def opConv (Ty : Tr TypeInfo) (F : Fr) (h : Hp) (s d : TypeId) (x : Operand) : Option (RV × Hp) := match opd F x with
  | some v => evConv Ty h s d v
  | none => none
def concE (Ty : Tr TypeInfo) (t : TypeId) : Bool := match undE Ty t with
  | some (.interface _) => false
  | some _ => true
  | none => false
noncomputable def opIfc (Ty : Tr TypeInfo) (F : Fr) (h : Hp) (t : TypeId) (x : Operand) : Option (RV × Hp) := match concE Ty t with
  | true => (opd F x).map fun v => (.ifc t v, h)
  | false => none
noncomputable def opFunc (F : Fr) (h : Hp) (f : Fn) (a b : Array Operand) : Option (RV × Hp) := match opds F a.toList with
  | some u => match opds F b.toList with
    | some v => some (.fn f u v, h)
    | none => none
  | none => none
noncomputable def opMap (h : Hp) (r : Option Operand) : Option (RV × Hp) := match r with
  | none => match h.room with
    | true => some (.mp h.nx, h.add (.map [] 0))
    | false => none
  | some _ => none
noncomputable def opMkSl (Ty : Tr TypeInfo) (F : Fr) (h : Hp) (t : TypeId) (l c : Operand) : Option (RV × Hp) := match opd F l with
  | some a => match opd F c with
    | some b => evMakeSlice Ty h t a b
    | none => none
  | none => none
noncomputable def opSlice (Ty : Tr TypeInfo) (F : Fr) (h : Hp) (t : TypeId) (x : Operand) (lo hi mx : Option Operand) : Option (RV × Hp) := match opd F x with
  | some v => match optR F lo, optR F hi, optR F mx with
    | some a, some b, some c => with_ h (evSlice Ty h t v a b c)
    | _, _, _ => none
  | none => none
noncomputable def opFA (Ty : Tr TypeInfo) (F : Fr) (h : Hp) (t : TypeId) (x : Operand) (f : Nat) : Option (RV × Hp) := match opd F x with
  | some p => with_ h (evField Ty t f p)
  | none => none
noncomputable def opFV (Ty : Tr TypeInfo) (F : Fr) (h : Hp) (t : TypeId) (x : Operand) (f : Nat) : Option (RV × Hp) := match opd F x with
  | some p => with_ h (evFieldV Ty t f p)
  | none => none
noncomputable def opIA (Ty : Tr TypeInfo) (F : Fr) (h : Hp) (t : TypeId) (x i : Operand) : Option (RV × Hp) := match opd F x with
  | some a => match opd F i with
    | some b => with_ h (evIndexA Ty t a b)
    | none => none
  | none => none
noncomputable def opIV (Ty : Tr TypeInfo) (F : Fr) (h : Hp) (t : TypeId) (x i : Operand) : Option (RV × Hp) := match opd F x with
  | some a => match opd F i with
    | some b => with_ h (evIndexV Ty t a b)
    | none => none
  | none => none
noncomputable def opLook (Ty : Tr TypeInfo) (flat : TypeId → Bool) (F : Fr) (h : Hp) (t : TypeId) (m k : Operand) (ok : Bool) : Option (RV × Hp) := match opd F m with
  | some a => match opd F k with
    | some b => match b with
      | .agg ks => with_ h (evLookA Ty flat h t a (.agg ks) ok)
      | b => with_ h (evLookup Ty h t a b ok)
    | none => none
  | none => none
noncomputable def opExt (F : Fr) (h : Hp) (x : Operand) (k : Nat) : Option (RV × Hp) := match opd F x with
  | some p => with_ h (evExtract k p)
  | none => none
noncomputable def opCallV (call : CallE) (h : Hp) (f : RV) (xs : List RV) : Option (RV × Hp) := match f with
  | .fn (.func g) a b => call.fn g (a ++ (xs ++ b)) h
  | .yld b => call.yl b xs h
  | _ => none
noncomputable def opCall (Ty : Tr TypeInfo) (call : CallE) (F : Fr) (h : Hp) (c : Call) : Option (RV × Hp) := match opds F c.args.toList with
  | some xs => match c.callee with
    | .builtin b => opBi Ty call.flat h b c.argTypes.toList xs
    | .value f => match opd F f with
      | some g => opCallV call h g xs
      | none => none
    | .invoke x name => match opd F x with
      | some (.ifc t v) => match methE Ty t name with
        | some g => call.fn g (v :: xs) h
        | none => none
      | _ => none
  | none => none
noncomputable def opRng (Ty : Tr TypeInfo) (F : Fr) (h : Hp) (t : TypeId) (x : Operand) : Option (RV × Hp) := match opd F x with
  | some a => evRng Ty h t a
  | none => none
noncomputable def opNxt (F : Fr) (h : Hp) (x : Operand) (str : Bool) : Option (RV × Hp) := match opd F x with
  | some a => evNxt h a str
  | none => none
noncomputable def opEnt (F : Fr) (h : Hp) (x : Operand) : Option (RV × Hp) := match opd F x with
  | some a => evEnt h a
  | none => none
/-- a type assertion to a type that is no interface -/
noncomputable def taNo (Ty : Tr TypeInfo) (h : Hp) (ta : TypeId) (ok : Bool) : Option (RV × Hp) := match ok with
  | true => (zerE Ty ta).map fun z => (okV true (zeroV z) false, h)
  | false => none
noncomputable def opTA (Ty : Tr TypeInfo) (F : Fr) (h : Hp) (x : Operand) (ta : TypeId) (ok : Bool) : Option (RV × Hp) := match opd F x, concE Ty ta with
  | some (.ifc t v), true => match Nat.beq t ta with
    | true => some (okV ok v true, h)
    | false => taNo Ty h ta ok
  | some (.lit .nilIface), true => taNo Ty h ta ok
  | _, _ => none
noncomputable def evOp (Ty : Tr TypeInfo) (call : CallE) (F : Fr) (h : Hp) (o : Oper) : Option (RV × Hp) :=
  Op.casesOn (motive := fun _ => Option (RV × Hp)) o.op
    (fun x => opMove F h x) (fun x => opMove F h x) (fun c a b => opPick F h c a b) (fun t => evAlloc Ty h t) (fun t x => opBox F h t x)
    (fun t ps => opBuild Ty F h t ps) (fun t n ps => opBuildSlice Ty F h t n ps) (fun t m k v => opUpd Ty call.flat F h t m k v) (fun t a => opLoad Ty F h t a)
    (fun t a v => opStore Ty F h t a v) (fun _ => none) (fun _ => none) (fun x => opNil Ty F h x) (fun op t x y _ => opBin Ty call.flat F h op t x y)
    (fun op _ x => opUn F h op x) (fun s d x => opConv Ty F h s d x) (fun _ _ => none) (fun t x => opIfc Ty F h t x) (fun f a b => opFunc F h f a b)
    (fun _ r => opMap h r) (fun _ _ => none) (fun t l c => opMkSl Ty F h t l c) (fun t x lo hi mx => opSlice Ty F h t x lo hi mx)
    (fun t x f => opFA Ty F h t x f) (fun t x f => opFV Ty F h t x f) (fun t x i => opIA Ty F h t x i) (fun t x i => opIV Ty F h t x i)
    (fun t m k ok => opLook Ty call.flat F h t m k ok) (fun t m k v => opUpd Ty call.flat F h t m k v) (fun t m k => opMe Ty call.flat F h t m k) (fun _ m s v => opEs F h m s v) (fun t x => opRng Ty F h t x)
    (fun x s => opNxt F h x s) (fun x => opEnt F h x) (fun x _ ta ok => opTA Ty F h x ta ok) (fun x k => opExt F h x k) (fun c => opCall Ty call F h c) (fun _ => none) (fun _ => none)
    (fun _ => none) (fun _ _ => none) (fun _ _ _ => none) (fun _ _ => none)
/-! ### forcing: the kernel is to hold its values whole -/
def forceN {β : Type} (n : Nat) (k : Nat → β) : β := Nat.casesOn n (k 0) (fun m => k (Nat.succ m))
theorem forceN_eq {β : Type} (n : Nat) (k : Nat → β) : forceN n k = k n := by cases n <;> rfl
def forceB {β : Type} (b : Bool) (k : Bool → β) : β := Bool.casesOn b (k false) (k true)
theorem forceB_eq {β : Type} (b : Bool) (k : Bool → β) : forceB b k = k b := by cases b <;> rfl
def forceI {β : Type} (n : Int) (k : Int → β) : β := Int.casesOn n (fun m => forceN m fun m => k (.ofNat m)) (fun m => forceN m fun m => k (.negSucc m))
theorem forceI_eq {β : Type} (n : Int) (k : Int → β) : forceI n k = k n := by
  cases n with
  | ofNat m => exact forceN_eq m (fun m => k (.ofNat m))
  | negSucc m => exact forceN_eq m (fun m => k (.negSucc m))
def forceV {β : Type} (v : RV) (k : RV → β) : β := match v with
  | .lit (.int j n) => forceI n fun n => k (.lit (.int j n))
  | .lit (.bool b) => forceB b fun b => k (.lit (.bool b))
  | .ptr b o => forceN b fun b => forceN o fun o => k (.ptr b o)
  | .sl b o n c => forceN b fun b => forceN o fun o => forceN n fun n => forceN c fun c => k (.sl b o n c)
  | .slu b o n c => forceN b fun b => forceN o fun o => forceN n fun n => forceN c fun c => k (.slu b o n c)
  | .mp b => forceN b fun b => k (.mp b)
  | v => k v
theorem forceV_eq {β : Type} (v : RV) (k : RV → β) : forceV v k = k v := by
  unfold forceV
  split <;> simp only [forceN_eq, forceI_eq, forceB_eq]
abbrev OpsE := Fr → Hp → Option (Fr × Hp)
noncomputable def putK (ih : OpsE) (F : Fr) (d : Option Tmp) (v : RV) (h' : Hp) : Option (Fr × Hp) :=
  Option.casesOn d (ih F h') (fun d => forceV v fun v => Fr.casesOn F fun nt T D ro => Bool.rec (motive := fun _ => Option (Fr × Hp)) none (setR T d (.leaf v) fun T => ih ⟨nt, T, D, ro⟩ h') (Nat.ble (Nat.succ d) nt))
/-- a deferred call -/
noncomputable def deferE (ih : OpsE) (F : Fr) (h : Hp) (o : Oper) : Option (Fr × Hp) := match o.op with
  | .defer c => match c.callee with
    | .value f => match opd F f, opds F c.args.toList, F.ro with
      | some (.fn (.func g) p s), some xs, none => putK ih ⟨F.nt, F.T, .call g (p ++ xs) s :: F.D, none⟩ o.dst (.lit undef) h
      | _, _, _ => none
    | _ => none
  | _ => none
noncomputable def opsGo (ih : OpsE) (F : Fr) (h : Hp) (o : Oper) (r : Option (RV × Hp)) : Option (Fr × Hp) :=
  Option.casesOn r (deferE ih F h o) (fun p => Prod.casesOn p fun v h' => putK ih F o.dst v h')
noncomputable def opsStep (Ty : Tr TypeInfo) (call : CallE) (ops : List Oper) (o : Oper) (ih : OpsE) (F : Fr) (h : Hp) : Option (Fr × Hp) := match wantE ops F o with
  | some true => opsGo ih F h o (evOp Ty call F h o)
  | some false => putK ih F o.dst (.lit undef) h
  | none => none
noncomputable def evOps (Ty : Tr TypeInfo) (call : CallE) (ops l : List Oper) : OpsE :=
  List.rec (motive := fun _ => OpsE) (fun F h => some (F, h)) (fun o _ ih F h => opsStep Ty call ops o ih F h) l
/-! ### code -/
inductive Xt where
  | normal
  | exit (id : Nat)
  | ret
abbrev CodeE := Fr → Hp → Option (Xt × Fr × Hp)
noncomputable def thenE (k : CodeE) (r : Option (Xt × Fr × Hp)) : Option (Xt × Fr × Hp) := match r with
  | some (.normal, F', h') => k F' h'
  | r => r
noncomputable def loopE (body : CodeE) (n : Nat) : CodeE :=
  Nat.rec (motive := fun _ => CodeE) (fun _ _ => none) (fun _ ih F h => thenE ih (body F h)) n
noncomputable def regE (r : Option (Fr × Hp)) : Option (Xt × Fr × Hp) := match r with
  | some (F', h') => some (.normal, F', h')
  | none => none
noncomputable def condE (F : Fr) (h : Hp) (c : Option RV) (a b : CodeE) : Option (Xt × Fr × Hp) := match c with
  | some (.lit (.bool true)) => a F h
  | some (.lit (.bool false)) => b F h
  | _ => none
noncomputable def blockE (i : Nat) (r : Option (Xt × Fr × Hp)) : Option (Xt × Fr × Hp) := match r with
  | some (.exit j, F', h') => match Nat.beq j i with
    | true => some (.normal, F', h')
    | false => some (.exit j, F', h')
  | r => r
/-! ### a drawn region -/
/-- operations that only read -/
def quietK (Ty : Tr TypeInfo) (o : Oper) : Bool := match o.op with
  | .convert s d _ => match undE Ty s, undE Ty d with
    | some (.int _), some (.int _) => true
    | some (.slice _), some .string => true
    | _, _ => false
  | .move _ => true
  | .pick _ _ _ => true
  | .build _ _ => true
  | .load _ _ => true
  | .nilCheck _ => true
  | .binOp _ _ _ _ _ => true
  | .unOp _ _ _ => true
  | .makeInterface _ _ => true
  | .makeFunc _ _ _ => true
  | .slice _ _ _ _ _ => true
  | .fieldAddr _ _ _ => true
  | .field _ _ _ => true
  | .indexAddr _ _ _ => true
  | .index _ _ _ => true
  | .lookup _ _ _ _ => true
  | .extract _ _ => true
  | .call c => match c.callee with
    | .builtin .len => true
    | .builtin .min => true
    | .builtin .max => true
    | _ => false
  | _ => false
def pickQ (Ty : Tr TypeInfo) (ops : Array Oper) : List Nat → Option (Nat × Oper)
  | [] => none
  | i :: r => match ops[i]? with
    | some o => match quietK Ty o with
      | true => some (i, o)
      | false => pickQ Ty ops r
    | none => pickQ Ty ops r
/-- nobody still to come writes what o looks at -/
def unseen (ops : Array Oper) (listed : Array Bool) (o : Oper) : Bool :=
  (List.range ops.size).all fun j => listed.getD j true || match ops[j]? with
    | some oj => match oj.dst with
      | some d => !(o.looksAt ops).contains d
      | none => true
    | none => true
def waitsB (L : Oper) (i : Nat) : Bool := L.after.toList.any fun e => Region.binds .any e && Nat.beq e.on i
def isAssign (o : Oper) : Bool := match o.op with
  | .assign _ => true
  | _ => false
/-- nobody still to come writes what o looks at, but assignments that wait for it -/
def unseenQ (ops : Array Oper) (listed : Array Bool) (i : Nat) (o : Oper) : Bool :=
  (List.range ops.size).all fun j => listed.getD j true || match ops[j]? with
    | some oj => match oj.dst with
      | some d => !(o.looksAt ops).contains d || (isAssign oj && waitsB oj i)
      | none => true
    | none => true
/-- operations that make a block of their own, out of values alone -/
def floatE (Ty : Tr TypeInfo) (o : Oper) : Bool := match o.guard, o.dst with
  | none, some _ => match o.op with
    | .alloc _ => true
    | .box _ _ => true
    | .buildSlice _ _ _ => true
    | .convert s d _ => match undE Ty s, undE Ty d with
      | some .string, some (.slice _) => true
      | _, _ => false
    | _ => false
  | _, _ => false
/-- those of them that yield a slice -/
def slicy (o : Oper) : Bool := match o.op with
  | .buildSlice _ _ _ => true
  | .convert _ _ _ => true
  | _ => false
/-- []byte of a slice: it marks its block -/
def markE (Ty : Tr TypeInfo) (o : Oper) : Option Tmp := match o.guard, o.dst with
  | none, some _ => match o.op with
    | .convert s d x => match x, undE Ty s, undE Ty d with
      | .tmp y, some (.slice _), some (.slice el) => match undE Ty el, Nat.beq s d with
        | some (.int .u8), true => some y
        | _, _ => none
      | _, _, _ => none
    | _ => none
  | _, _ => none
def isSomeB {α : Type} : Option α → Bool
  | some _ => true
  | none => false
def loose (Ty : Tr TypeInfo) (o : Oper) : Bool := floatE Ty o || isSomeB (markE Ty o)
def looseAt (Ty : Tr TypeInfo) (ops : Array Oper) (i : Nat) : Bool := match ops[i]? with
  | some o => loose Ty o
  | none => false
/-- what may come up ahead of p without anybody's help -/
def cloGo (Ty : Tr TypeInfo) (ops : Array Oper) (p : Nat) : Nat → Array Bool → List Nat
  | 0, _ => []
  | n + 1, l => match (Region.ready .any ops l).find? (fun i => !(Nat.beq i p) && looseAt Ty ops i) with
    | some i => i :: cloGo Ty ops p n (l.setIfInBounds i true)
    | none => []
def lst (is : List Nat) (l : Array Bool) : Array Bool := is.foldl (fun l i => l.setIfInBounds i true) l
/-- the slice that a mark marks is made by j -/
def marksOf (Ty : Tr TypeInfo) (ops : Array Oper) (o : Oper) (y : Tmp) (j : Nat) : Bool := match ops[j]? with
  | some oj => floatE Ty oj && (slicy oj && (decide (oj.dst = some y) && o.after.toList.any fun e => Region.binds .any e && Nat.beq e.on j))
  | none => false
def flOk (Ty : Tr TypeInfo) (ops : Array Oper) (listed : Array Bool) (fl : List Nat) (k : Nat) : Bool := match ops[k]? with
  | some o => !(listed.getD k true) && match floatE Ty o with
    | true => unseen ops listed o
    | false => match markE Ty o with
      | some y => fl.any (marksOf Ty ops o y)
      | none => false
  | none => false
def nodupD : List Oper → Bool
  | [] => true
  | o :: r => (match o.dst with
    | some d => r.all fun q => !(decide (q.dst = some d))
    | none => true) && nodupD r
def headOk (Ty : Tr TypeInfo) (ops : Array Oper) (listed : Array Bool) (p : Nat) (o : Oper) (fl : List Nat) : Bool :=
  decide (Region.ready .any ops (lst fl listed) = [p]) && (fl.all (flOk Ty ops listed fl) && (fl.all (fun k => !(Nat.beq k p)) && (unseen ops listed o && nodupD ops.toList)))
def headGo (Ty : Tr TypeInfo) (ops : Array Oper) (n : Nat) (listed : Array Bool) : List Nat → Option (Nat × Oper × List Nat)
  | [] => none
  | p :: r => match ops[p]? with
    | some o => match headOk Ty ops listed p o (cloGo Ty ops p n listed) with
      | true => some (p, o, cloGo Ty ops p n listed)
      | false => headGo Ty ops n listed r
    | none => headGo Ty ops n listed r
/-- a step of a plan: does it only read? whose, and who may come up ahead of it -/
abbrev PlSt := Bool × Nat × Oper × List Nat
def planGo (Ty : Tr TypeInfo) (ops : Array Oper) : Nat → Array Bool → Option (List PlSt)
  | 0, listed => match Region.ready .any ops listed with
    | [] => some []
    | _ => none
  | n + 1, listed => match Region.ready .any ops listed with
    | [] => some []
    | i :: rs => match pickQ Ty ops (i :: rs) with
      | some (j, o) => match Region.free .any ops listed j, unseenQ ops listed j o with
        | true, true => (planGo Ty ops n (listed.setIfInBounds j true)).map fun l => (true, j, o, []) :: l
        | _, _ => none
      | none => match rs with
        | [] => match ops[i]? with
          | some o => (planGo Ty ops n (listed.setIfInBounds i true)).map fun l => (false, i, o, []) :: l
          | none => none
        | _ :: _ => match headGo Ty ops n listed (i :: rs) with
          | some (p, o, fl) => (planGo Ty ops n (listed.setIfInBounds p true)).map fun l => (false, p, o, fl) :: l
          | none => none
def isDefer (o : Oper) : Bool := match o.op with
  | .defer _ => true
  | _ => false
def planE (Ty : Tr TypeInfo) (ops : Array Oper) : Option (List PlSt) := match Region.noSelect ops, ops.toList.any isDefer with
  | true, false => planGo Ty ops ops.size (Array.replicate ops.size false)
  | _, _ => none
structure Cm where
  i : Nat
  o : Oper
  v : RV
noncomputable def recheck (ev : Fr → Hp → Oper → Option (RV × Hp)) (F : Fr) (h : Hp) (L : Oper) (C : List Cm) : Option (List Cm) :=
  List.rec (motive := fun _ => Option (List Cm)) (some []) (fun c _ ih => match ih with
    | none => none
    | some r => match waitsB L c.i with
      | true => some r
      | false => match ev F h c.o with
        | some (v, _) => match eqRV v c.v with
          | true => some (c :: r)
          | false => none
        | none => none) C
abbrev PlanE := List Cm → OpsE
/-- all of them that make a block can be made -/
noncomputable def flRun (Ty : Tr TypeInfo) (call : CallE) (ops : List Oper) (F : Fr) (h : Hp) (fl : List Nat) : Bool :=
  List.rec (motive := fun _ => Bool) true (fun k _ ih => match ops[k]? with
    | some o => match o.dst, floatE Ty o with
      | some d, true => match Nat.ble (d + 1) F.nt, evOp Ty call F h o with
        | true, some _ => ih
        | _, _ => false
      | some d, false => match Nat.ble (d + 1) F.nt with
        | true => ih
        | false => false
      | none, _ => false
    | none => false) fl
noncomputable def headE (Ty : Tr TypeInfo) (call : CallE) (ops : List Oper) (o : Oper) (fl : List Nat) (C : List Cm) (F : Fr) (h : Hp) : Bool := match fl with
  | [] => true
  | _ :: _ => match flRun Ty call ops F h fl, recheck (evOp Ty call) F h { o with after := #[] } C with
    | true, some _ => true
    | _, _ => false
noncomputable def soloE (Ty : Tr TypeInfo) (call : CallE) (s : PlSt) (ih : PlanE) (C : List Cm) (F : Fr) (h : Hp) : Option (Fr × Hp) :=
  match evOp Ty call F h s.2.2.1 with
  | some (v, h') => match s.1 with
    | true => putK (ih (⟨s.2.1, s.2.2.1, v⟩ :: C)) F s.2.2.1.dst v h
    | false => match recheck (evOp Ty call) F h' s.2.2.1 C with
      | some C' => putK (ih C') F s.2.2.1.dst v h'
      | none => none
  | none => none
noncomputable def planStep (Ty : Tr TypeInfo) (call : CallE) (ops : List Oper) (s : PlSt) (ih : PlanE) (C : List Cm) (F : Fr) (h : Hp) : Option (Fr × Hp) :=
  match wantE ops F s.2.2.1, headE Ty call ops s.2.2.1 s.2.2.2 C F h with
  | some true, true => soloE Ty call s ih C F h
  | some false, true => putK (ih (match s.1 with
    | true => C
    | false => C.filter fun c => !waitsB s.2.2.1 c.i)) F s.2.2.1.dst (.lit undef) h
  | _, _ => none
noncomputable def evPlan (Ty : Tr TypeInfo) (call : CallE) (ops : List Oper) (l : List PlSt) : PlanE :=
  List.rec (motive := fun _ => PlanE) (fun _ F h => some (F, h)) (fun s _ ih => planStep Ty call ops s ih) l
noncomputable def evDr (Ty : Tr TypeInfo) (call : CallE) (ops : Array Oper) : OpsE := fun F h => match planE Ty ops with
  | some l => evPlan Ty call ops.toList l [] F h
  | none => none
noncomputable def evRe (Ty : Tr TypeInfo) (call : CallE) (ops : Array Oper) (d : Bool) : OpsE := fun F h =>
  Bool.rec (motive := fun _ => Option (Fr × Hp)) (evOps Ty call ops.toList ops.toList F h) (evDr Ty call ops F h) d
/-! ### a range over a function -/
def jumpX : Option Code → Option Xt
  | none => some .normal
  | some (.exit i) => some (.exit i)
  | some .ret => some .ret
  | some _ => none
noncomputable def rangeEnd (F : Fr) (l : Nat) (r : Option (RV × Hp)) : Option (Xt × Fr × Hp) := match r with
  | some (_, h2) => match h2.at? l with
    | some (.lop L) => match L.st with
      | .busy => none
      | _ => match jumpX L.pend with
        | some x => some (x, F, h2.drop l)
        | none => none
    | _ => none
  | none => none
noncomputable def evRange (call : CallE) (g : Operand) (ps : Array Tmp) (asg body : Code) : CodeE := fun F h =>
  match opd F g with
  | some (.fn (.func q) a b) => match F.ro with
    | none => match h.room, (h.add .dfr).room with
      | true, true => rangeEnd ⟨F.nt, F.T, .mark h.nx :: F.D, none⟩ (h.nx + 1) (call.fn q (a ++ ([.yld (h.nx + 1)] ++ b)) ((h.add .dfr).add (.lop ⟨F.nt, F.T, ps, asg, body, .ready, none⟩)))
      | _, _ => none
    | some l => match h.at? l, h.room with
      | some (.lop _), true => rangeEnd F h.nx (call.fn q (a ++ ([.yld h.nx] ++ b)) (h.add (.lop ⟨F.nt, F.T, ps, asg, body, .ready, none⟩)))
      | _, _ => none
  | _ => none
noncomputable def evCode (Ty : Tr TypeInfo) (call : CallE) (lf : Nat) (c : Code) : CodeE :=
  Code.rec (motive := fun _ => CodeE) (fun F h => some (.normal, F, h))
    (fun _ ops d F h => regE (evRe Ty call ops d F h))
    (fun _ _ a b F h => thenE b (a F h))
    (fun c _ _ a b F h => condE F h (opd F c) a b)
    (fun i _ b F h => blockE i (b F h))
    (fun _ b F h => loopE b lf F h)
    (fun g ps asg body _ _ F h => evRange call g ps asg body F h)
    (fun i F h => some (.exit i, F, h))
    (fun _ b F h => b F h)
    (fun _ F h => some (.normal, F, h))
    (fun _ _ _ => none)
    (fun F h => some (.ret, F, h))
    (fun _ _ _ => none) c
/-! ### plans at hand -/
abbrev PlI := Bool × Nat × List Nat
abbrev PlT := List (Nat × List PlI)
noncomputable def nthO (l : List Oper) : Nat → Option Oper :=
  List.rec (motive := fun _ => Nat → Option Oper) (fun _ => none) (fun o _ ih n => Nat.casesOn n (some o) ih) l
noncomputable def attachP (ops : List Oper) (l : List PlI) : Option (List PlSt) :=
  List.rec (motive := fun _ => Option (List PlSt)) (some []) (fun x _ ih => match nthO ops x.2.1, ih with
    | some o, some r => some ((x.1, x.2.1, o, x.2.2) :: r)
    | _, _ => none) l
noncomputable def ptAt (pt : PlT) (id : Nat) : Option (List PlI) :=
  List.rec (motive := fun _ => Option (List PlI)) none (fun x _ ih => Bool.rec (motive := fun _ => Option (List PlI)) ih (some x.2) (Nat.beq x.1 id)) pt
noncomputable def evDrP (Ty : Tr TypeInfo) (call : CallE) (pl : Option (List PlI)) (ops : Array Oper) : OpsE := fun F h => match pl with
  | some l => match attachP ops.toList l with
    | some l' => evPlan Ty call ops.toList l' [] F h
    | none => none
  | none => evDr Ty call ops F h
noncomputable def evReP (Ty : Tr TypeInfo) (call : CallE) (pl : Option (List PlI)) (ops : Array Oper) (d : Bool) : OpsE := fun F h =>
  Bool.rec (motive := fun _ => Option (Fr × Hp)) (evOps Ty call ops.toList ops.toList F h) (evDrP Ty call pl ops F h) d
noncomputable def evCodeP (Ty : Tr TypeInfo) (call : CallE) (lf : Nat) (pt : PlT) (c : Code) : CodeE :=
  Code.rec (motive := fun _ => CodeE) (fun F h => some (.normal, F, h))
    (fun id ops d F h => regE (evReP Ty call (ptAt pt id) ops d F h))
    (fun _ _ a b F h => thenE b (a F h))
    (fun c _ _ a b F h => condE F h (opd F c) a b)
    (fun i _ b F h => blockE i (b F h))
    (fun _ b F h => loopE b lf F h)
    (fun g ps asg body _ _ F h => evRange call g ps asg body F h)
    (fun i F h => some (.exit i, F, h))
    (fun _ b F h => b F h)
    (fun _ F h => some (.normal, F, h))
    (fun _ _ _ => none)
    (fun F h => some (.ret, F, h))
    (fun _ _ _ => none) c
def stripP (l : List PlSt) : List PlI := l.map fun s => (s.1, s.2.1, s.2.2.2)
def chkR (Ty : Tr TypeInfo) (pl : Option (List PlI)) (ops : Array Oper) : Bool := match pl with
  | some l => match planE Ty ops with
    | some q => decide (stripP q = l)
    | none => false
  | none => true
noncomputable def chkC (Ty : Tr TypeInfo) (pt : PlT) (c : Code) : Bool :=
  Code.rec (motive := fun _ => Bool) true (fun id ops d => !d || chkR Ty (ptAt pt id) ops) (fun _ _ a b => a && b) (fun _ _ _ a b => a && b) (fun _ _ b => b) (fun _ b => b)
    (fun _ _ _ _ _ _ => true) (fun _ => true) (fun _ b => b) (fun _ => true) (fun _ => true) true (fun _ => true) c
noncomputable def resE (Ty : Tr TypeInfo) (F : Fr) (h : Hp) : List ResultVar → Option (List RV)
  | [] => some []
  | .tmp t :: r => match opd F (.tmp t), resE Ty F h r with
    | some v, some l => some (v :: l)
    | _, _ => none
  | .cell a t :: r => match opd F (.tmp a) with
    | some p => match evLoad Ty h t p, resE Ty F h r with
      | some v, some l => some (v :: l)
      | _, _ => none
    | none => none
noncomputable def argsT : List RV → Nat → Tr RV → Tr RV
  | [], _, T => T
  | v :: r, i, T => setR T i (.leaf v) fun T => argsT r (i + 1) T
/-- what was deferred, at the function's end: marks; calls that do nothing where nobody panics; other calls -/
noncomputable def evDef (dno : FuncId → Bool) (df : FuncId → List RV → Hp → Option Hp) (l : List Dfr) : Hp → Option Hp :=
  List.rec (motive := fun _ => Hp → Option Hp) (fun h => some h) (fun d _ ih h => match d with
    | .mark b => match h.at? b with
      | some .dfr => ih (h.drop b)
      | _ => none
    | .call g xs cs => match dno g with
      | true => ih h
      | false => match df g (xs ++ cs) h with
        | some h1 => ih h1
        | none => none) l
noncomputable def finE (Ty : Tr TypeInfo) (dno : FuncId → Bool) (df : FuncId → List RV → Hp → Option Hp) (rs : List ResultVar) (r : Option (Xt × Fr × Hp)) : Option (RV × Hp) := match r with
  | some (.exit _, _, _) => none
  | some (_, F, h1) => match evDef dno df F.D h1 with
    | some h' => match resE Ty F h' rs with
      | some [v] => some (v, h')
      | some l => some (.tup l, h')
      | none => none
    | none => none
  | none => none
noncomputable def runE (Ty : Tr TypeInfo) (dno : FuncId → Bool) (call : CallE) (lf : Nat) (pt : PlT) (fn : Func) (xs : List RV) (h : Hp) : Option (RV × Hp) := match fn.body with
  | some c => match Nat.ble xs.length fn.ntmps with
    | false => none
    | true => finE Ty dno call.df fn.results.toList (evCodeP Ty call lf pt c ⟨fn.ntmps, argsT xs 0 (fullR (.lit undef) (Nat.log2 fn.ntmps + 1)), [], none⟩ h)
  | none => none
abbrev OrcE := List RV → Hp → Option (RV × Hp)
def ptOf (Pt : Tr PlT) (f : FuncId) : PlT := match Tr.get 10 Pt f with
  | some l => l
  | none => []
noncomputable def tryE (Ty : Tr TypeInfo) (dno : FuncId → Bool) (Fn : Tr Func) (Pt : Tr PlT) (lf : Nat) (call : CallE) (f : FuncId) (xs : List RV) (h : Hp) (o : Option OrcE) : Option (RV × Hp) := match o with
  | some g => g xs h
  | none => match Tr.get 10 Fn f with
    | some fn => runE Ty dno call lf (ptOf Pt f) fn xs h
    | none => none
/-- a call put aside, at its time: what it answers is lost -/
noncomputable def endD (Ty : Tr TypeInfo) (rs : List ResultVar) (r : Option (Xt × Fr × Hp)) : Option Hp := match r with
  | some (.exit _, _, _) => none
  | some (_, F, h1) => match F.D, resE Ty F h1 rs with
    | [], some _ => some h1
    | _, _ => none
  | none => none
noncomputable def tryD (Ty : Tr TypeInfo) (lf : Nat) (call : CallE) (pt : PlT) (xs : List RV) (h : Hp) (o : Option Func) : Option Hp := match o with
  | some fn => match fn.body with
    | some c => match Nat.ble xs.length fn.ntmps with
      | true => endD Ty fn.results.toList (evCodeP Ty call lf pt c ⟨fn.ntmps, argsT xs 0 (fullR (.lit undef) (Nat.log2 fn.ntmps + 1)), [], none⟩ h)
      | false => none
    | none => none
  | none => none
/-! ### a round of a loop over a function -/
def parsOk (nt : Nat) : List Tmp → Bool
  | [] => true
  | t :: r => match Nat.ble (t + 1) nt with
    | true => parsOk nt r
    | false => false
noncomputable def parT : List Tmp → List RV → Tr RV → Tr RV
  | t :: ts, v :: vs, T => setR T t (.leaf v) fun T => parT ts vs T
  | _, _, T => T
noncomputable def endYl (b : Nat) (r : Option (Xt × Fr × Hp)) : Option (RV × Hp) := match r with
  | some (x, _, h) => match h.at? b with
    | some (.lop L) => match x with
      | .normal => some (.lit (.bool true), h.put b (.lop ⟨L.nt, L.T, L.ps, L.asg, L.body, .ready, none⟩))
      | .exit i => some (.lit (.bool false), h.put b (.lop ⟨L.nt, L.T, L.ps, L.asg, L.body, .done, some (.exit i)⟩))
      | .ret => some (.lit (.bool false), h.put b (.lop ⟨L.nt, L.T, L.ps, L.asg, L.body, .done, some .ret⟩))
    | _ => none
  | none => none
noncomputable def midYl (b : Nat) (k : CodeE) (r : Option (Xt × Fr × Hp)) : Option (RV × Hp) := match r with
  | some (.normal, F, h) => match h.at? b with
    | some (.lop L) => match L.st with
      | .ready => endYl b (k F (h.put b (.lop ⟨L.nt, L.T, L.ps, L.asg, L.body, .busy, L.pend⟩)))
      | _ => none
    | _ => none
  | _ => none
noncomputable def evYl (Ty : Tr TypeInfo) (call : CallE) (lf : Nat) (b : Nat) (xs : List RV) (h : Hp) : Option (RV × Hp) := match h.at? b with
  | some (.lop L) => match Nat.beq xs.length L.ps.size, parsOk L.nt L.ps.toList with
    | true, true => midYl b (evCode Ty call lf L.body) (evCode Ty call lf L.asg ⟨L.nt, parT L.ps.toList xs L.T, [], some b⟩ h)
    | _, _ => none
  | _ => none
noncomputable def evCall (Ty : Tr TypeInfo) (dno : FuncId → Bool) (flat : TypeId → Bool) (Fn : Tr Func) (Pt : Tr PlT) (orc : Tr OrcE) (lf d : Nat) : CallE :=
  Nat.rec (motive := fun _ => CallE) ⟨fun _ _ _ => none, fun _ _ _ => none, flat, fun _ _ _ => none⟩
    (fun _ ih => ⟨fun f xs h => tryE Ty dno Fn Pt lf ih f xs h (Tr.get 10 orc f), fun b xs h => evYl Ty ih lf b xs h, flat, fun f xs h => tryD Ty lf ih (ptOf Pt f) xs h (Tr.get 10 Fn f)⟩) d
end Go.Proofs.YtlfljoeafpimpaaGreatDoor
