/- A part of the walks of the program's functions, each a contract that its caller uses; no condition but what each theorem names. Plain Lean functions that say what the program's storage layers (pack, crc, disk, page, freemap, root) compute; no Go here. Words on the heap: a block that is known whole, what a call may have changed, and values as lists. Slices that own their row, or have none; append onto them; conversions of bytes; make and clear. -/
import Derived.WalkKit
import Derived.Lib.Hide
import Derived.Deep.QuietTactic
import Derived.BigQuiet
import Derived.Deep.RegionLaw
import Derived.Deep.DeepCutAuto
import Derived.Deep.AppendSrc
import Derived.Laws.CopyOwn
import Derived.Lib.ConvBytes

namespace Go.Proofs.YtjbpdgknhbnfgaaGreat

abbrev Bytes := List UInt8

/-- The lowest k bytes of a number, the highest first. -/
def be : Nat → Nat → Bytes
  | 0, _ => []
  | k + 1, n => be k (n / 256) ++ [UInt8.ofNat (n % 256)]

/-- Bytes as a number, the highest first. -/
def unbe (l : Bytes) : Nat := l.foldl (fun n b => n * 256 + b.toNat) 0

def two63 : Nat := 2 ^ 63
def two64 : Nat := 2 ^ 64

/-- pack.I -/
def packI (n : Int) : Bytes := be 8 (((n + (two63 : Int)) % (two64 : Int)).toNat)

/-- what pack.ReadI reads of eight bytes -/
def unpackI (l : Bytes) : Int := (unbe l : Int) - (two63 : Int)

def two (n : Int) : Bytes := [UInt8.ofNat ((n / 256 % 256).toNat), UInt8.ofNat ((n % 256).toNat)]
def untwo (a b : UInt8) : Int := (a.toNat : Int) * 256 + b.toNat

/-! crc -/
def crcTab (i : Nat) : BitVec 32 :=
  match i with
  | 0 => 0x00000000 | 1 => 0x105ec76f | 2 => 0x20bd8ede | 3 => 0x30e349b1 | 4 => 0x417b1dbc | 5 => 0x5125dad3 | 6 => 0x61c69362 | 7 => 0x7198540d
  | 8 => 0x82f63b78 | 9 => 0x92a8fc17 | 10 => 0xa24bb5a6 | 11 => 0xb21572c9 | 12 => 0xc38d26c4 | 13 => 0xd3d3e1ab | 14 => 0xe330a81a | _ => 0xf36e6f75
def crcStep (r : BitVec 32) : BitVec 32 := (r >>> 4) ^^^ crcTab (r &&& 15#32).toNat
def crcTake (r : BitVec 32) (c : UInt8) : BitVec 32 := crcStep (crcStep (r ^^^ BitVec.ofNat 32 c.toNat))
def crcSum (l : Bytes) : BitVec 32 := ~~~ (l.foldl crcTake (~~~ 0#32))
def crcFour (r : BitVec 32) : Bytes := [UInt8.ofNat (r.toNat % 256), UInt8.ofNat (r.toNat / 256 % 256), UInt8.ofNat (r.toNat / 65536 % 256), UInt8.ofNat (r.toNat / 16777216 % 256)]
def crcLay (l : Bytes) : Bytes := crcFour (crcSum l) ++ l
/-- crc.Cut: the bytes behind the check, if it is right -/
def crcOk (l : Bytes) : Bool := crcFour (crcSum (l.drop 4)) == l.take 4

/-! lists -/
def lay {α : Type} (L : List α) (off : Nat) (cs : List α) : List α := L.take off ++ (cs ++ L.drop (off + cs.length))
def padTo (n : Nat) (s : Bytes) : Bytes := s.take n ++ List.replicate (n - s.length) 0

/-! disk -/
structure Disk where
  now : Bytes
  old : Bytes
  loose : List Bool
  armed : Int
  down : Bool

namespace Disk
def sectors (d : Disk) : Nat := d.loose.length
structure Ok (d : Disk) : Prop where
  now : d.now.length = 64 * d.loose.length
  old : d.old.length = 64 * d.loose.length
  few : d.loose.length ≤ 4096
  armed : 0 ≤ d.armed ∧ d.armed ≤ 9223372036854775807

def works (d : Disk) : Int := if d.down then 13 else 0
def at_ (d : Disk) (i : Int) : Int := if d.down then 13 else if i < 0 ∨ (d.loose.length : Int) ≤ i then 3 else 0
def counts (d : Disk) : Int × Disk :=
  if d.armed = 0 then (0, d)
  else (Disk.works { d with armed := d.armed - 1, down := d.armed - 1 == 0 }, { d with armed := d.armed - 1, down := d.armed - 1 == 0 })
def sector (l : Bytes) (i : Nat) : Bytes := (l.drop (64 * i)).take 64
def keep (d : Disk) (i : Nat) : Disk :=
  if d.loose.getD i false then d else { d with old := lay d.old (64 * i) (sector d.now i), loose := d.loose.set i true }
def fill (d : Disk) (i : Nat) (s : Bytes) : Disk := { d with now := lay d.now (64 * i) (padTo 64 s) }
def write (d : Disk) (i : Int) (s : Bytes) : Int × Disk :=
  if d.at_ i ≠ 0 then (d.at_ i, d) else ((d.keep i.toNat).fill i.toNat s).counts
def sync (d : Disk) : Int × Disk :=
  if d.down then (13, d) else
  if d.counts.1 ≠ 0 then d.counts else (0, { d.counts.2 with loose := List.replicate d.loose.length false })
def read (d : Disk) (i : Int) : Bytes × Int :=
  if d.at_ i ≠ 0 then ([], d.at_ i) else (sector d.now i.toNat, 0)
def new (n : Nat) : Disk := { now := List.replicate (64 * n) 0, old := List.replicate (64 * n) 0, loose := List.replicate n false, armed := 0, down := false }
end Disk

/-! page -/
structure Page where
  id : Int
  epoch : Int
  kind : Int
  payload : Bytes

def Page.none : Page := ⟨0, 0, 0, []⟩
def Page.right (p : Page) : Bool := decide (0 ≤ p.id ∧ 0 ≤ p.epoch ∧ p.epoch ≤ 1099511627776 ∧ 0 ≤ p.kind ∧ p.kind ≤ 2147483647)
def Page.bytes (p : Page) : Bytes := crcLay (packI p.id ++ packI p.epoch ++ be 4 p.kind.toNat ++ p.payload ++ List.replicate (232 - p.payload.length) 0)
def pagePut (p : Page) : Bytes × Int :=
  if p.right = false then ([], 2) else if 232 < p.payload.length then ([], 4) else (p.bytes, 0)
def pageOf (s : Bytes) : Page := ⟨unpackI ((s.drop 4).take 8), unpackI ((s.drop 12).take 8), unbe ((s.drop 20).take 4), s.drop 24⟩
def pageGet (s : Bytes) : Page × Int :=
  if s.length ≠ 256 then (.none, 6) else if crcOk s = false then (.none, 14) else if (pageOf s).right = false then (.none, 14) else (pageOf s, 0)
def Disk.many (d : Disk) : Nat := (d.sectors - 2) / 4
def Disk.writes (d : Disk) (at_ : Int) (s : Bytes) : Nat → Int × Disk
  | 0 => (0, d)
  | k + 1 => if (d.write at_ (s.take 64)).1 ≠ 0 then d.write at_ (s.take 64) else (d.write at_ (s.take 64)).2.writes (at_ + 1) (s.drop 64) k
def pageWrite (d : Disk) (p : Page) : Int × Disk :=
  if (pagePut p).2 ≠ 0 then ((pagePut p).2, d) else if (d.many : Int) ≤ p.id then (3, d) else d.writes (2 + p.id * 4) (pagePut p).1 4
def pageRead (d : Disk) (id : Int) : Page × Int :=
  if id < 0 ∨ (d.many : Int) ≤ id then (.none, 3) else if d.down then (.none, 13) else
  let b := (d.now.drop (64 * (2 + 4 * id.toNat))).take 256
  if (pageGet b).2 ≠ 0 then (.none, (pageGet b).2) else if (pageGet b).1.id ≠ id then (.none, 14) else ((pageGet b).1, 0)

/-! freemap: 0 free, 1 used, 2 fresh, 3 leaving -/
abbrev FMap := List Int
namespace FMap
def at_ (m : FMap) (i : Int) : Int := if i < 0 ∨ (m.length : Int) ≤ i then 3 else 0
def kind (m : FMap) (i : Int) : Int := m.getD i.toNat 0
def use (m : FMap) (i : Int) : Int × FMap := if m.at_ i ≠ 0 then (m.at_ i, m) else if m.kind i ≠ 0 then (10, m) else (0, m.set i.toNat 1)
def first (m : FMap) : Nat := m.findIdx (· == 0)
def take (m : FMap) : Int × Int × FMap := if m.first < m.length then (m.first, 0, List.set m m.first 2) else (0, 11, m)
def leave (m : FMap) (i : Int) : Int × FMap :=
  if m.at_ i ≠ 0 then (m.at_ i, m) else if m.kind i = 2 then (0, m.set i.toNat 0) else if m.kind i = 1 then (0, m.set i.toNat 3) else (9, m)
def turn (m : FMap) (leaving fresh : Int) : FMap := m.map fun k => if k = 3 then leaving else if k = 2 then fresh else k
def commit (m : FMap) : FMap := m.turn 0 1
def abort (m : FMap) : FMap := m.turn 1 0
def list (m : FMap) (kind : Int) : List Int := ((List.range m.length).filter (fun (i : Nat) => m.getD i 0 == kind)).map (fun (i : Nat) => (i : Int))
def fresh (m : FMap) (i : Int) : Bool := decide (m.at_ i = 0) && decide (m.kind i = 2)
end FMap

/-! root -/
structure Root where
  epoch : Int
  logical : Int
  parts : List Int

def rootNeed (n : Int) : Int := if n < 1 then 0 else (n - 1) / 116 + 1
def partsRight : List Int → List Int → Bool
  | _, [] => true
  | seen, p :: l => if p < 0 ∨ 1023 < p ∨ p ∈ seen then false else partsRight (seen ++ [p]) l
def Root.right (r : Root) : Bool :=
  if r.epoch < 1 ∨ 1099511627776 < r.epoch ∨ r.logical < 0 ∨ 512 < r.logical ∨ (r.parts.length : Int) ≠ rootNeed r.logical then false else partsRight [] r.parts
def twos (l : List Int) : Bytes := l.flatMap two
def Root.body (r : Root) : Bytes := two r.logical ++ two r.parts.length ++ twos (r.parts ++ List.replicate (5 - r.parts.length) 0) ++ List.replicate 30 0
def Root.bytes (r : Root) : Bytes := packI r.epoch ++ crcLay r.body ++ packI r.epoch
def rootPut (r : Root) : Bytes × Int := if r.right = false then ([], 2) else (r.bytes, 0)
def numAt (b : Bytes) (i : Nat) : Int := untwo (b.getD i 0) (b.getD (i + 1) 0)
def rootOf (s : Bytes) : Root :=
  let b := (s.drop 12).take 44
  { epoch := unpackI (s.take 8), logical := numAt b 0, parts := ((List.range 5).map fun i => numAt b (4 + 2 * i)).take (numAt b 2).toNat }
def rootGet (s : Bytes) : Option Root :=
  if s.length ≠ 64 then none
  else if unpackI (s.take 8) ≠ unpackI (s.drop 56) ∨ crcOk ((s.drop 8).take 48) = false then none
  else if 5 < numAt ((s.drop 12).take 44) 2 then none
  else if rootPut (rootOf s) = (s, 0) then some (rootOf s) else none
def rootNewer (a b : Bytes) : Option (Root × Int) :=
  match rootGet a, rootGet b with
  | none, none => none
  | none, some y => some (y, 1)
  | some x, none => some (x, 0)
  | some x, some y => if x.epoch < y.epoch then some (y, 1) else some (x, 0)
def putPart (table : List Int) (part : Nat) : Bytes × Int :=
  if rootNeed table.length ≤ part then ([], 3)
  else if ((table.drop (116 * part)).take 116).any (fun p => decide (1023 < p)) then ([], 2)
  else (twos (((table.drop (116 * part)).take 116).map fun p => max p (-1) + 1), 0)
def getPart (s : Bytes) (many : Int) : List Int × Int :=
  if many < 0 ∨ 116 < many then ([], 2) else if (s.length : Int) < 2 * many then ([], 5)
  else if ((List.range many.toNat).map fun i => numAt s (2 * i)).any (fun n => decide (1024 < n)) then ([], 14)
  else ((List.range many.toNat).map fun i => numAt s (2 * i) - 1, 0)

/-! shadow -/
structure Store where
  d : Disk
  m : FMap
  table : List Int
  old : List Int
  parts : List Int
  epoch : Int
  slot : Int
  broken : Bool

def Disk.pages (d : Disk) : Nat := min d.many 1024
def badErr (e : Int) : Int := if e = 13 then 13 else 14
namespace Store
def works (s : Store) : Int := if s.broken then 13 else 0
def tab (s : Store) (l : Int) : Int := s.table.getD l.toNat (-1)
def at_ (s : Store) (l : Int) : Int := if s.broken then 13 else if l < 0 ∨ (s.table.length : Int) ≤ l ∨ s.tab l < 0 then 3 else 0
def put (s : Store) (id kind : Int) (p : Bytes) : Int × Store :=
  let r := pageWrite s.d ⟨id, s.epoch + 1, kind, p⟩
  (r.1, { s with d := r.2 })
def fresh (s : Store) (p : Bytes) : Int × Int × Store :=
  let t := FMap.take s.m
  if t.2.1 ≠ 0 then (0, t.2.1, s) else
  let r := { s with m := t.2.2 }.put t.1 2 p
  if r.1 ≠ 0 then (0, r.1, { r.2 with m := (FMap.leave r.2.m t.1).2 }) else (t.1, 0, r.2)
def hole (s : Store) : Nat := s.table.findIdx (· == -1)
def new (s : Store) (p : Bytes) : Int × Int × Store :=
  if s.broken then (0, 13, s) else
  if 232 < p.length then (0, 4, s) else if 512 ≤ s.hole then (0, 11, s) else
  let r := s.fresh p
  if r.2.1 ≠ 0 then (0, r.2.1, r.2.2) else
  (s.hole, 0, { r.2.2 with table := if s.hole = s.table.length then s.table ++ [r.1] else s.table.set s.hole r.1 })
def write (s : Store) (l : Int) (p : Bytes) : Int × Store :=
  if s.broken then (13, s) else if 232 < p.length then (4, s) else if s.at_ l ≠ 0 then (s.at_ l, s) else
  if FMap.fresh s.m (s.tab l) then s.put (s.tab l) 2 p else
  let r := s.fresh p
  if r.2.1 ≠ 0 then (r.2.1, r.2.2) else (0, { r.2.2 with m := (FMap.leave r.2.2.m (s.tab l)).2, table := s.table.set l.toNat r.1 })
def read (s : Store) (l : Int) : Bytes × Int :=
  if s.at_ l ≠ 0 then ([], s.at_ l) else
  let r := pageRead s.d (s.tab l)
  if r.2 ≠ 0 then ([], badErr r.2) else (r.1.payload, 0)
def drop (s : Store) (l : Int) : Int × Store :=
  if s.at_ l ≠ 0 then (s.at_ l, s) else (0, { s with m := (FMap.leave s.m (s.tab l)).2, table := s.table.set l.toNat (-1) })
def pages (s : Store) : List Int := ((List.range s.table.length).filter (fun (i : Nat) => decide (0 ≤ s.table.getD i 0))).map (fun (i : Nat) => (i : Int))
def abort (s : Store) : Store := { s with m := FMap.abort s.m, table := s.old }
end Store

end Go.Proofs.YtjbpdgknhbnfgaaGreat

namespace Go.Proofs.YtjbpdgknhbnfgaaGreat
open Go.RowKit

/-- Block b is a row of the cells cs (nothing frozen). -/
def Blk (w : World) (b : Nat) (T : TypeId) (cs : List Value) : Prop := w.heap[b]? = some (.cells cs.toArray T (0, 0))

theorem Blk.lt {w : World} {b : Nat} {T : TypeId} {cs : List Value} (h : Blk w b T cs) : b < w.heap.size := (Array.getElem?_eq_some_iff.1 h).1
theorem Blk.cell {w : World} {b : Nat} {T : TypeId} {cs : List Value} (h : Blk w b T cs) (i : Nat) : w.cell? ⟨b, i, none⟩ = cs[i]? := by
  rw [cell_of_row w b i _ T (0, 0) h]; simp
theorem Blk.free {w : World} {b : Nat} {T : TypeId} {cs : List Value} (h : Blk w b T cs) (i : Nat) : w.frozen? ⟨b, i, none⟩ = false := frozen_of_row w b i _ T h
theorem Blk.set {w : World} {b : Nat} {T : TypeId} {cs : List Value} (h : Blk w b T cs) (i : Nat) (v : Value) : Blk (w.setCell ⟨b, i, none⟩ v) b T (cs.set i v) := by
  have := heap_setCell_same w b i cs.toArray T v h
  simpa [Blk] using this
theorem Blk.other {w : World} {b : Nat} {T : TypeId} {cs : List Value} (h : Blk w b T cs) (a : Addr) (v : Value) (hne : b ≠ a.block) : Blk (w.setCell a v) b T cs := by
  unfold Blk; rw [heap_setCell_other w a b v hne]; exact h
theorem Blk.alloc {w : World} {b : Nat} {T : TypeId} {cs : List Value} (h : Blk w b T cs) (o : Obj) : Blk (w.alloc o) b T cs := by
  unfold Blk; rw [heap_alloc_old w o h.lt]; exact h
theorem Blk.drew {w : World} {b : Nat} {T : TypeId} {cs : List Value} (h : Blk w b T cs) : Blk w.drew b T cs := h
theorem Blk.drewN {w : World} {b : Nat} {T : TypeId} {cs : List Value} (h : Blk w b T cs) (n : Nat) : Blk (w.drewN n) b T cs := h
theorem Blk.new (w : World) (T : TypeId) (cs : List Value) : Blk (w.alloc (.cells cs.toArray T)) w.heap.size T cs := heap_alloc_new w _
theorem Blk.row {w : World} {b : Nat} {T : TypeId} {cs : List Value} (h : Blk w b T cs) (cs' : List Value) : Blk (w.setRow b cs'.toArray) b T cs' := setRow_heap w b _ _ T _ h
theorem Blk.rowOther {w : World} {b : Nat} {T : TypeId} {cs : List Value} (h : Blk w b T cs) (g : Nat) (cs' : Array Value) (hne : b ≠ g) : Blk (w.setRow g cs') b T cs := by
  unfold Blk; rw [setRow_other w g b cs' hne]; exact h

theorem Blk.four {w : World} {b : Nat} {T : TypeId} {x0 x1 x2 x3 : Value} (h : Blk w b T [x0, x1, x2, x3]) :
    (w.cell? ⟨b, 0, none⟩ = some x0 ∧ w.cell? ⟨b, 1, none⟩ = some x1 ∧ w.cell? ⟨b, 2, none⟩ = some x2 ∧ w.cell? ⟨b, 3, none⟩ = some x3) ∧
    (w.frozen? ⟨b, 0, none⟩ = false ∧ w.frozen? ⟨b, 1, none⟩ = false ∧ w.frozen? ⟨b, 2, none⟩ = false ∧ w.frozen? ⟨b, 3, none⟩ = false) :=
  ⟨⟨h.cell 0, h.cell 1, h.cell 2, h.cell 3⟩, ⟨h.free 0, h.free 1, h.free 2, h.free 3⟩⟩

/-- Of what was there only the blocks of F may have changed; new ones may have come. -/
structure Chg (F : List Nat) (w w' : World) : Prop where
  os : w'.os = w.os
  tape : w'.tape = w.tape
  output : w'.output = w.output
  size : w.heap.size ≤ w'.heap.size
  block : ∀ k, k < w.heap.size → k ∉ F → w'.heap[k]? = w.heap[k]?

theorem Chg.refl (F : List Nat) (w : World) : Chg F w w := ⟨rfl, rfl, rfl, Nat.le_refl _, fun _ _ _ => rfl⟩
theorem Chg.mono {F G : List Nat} {w w' : World} (h : Chg F w w') (hs : ∀ k ∈ F, k ∈ G) : Chg G w w' :=
  ⟨h.os, h.tape, h.output, h.size, fun k hk hn => h.block k hk fun hm => hn (hs k hm)⟩
/-- The second step may change what the first one was let change, and what is new since. -/
theorem Chg.trans {F G : List Nat} {w w1 w2 : World} (h : Chg F w w1) (k : Chg G w1 w2) (hG : ∀ g ∈ G, g ∈ F ∨ w.heap.size ≤ g) : Chg F w w2 :=
  ⟨k.os.trans h.os, k.tape.trans h.tape, k.output.trans h.output, Nat.le_trans h.size k.size, fun j hj hn =>
    (k.block j (Nat.lt_of_lt_of_le hj h.size) fun hm => (hG j hm).elim hn (fun h2 => absurd hj (by omega))).trans (h.block j hj hn)⟩
theorem Chg.trans1 {F : List Nat} {w w1 w2 : World} (h : Chg F w w1) (k : Chg F w1 w2) : Chg F w w2 := h.trans k fun _ h => .inl h
theorem Chg.trans0 {F : List Nat} {w w1 w2 : World} (h : Chg F w w1) (k : Chg [] w1 w2) : Chg F w w2 := h.trans k fun _ h => by cases h
theorem Chg.alloc {F : List Nat} {a w : World} (h : Chg F a w) (o : Obj) : Chg F a (w.alloc o) :=
  h.trans (G := []) ⟨rfl, rfl, rfl, by simp, fun k hk _ => heap_alloc_old w o hk⟩ (fun _ h => by cases h)
theorem Chg.drew {F : List Nat} {a w : World} (h : Chg F a w) : Chg F a w.drew := ⟨h.os, h.tape, h.output, h.size, h.block⟩
theorem Chg.drewN {F : List Nat} {a w : World} (h : Chg F a w) (n : Nat) : Chg F a (w.drewN n) := ⟨h.os, h.tape, h.output, h.size, h.block⟩
theorem Chg.setCell {F : List Nat} {a w : World} (h : Chg F a w) (p : Addr) (v : Value) (hp : p.block ∈ F ∨ a.heap.size ≤ p.block) : Chg F a (w.setCell p v) :=
  h.trans (G := [p.block]) ⟨rfl, rfl, rfl, by simp [World.setCell], fun k _ hn => heap_setCell_other w p k v (by simpa using hn)⟩ (fun g hg => by simp at hg; subst hg; exact hp)
theorem Chg.setRow {F : List Nat} {a w : World} (h : Chg F a w) (g : Nat) (cs : Array Value) (hp : g ∈ F ∨ a.heap.size ≤ g) : Chg F a (w.setRow g cs) :=
  h.trans (G := [g]) ⟨rfl, rfl, rfl, by simp, fun k _ hn => setRow_other w g k cs (by simpa using hn)⟩ (fun k hk => by simp at hk; subst hk; exact hp)
theorem Chg.grown {F : List Nat} {a w w' : World} {row : Option Nat} (h : Chg F a w) (hg : w.grownBy w' row) (hr : ∀ k, row = some k → k ∈ F ∨ a.heap.size ≤ k) : Chg F a w' :=
  h.trans (G := row.toList) ⟨hg.os, hg.tape, hg.output, hg.size, fun k hk hn => hg.block k hk (fun e => hn (by simp [← e]))⟩ (fun k hk => hr k (by simpa using hk))
theorem Chg.ofBelow {w w' : World} (h : Below w.heap.size w w') : Chg [] w w' := ⟨h.os, h.tape, h.output, h.size, fun k hk _ => h.block k hk⟩
theorem Chg.below {F : List Nat} {w w' : World} (h : Chg F w w') {B : Nat} (hB : B ≤ w.heap.size) (hF : ∀ k ∈ F, B ≤ k) : Below B w w' :=
  ⟨h.os, h.tape, h.output, h.size, fun k hk => h.block k (by omega) fun hm => by have := hF k hm; omega⟩
theorem Chg.below0 {w w' : World} (h : Chg [] w w') : Below w.heap.size w w' := h.below (Nat.le_refl _) (fun _ h => by cases h)
theorem Blk.kept {w w' : World} {F : List Nat} {b : Nat} {T : TypeId} {cs : List Value} (h : Blk w b T cs) (hc : Chg F w w') (hn : b ∉ F) : Blk w' b T cs := by
  unfold Blk; rw [hc.block b h.lt hn]; exact h

/-- A callee that leaves the world alone, inside a region that only reads. -/
theorem quiet_kept {P : Program} {f : FuncId} {args : Array Value} {w : World} {n : Nat} {v : Value}
    (h : Calls P f args (w.drewN n) fun e w' => e = .returned v ∧ w.drewN n = w') : Calls P f args (w.drewN n) fun e w'' => e = .returned v ∧ ∃ m, w'' = w.drewN m :=
  h.mono fun _ _ ⟨he, hw⟩ => ⟨he, n, hw.symm⟩

/-- The footprint F of a thing has become F': what is in it now was in it, or is new. -/
structure Grew (F F' : List Nat) (w w' : World) : Prop where
  chg : Chg F w w'
  lt : ∀ k ∈ F', k < w'.heap.size
  from_ : ∀ k ∈ F', k ∈ F ∨ w.heap.size ≤ k
theorem Grew.trans {F F' F'' : List Nat} {w w1 w2 : World} (h : Grew F F' w w1) (k : Grew F' F'' w1 w2) : Grew F F'' w w2 :=
  ⟨h.chg.trans k.chg h.from_, k.lt, fun j hj => (k.from_ j hj).elim (h.from_ j) (fun hl => .inr (Nat.le_trans h.chg.size hl))⟩
theorem Grew.same {F : List Nat} {w w' : World} (h : Chg F w w') (hF : ∀ k ∈ F, k < w.heap.size) : Grew F F w w' := ⟨h, fun k hk => Nat.lt_of_lt_of_le (hF k hk) h.size, fun _ h => .inl h⟩

/-! values -/
abbrev bytV (c : UInt8) : Value := .int .u8 c.toNat
abbrev intV (n : Int) : Value := .int .i64 n
abbrev strV (l : Bytes) : Value := .string ⟨l.toArray⟩
abbrev ptrV (b : Nat) : Value := .pointer (some ⟨b, 0, none⟩)
def byts (l : Bytes) : List Value := l.map bytV
def ints (l : List Int) : List Value := l.map intV
def bools (l : List Bool) : List Value := l.map Value.bool
@[simp] theorem length_byts (l : Bytes) : (byts l).length = l.length := by simp [byts]
@[simp] theorem length_ints (l : List Int) : (ints l).length = l.length := by simp [ints]
@[simp] theorem length_bools (l : List Bool) : (bools l).length = l.length := by simp [bools]
theorem byts_one (l : Bytes) : ∀ v ∈ byts l, v.oneCell' = true := by intro v hv; simp [byts] at hv; obtain ⟨c, _, rfl⟩ := hv; rfl
theorem ints_one (l : List Int) : ∀ v ∈ ints l, v.oneCell' = true := by intro v hv; simp [ints] at hv; obtain ⟨c, _, rfl⟩ := hv; rfl
theorem bools_one (l : List Bool) : ∀ v ∈ bools l, v.oneCell' = true := by
  intro v hv
  obtain ⟨c, _, rfl⟩ := List.mem_map.1 hv
  rfl

/-! aggregates that are loaded from, or stored into, the middle of a row -/
section rows
variable {P : Program}

def rowOf (w : World) (v : Value) (n : Nat) : Array Value :=
  match v with
  | .pointer (some a) => match w.heap[a.block]? with
    | some (.cells c _ _) => c.extract a.off (a.off + n)
    | _ => #[]
  | _ => #[]
def PtrRow (w : World) (v : Value) (n : Nat) : Prop := ∃ g off T cs, v = .pointer (some ⟨g, off, none⟩) ∧ Blk w g T cs ∧ off + n ≤ cs.length
def AggOf (v : Value) (n : Nat) : Prop := ∃ cs : Array Value, v = .agg cs ∧ cs.size = n ∧ ∀ u ∈ cs.toList, u.oneCell' = true
def putRow (w : World) (v u : Value) : World :=
  match v with
  | .pointer (some a) => match w.heap[a.block]? with
    | some (.cells c _ _) => w.setRow a.block (lay c.toList a.off u.cells.toList).toArray
    | _ => w
  | _ => w

theorem rowOf_blk {w : World} {g off n : Nat} {T : TypeId} {cs : List Value} (h : Blk w g T cs) : rowOf w (.pointer (some ⟨g, off, none⟩)) n = ((cs.drop off).take n).toArray := by
  unfold Blk at h
  simp only [rowOf, h]
  apply Array.ext'
  simp
theorem putRow_blk {w : World} {g off : Nat} {T : TypeId} {cs : List Value} (h : Blk w g T cs) (us : List Value) : putRow w (.pointer (some ⟨g, off, none⟩)) (.agg us.toArray) = w.setRow g (lay cs off us).toArray := by
  unfold Blk at h
  simp [putRow, h, Value.cells]

theorem add_spot (g off j : Nat) : (⟨g, off, none⟩ : Addr).add j = ⟨g, off + j, none⟩ := by unfold Addr.add; split <;> simp_all

theorem run_loadVar_at {w : World} {g off n : Nat} {T ty : TypeId} {cs : List Value} {d : TypeDesc} (hB : Blk w g T cs) (hfit : off + n ≤ cs.length)
    (hu : P.underlying ty = some d) (hd : (match d with | .struct _ | .array _ _ => true | _ => false) = true) (hi : (P.info? ty).map (·.size) = some n) :
    (loadVar ty ⟨g, off, none⟩).run P w = .ok (.agg ((cs.drop off).take n).toArray) w := by
  have hlen : ((cs.drop off).take n).length = n := by simp; omega
  have hl : (loadCells ⟨g, off, none⟩ n).run P w = .ok ((cs.drop off).take n).toArray w := by
    have := run_loadCells_list (P := P) w ⟨g, off, none⟩ ((cs.drop off).take n) (fun j v hv => by
      rw [add_spot, hB.cell (off + j)]
      rw [List.getElem?_take] at hv
      split at hv
      · simpa using hv
      · cases hv)
    rwa [hlen] at this
  cases hq : P.info? ty with
  | none => simp [hq] at hi
  | some i =>
    have hs : i.size = n := by simpa [hq] using hi
    have hagg : (isAgg ty).run P w = .ok true w := by
      unfold isAgg
      rw [Sem.run_bind, run_underlying hu w]
      cases d <;> simp_all
    simp [loadVar, Sem.run_bind, hagg, sizeOf, typeInfo, hq, hs, hl]

theorem run_storeVar_at {w : World} {g off n : Nat} {T ty : TypeId} {cs us : List Value} (hB : Blk w g T cs) (hfit : off + n ≤ cs.length) (hn : us.length = n) (h1 : ∀ u ∈ us, u.oneCell' = true)
    (hi : (P.info? ty).map (·.size) = some n) :
    (storeVar ty ⟨g, off, none⟩ (.agg us.toArray)).run P w = .ok () (w.setRow g (lay cs off us).toArray) := by
  cases hq : P.info? ty with
  | none => simp [hq] at hi
  | some i =>
    have hs : i.size = n := by simpa [hq] using hi
    have hst := run_storeCells_at P g off T us 0 cs.toArray w hB (by simp; omega) h1
    simp only [Nat.add_zero] at hst
    simp [storeVar, Sem.run_bind, sizeOf, typeInfo, hq, hs, Value.cells, hn, hst, lay]

theorem exec_load_agg {ρ : Operand → Value} {w : World} {x : Operand} {ty : TypeId} {n : Nat} {d : TypeDesc} {dst type pos after guard}
    (hu : P.underlying ty = some d) (hd : (match d with | .struct _ | .array _ _ => true | _ => false) = true) (hi : (P.info? ty).map (·.size) = some n) (h : PtrRow w (ρ x) n) :
    (execOp ρ { dst := dst, op := .load ty x, type := type, pos := pos, after := after, guard := guard }).run P w = .ok (.value (.agg (rowOf w (ρ x) n))) w := by
  obtain ⟨g, off, T, cs, hv, hB, hfit⟩ := h
  rw [hv, rowOf_blk hB]
  simp only [execOp, hv, Instr.loadAt, Instr.sureAddr, Sem.run_bind, Sem.run_pure, Result.andThen_ok, run_loadVar_at hB hfit hu hd hi]
theorem exec_store_agg {ρ : Operand → Value} {w : World} {x y : Operand} {ty : TypeId} {n : Nat} {dst type pos after guard}
    (hi : (P.info? ty).map (·.size) = some n) (h : PtrRow w (ρ x) n) (hy : AggOf (ρ y) n) :
    (execOp ρ { dst := dst, op := .store ty x y, type := type, pos := pos, after := after, guard := guard }).run P w = .ok .skip (putRow w (ρ x) (ρ y)) := by
  obtain ⟨g, off, T, cs, hv, hB, hfit⟩ := h
  obtain ⟨us, hy, hn, h1⟩ := hy
  have hst := run_storeVar_at (P := P) (ty := ty) (us := us.toList) hB hfit (by simpa using hn) h1 hi
  have hp := putRow_blk (off := off) hB us.toList
  simp only [Array.toArray_toList] at hst hp
  rw [hv, hy, hp]
  simp only [execOp, hv, hy, Instr.storeAt, Instr.sureAddr, Sem.run_bind, Sem.run_pure, Result.andThen_ok, hst]
theorem Blk.putRow {w : World} {g off : Nat} {T : TypeId} {cs : List Value} (h : Blk w g T cs) (us : List Value) :
    Blk (putRow w (.pointer (some ⟨g, off, none⟩)) (.agg us.toArray)) g T (lay cs off us) := by rw [putRow_blk h]; exact h.row _
theorem Blk.putRowOther {w : World} {g g' off : Nat} {T T' : TypeId} {cs cs' : List Value} (h : Blk w g T cs) (h' : Blk w g' T' cs') (hne : g ≠ g') (us : List Value) :
    Blk (Proofs.YtjbpdgknhbnfgaaGreat.putRow w (.pointer (some ⟨g', off, none⟩)) (.agg us.toArray)) g T cs := by rw [putRow_blk h']; exact h.rowOther _ _ hne
theorem Chg.putRow {F : List Nat} {a w : World} {g' off : Nat} {T' : TypeId} {cs' : List Value} (h : Chg F a w) (h' : Blk w g' T' cs') (hp : g' ∈ F ∨ a.heap.size ≤ g') (us : List Value) :
    Chg F a (Proofs.YtjbpdgknhbnfgaaGreat.putRow w (.pointer (some ⟨g', off, none⟩)) (.agg us.toArray)) := by rw [putRow_blk h']; exact h.setRow _ _ hp
theorem AggOf.mk' {us : List Value} {n : Nat} (hn : us.length = n) (h1 : ∀ u ∈ us, u.oneCell' = true) : AggOf (.agg us.toArray) n := ⟨_, rfl, by simpa using hn, by simpa using h1⟩
theorem PtrRow.mk' {w : World} {g off n : Nat} {T : TypeId} {cs : List Value} (h : Blk w g T cs) (hf : off + n ≤ cs.length) : PtrRow w (.pointer (some ⟨g, off, none⟩)) n := ⟨g, off, T, cs, rfl, h, hf⟩
theorem run_copy_str {w : World} {dT sT ty elem : TypeId} (hu : P.underlying dT = some (.slice elem)) (hsz : (P.info? elem).map (·.size) = some 1) {g off dLen dCap : Nat} {l : Bytes}
    {cs : List Value} {T : TypeId} (hB : Blk w g T cs) (hfit : off + dLen ≤ cs.length) :
    (Builtin.copy_ #[dT, sT] ty #[.slice (some ⟨g, off, none⟩) dLen dCap, .string ⟨l.toArray⟩]).run P w = .ok (goInt (min l.length dLen)) (w.setRow g (lay cs off (byts (l.take dLen))).toArray) := by
  cases hq : P.info? elem with
  | none => simp [hq] at hsz
  | some i =>
    have hst := run_storeCells_at P g off T (byts (l.take dLen)) 0 cs.toArray w hB (by simp; omega) (byts_one _)
    simp only [Nat.add_zero] at hst
    have he : List.take (min (List.length l) dLen) (List.map (fun b : UInt8 => Value.int IntKind.u8 ↑b.toNat) l) = byts (l.take dLen) := by
      unfold byts
      rw [List.map_take]
      rcases Nat.le_total l.length dLen with h | h
      · rw [Nat.min_eq_left h, List.take_of_length_le (by simp), List.take_of_length_le (by simpa using h)]
      · rw [Nat.min_eq_right h]
    have hsize : (⟨l.toArray⟩ : ByteArray).size = l.length := by simp [ByteArray.size]
    have hmn : Nat.min l.length dLen = min l.length dLen := rfl
    simp [Builtin.copy_, run_underlying hu, sizeOf, typeInfo, hq, Builtin.lenOf, Builtin.firstCells, hsize, hmn]
    rw [he, hst]
    simp [lay]
    exact congrArg goInt (by omega)

theorem wpList_copy_str {w : World} {ops : Array Oper} {rest : List Oper} {o : Oper} {a : Act} {Q : Exit → Act → World → Prop} (hgd : o.guard = none) (d s : Operand) (dT sT : TypeId)
    (ho : o.op = .call { callee := .builtin .copy, args := #[d, s], argTypes := #[dT, sT] }) (elem : TypeId) (hu : P.underlying dT = some (.slice elem)) (hsz : (P.info? elem).map (·.size) = some 1)
    (g off dLen dCap : Nat) (l : Bytes) (hd : a.eval d = .slice (some ⟨g, off, none⟩) dLen dCap) (hs : a.eval s = .string ⟨l.toArray⟩)
    (cs : List Value) (T : TypeId) (hB : Blk w g T cs) (hfit : off + dLen ≤ cs.length)
    (h : wpList P ops Q rest (a.put o.dst (goInt (min l.length dLen))) (w.setRow g (lay cs off (byts (l.take dLen))).toArray)) : wpList P ops Q (o :: rest) a w := by
  refine wpList_plain hgd fun K hK => ?_
  have hrun := run_copy_str (P := P) (sT := sT) (ty := o.type) (dCap := dCap) (l := l) hu hsz hB hfit
  unfold Oper.wp
  simp [execOp, ho, resolve, invoke, builtin, hd, hs, hrun, Result.andThen]
  exact hK _ _ (by simpa using h)
end rows

end Go.Proofs.YtjbpdgknhbnfgaaGreat

namespace Go.Proofs.YtjbpdgknhbnfgaaGreat
open Go.RowKit

/-- Block b is a row of the cells cs, of whatever type. -/
def Row (w : World) (b : Nat) (cs : List Value) : Prop := ∃ T, Blk w b T cs
theorem Blk.r {w : World} {b : Nat} {T : TypeId} {cs : List Value} (h : Blk w b T cs) : Row w b cs := ⟨T, h⟩
theorem Row.lt {w : World} {b : Nat} {cs : List Value} (h : Row w b cs) : b < w.heap.size := by obtain ⟨_, h⟩ := h; exact h.lt
theorem Row.cell {w : World} {b : Nat} {cs : List Value} (h : Row w b cs) (i : Nat) : w.cell? ⟨b, i, none⟩ = cs[i]? := by obtain ⟨_, h⟩ := h; exact h.cell i
theorem Row.free {w : World} {b : Nat} {cs : List Value} (h : Row w b cs) (i : Nat) : w.frozen? ⟨b, i, none⟩ = false := by obtain ⟨_, h⟩ := h; exact h.free i
theorem Row.set {w : World} {b : Nat} {cs : List Value} (h : Row w b cs) (i : Nat) (v : Value) : Row (w.setCell ⟨b, i, none⟩ v) b (cs.set i v) := by obtain ⟨_, h⟩ := h; exact ⟨_, h.set i v⟩
theorem Row.kept {w w' : World} {F : List Nat} {b : Nat} {cs : List Value} (h : Row w b cs) (hc : Chg F w w') (hn : b ∉ F) : Row w' b cs := by obtain ⟨_, h⟩ := h; exact ⟨_, h.kept hc hn⟩

/-- The slice v has n elements (size cells each), the cells xs; it starts its own row, or has no room at all. (The element's type is named for the reader alone.) -/
def Own (w : World) (_e : TypeId) (size : Nat) (v : Value) (n : Nat) (xs : List Value) : Prop :=
  xs.length = n * size ∧ ((∃ a, v = .slice a 0 0 ∧ n = 0) ∨
    ∃ g cap cur, v = .slice (some ⟨g, 0, none⟩) n cap ∧ Row w g cur ∧ n ≤ cap ∧ 0 < cap ∧ cap ≤ maxLen ∧ cap * size ≤ cur.length ∧ cur.take (n * size) = xs)
/-- The block that it owns. -/
def ownBlk : Value → List Nat
  | .slice (some a) _ (_ + 1) => [a.block]
  | _ => []

theorem Own.nil (w : World) (e : TypeId) (size : Nat) : Own w e size (.slice none 0 0) 0 [] := ⟨by simp, .inl ⟨none, rfl, rfl⟩⟩
theorem Own.bare (w : World) (e : TypeId) (size : Nat) (a : Option Addr) : Own w e size (.slice a 0 0) 0 [] := ⟨by simp, .inl ⟨a, rfl, rfl⟩⟩
theorem Own.lt {w : World} {e : TypeId} {size : Nat} {v : Value} {n : Nat} {xs : List Value} (h : Own w e size v n xs) : ∀ k ∈ ownBlk v, k < w.heap.size := by
  intro k hk
  rcases h.2 with ⟨a, rfl, _⟩ | ⟨g, cap, cur, rfl, hg, _, hp, _⟩
  · cases a <;> simp [ownBlk] at hk
  · obtain ⟨c, rfl⟩ : ∃ c, cap = c + 1 := ⟨cap - 1, by omega⟩
    simp [ownBlk] at hk
    subst hk
    exact hg.lt
theorem Own.kept {w w' : World} {F : List Nat} {e : TypeId} {size : Nat} {v : Value} {n : Nat} {xs : List Value} (h : Own w e size v n xs) (hc : Chg F w w') (hn : ∀ k ∈ ownBlk v, k ∉ F) : Own w' e size v n xs := by
  refine ⟨h.1, ?_⟩
  rcases h.2 with hl | ⟨g, cap, cur, rfl, hg, h1, hp, rest⟩
  · exact .inl hl
  · obtain ⟨c, rfl⟩ : ∃ c, cap = c + 1 := ⟨cap - 1, by omega⟩
    exact .inr ⟨g, c + 1, cur, rfl, hg.kept hc (hn g (by simp [ownBlk])), h1, hp, rest⟩
/-- Its shape. -/
theorem Own.shape {w : World} {e : TypeId} {size : Nat} {v : Value} {n : Nat} {xs : List Value} (h : Own w e size v n xs) : ∃ a c, v = .slice a n c ∧ n ≤ c ∧ c ≤ maxLen := by
  rcases h.2 with ⟨a, rfl, rfl⟩ | ⟨g, cap, cur, rfl, _, h1, _, h2, _⟩
  · exact ⟨a, 0, rfl, Nat.le_refl _, Nat.zero_le _⟩
  · exact ⟨_, _, rfl, h1, h2⟩
/-- Where it has an element it has a row. -/
theorem Own.pos {w : World} {e : TypeId} {size : Nat} {v : Value} {n : Nat} {xs : List Value} (h : Own w e size v n xs) (hn : 0 < n) :
    ∃ g cap cur, v = .slice (some ⟨g, 0, none⟩) n cap ∧ ownBlk v = [g] ∧ Row w g cur ∧ n ≤ cap ∧ cap ≤ maxLen ∧ cap * size ≤ cur.length ∧ cur.take (n * size) = xs := by
  rcases h.2 with ⟨a, rfl, rfl⟩ | ⟨g, cap, cur, rfl, hg, h1, hp, h2, rest⟩
  · omega
  · obtain ⟨c, rfl⟩ : ∃ c, cap = c + 1 := ⟨cap - 1, by omega⟩
    exact ⟨g, c + 1, cur, rfl, rfl, hg, h1, h2, rest⟩
theorem getElem_take' {cur xs : List Value} {m i : Nat} (h : cur.take m = xs) (hi : i < xs.length) : cur[i]? = xs[i]? := by
  subst h
  simp at hi
  rw [List.getElem?_take, if_pos (by omega)]
theorem Own.cell {w : World} {e : TypeId} {v : Value} {n : Nat} {xs : List Value} {g cap : Nat} (h : Own w e 1 v n xs) (hv : v = .slice (some ⟨g, 0, none⟩) n cap) {i : Nat} (hi : i < n) :
    w.cell? ⟨g, i, none⟩ = xs[i]? ∧ w.frozen? ⟨g, i, none⟩ = false := by
  obtain ⟨g', cap', cur, hv', _, hB, _, _, _, ht⟩ := h.pos (by omega)
  rw [hv] at hv'
  simp at hv'
  obtain ⟨rfl, rfl⟩ := hv'
  have hl := h.1
  exact ⟨by rw [hB.cell]; exact getElem_take' ht (by omega), hB.free i⟩
/-- A store into it. -/
theorem Own.set {w : World} {e : TypeId} {v : Value} {n : Nat} {xs : List Value} {g cap : Nat} (h : Own w e 1 v n xs) (hv : v = .slice (some ⟨g, 0, none⟩) n cap) (i : Nat) (hi : i < n) (x : Value) :
    Own (w.setCell ⟨g, i, none⟩ x) e 1 v n (xs.set i x) := by
  obtain ⟨g', cap', cur, hv', _, hB, h1, h2, h3, ht⟩ := h.pos (by omega)
  rw [hv] at hv'
  simp at hv'
  obtain ⟨rfl, rfl⟩ := hv'
  have hl := h.1
  refine ⟨by simpa using hl, .inr ⟨g, cap, cur.set i x, hv, hB.set i x, h1, by omega, h2, by simpa using h3, ?_⟩⟩
  rw [← ht, List.take_set]
/-- It is cut at its end. -/
theorem Own.cut {w : World} {e : TypeId} {size : Nat} {a : Option Addr} {n c : Nat} {xs : List Value} (h : Own w e size (.slice a n c) n xs) (m : Nat) (hm : m ≤ n) : Own w e size (.slice a m c) m (xs.take (m * size)) := by
  have hl := h.1
  have hmul : m * size ≤ n * size := Nat.mul_le_mul_right _ hm
  refine ⟨by simp; omega, ?_⟩
  rcases h.2 with ⟨a', hv, rfl⟩ | ⟨g, cap, cur, hv, hB, h1, h0, h2, h3, ht⟩
  · simp at hv
    obtain ⟨rfl, rfl⟩ := hv
    exact .inl ⟨a, by simp; omega, by omega⟩
  · simp at hv
    obtain ⟨rfl, rfl⟩ := hv
    refine .inr ⟨g, c, cur, rfl, hB, by omega, h0, h2, h3, ?_⟩
    rw [← ht, List.take_take, Nat.min_eq_left hmul]
theorem Own.drew {w : World} {e : TypeId} {size : Nat} {v : Value} {n : Nat} {xs : List Value} (h : Own w e size v n xs) : Own w.drew e size v n xs := h
theorem Own.drewN {w : World} {e : TypeId} {size : Nat} {v : Value} {n : Nat} {xs : List Value} (h : Own w e size v n xs) (k : Nat) : Own (w.drewN k) e size v n xs := h
theorem Own.alloc {w : World} {e : TypeId} {size : Nat} {v : Value} {n : Nat} {xs : List Value} (h : Own w e size v n xs) (o : Obj) : Own (w.alloc o) e size v n xs :=
  h.kept (F := []) ((Chg.refl _ _).alloc o) (fun _ _ h => by cases h)
theorem Own.other {w : World} {e : TypeId} {size : Nat} {v : Value} {n : Nat} {xs : List Value} (h : Own w e size v n xs) (p : Addr) (u : Value) (hn : p.block ∉ ownBlk v) : Own (w.setCell p u) e size v n xs :=
  h.kept (F := [p.block]) ((Chg.refl _ _).setCell p u (.inl (by simp))) (fun k hk hm => by simp at hm; subst hm; exact hn hk)

theorem lay_length' {α : Type} (L : List α) (off : Nat) (cs : List α) (h : off + cs.length ≤ L.length) : (lay L off cs).length = L.length := by simp [lay]; omega

section
variable {P : Program}

theorem Src.ofOwn {w : World} {e tx e' : TypeId} {size : Nat} {v : Value} {n : Nat} {xs : List Value} (hk : P.underlying tx = some (.slice e')) (h : Own w e size v n xs) (h1 : ∀ u ∈ xs, u.oneCell' = true) : Src P size tx v n xs w := by
  have hl := h.1
  rcases h.2 with ⟨a, rfl, rfl⟩ | ⟨g, cap, cur, rfl, hB, hn, _, _, _, ht⟩
  · have hx : xs = [] := List.eq_nil_of_length_eq_zero (by simpa using hl)
    subst hx
    cases a with
    | none => exact Src.ofNil w hk 0
    | some a => exact Src.ofSlice w hk a 0 0 [] (by simp) (fun j u h => by cases h) (fun _ h => by cases h)
  · refine Src.ofSlice w hk _ n cap xs hl ?_ h1
    intro j u hu
    have hj : j < xs.length := (List.getElem?_eq_some_iff.1 hu).1
    rw [add_spot, hB.cell, Nat.zero_add, getElem_take' ht hj]
    exact hu

theorem setCells_blk (g : Nat) (T : TypeId) : ∀ (vs : List Value) (o : Nat) (w : World) (cs : List Value), Blk w g T cs → o + vs.length ≤ cs.length → Blk (w.setCells g o vs) g T (lay cs o vs)
  | [], o, w, cs, h, _ => by simpa [World.setCells, lay] using h
  | v :: r, o, w, cs, h, hl => by
    simp only [World.setCells]
    have := setCells_blk g T r (o + 1) _ _ (h.set o v) (by simp at hl ⊢; omega)
    have e : lay (cs.set o v) (o + 1) r = lay cs o (v :: r) := by
      simp at hl
      unfold lay
      rw [List.take_set, List.drop_set_of_lt (by omega)]
      simp only [List.length_cons]
      rw [List.take_succ_eq_append_getElem (by omega)]
      have h1 : (List.take o cs).length = o := by simp; omega
      have h2 : (List.take o cs ++ [cs[o]]).set o v = List.take o cs ++ [v] := by
        rw [List.set_append, if_neg (by omega), h1]
        simp
      rw [h2]
      simp only [List.append_assoc, List.cons_append, List.nil_append]
      rw [show o + 1 + r.length = o + (r.length + 1) by omega]
    rwa [e] at this
theorem chg_setCells (g : Nat) (F : List Nat) (a : World) (hp : g ∈ F ∨ a.heap.size ≤ g) : ∀ (vs : List Value) (o : Nat) (w : World), Chg F a w → Chg F a (w.setCells g o vs)
  | [], _, _, h => h
  | v :: r, o, w, h => by
    simp only [World.setCells]
    exact chg_setCells g F a hp r (o + 1) _ (h.setCell _ v hp)

theorem size_zeroCells' (z : Array Value) (n : Nat) : (Builtin.zeroCells z n).size = n * z.size := by simp [Builtin.zeroCells]

/-- append, whatever is appended, onto a slice that owns its row (or has no room). -/
theorem run_append {w : World} {t tx ty e : TypeId} {size bytes : Nat} (z : Value) (ht : P.underlying t = some (.slice e)) (hi : (P.info? e).map (fun i => (i.zero, i.size, i.bytes)) = some (some z, size, bytes)) (hzs : z.cells.size = size) (hsz : 0 < size)
    {v x : Value} {n m : Nat} {xs news : List Value} (hown : Own w e size v n xs) (hs : Src P size tx x m news w) (hbytes : (n + m) * bytes ≤ 140737488355328) (h63 : n + m ≤ maxLen) :
    ∃ a c w', (Builtin.append_ #[t, tx] ty #[v, x]).run P w = .ok (.slice a (n + m) c) w' ∧ Own w' e size (.slice a (n + m) c) (n + m) (xs ++ news) ∧ Chg (ownBlk v) w w' ∧
      (∀ k ∈ ownBlk (.slice a (n + m) c), k ∈ ownBlk v ∨ w.heap.size ≤ k) ∧ c ≤ maxLen ∧ n + m ≤ c := by
  cases hq : P.info? e with
  | none => simp [hq] at hi
  | some i =>
    simp [hq] at hi
    obtain ⟨hz, rfl, rfl⟩ := hi
    have hl := hown.1
    have hlen : (xs ++ news).length = (n + m) * i.size := by rw [List.length_append, hl, hs.newsLen, Nat.add_mul]
    have hsmall : n + m ≤ 9223372036854775807 := by simp only [maxLen] at h63; omega
    have grown : ∀ (base : Option Addr) (sCap : Nat), v = .slice base n sCap → n ≤ sCap → sCap < n + m → (Builtin.firstCells i.size n v).run P w.drew = .ok xs.toArray w.drew →
        ∃ a c w', (Builtin.append_ #[t, tx] ty #[v, x]).run P w = .ok (.slice a (n + m) c) w' ∧ Own w' e i.size (.slice a (n + m) c) (n + m) (xs ++ news) ∧ Chg (ownBlk v) w w' ∧
        (∀ k ∈ ownBlk (.slice a (n + m) c), k ∈ ownBlk v ∨ w.heap.size ≤ k) ∧ c ≤ maxLen ∧ n + m ≤ c := by
      intro base sCap hv hle hlt hold
      subst hv
      have hr := run_append_grow_src (P := P) w t tx ty e i z ht hq hz base n sCap xs hold x m news hs hlt (by omega) (growslice_fits (by omega) hbytes)
      have hge := grownCap_ge w (n + m) sCap e
      have hcm : grownCap w (n + m) sCap e ≤ maxLen := grownCap_le_maxLen w (n + m) sCap e h63
      refine ⟨_, _, _, hr, ⟨hlen, .inr ⟨w.heap.size, _, (xs ++ news) ++ (Builtin.zeroCells z.cells (grownCap w (n + m) sCap e - (n + m))).toList, rfl, ?_, hge, by omega, hcm, ?_, ?_⟩⟩, (((Chg.refl _ w).drew).alloc _), ?_, hcm, hge⟩
      · refine ⟨e, ?_⟩
        have e1 : ((xs ++ news) ++ (Builtin.zeroCells z.cells (grownCap w (n + m) sCap e - (n + m))).toList).toArray = (xs ++ news).toArray ++ Builtin.zeroCells z.cells (grownCap w (n + m) sCap e - (n + m)) := by
          apply Array.ext'
          simp
        unfold Blk
        rw [e1]
        exact heap_alloc_new w.drew _
      · rw [List.length_append, hlen, Array.length_toList, size_zeroCells', hzs, ← Nat.add_mul]
        exact Nat.mul_le_mul_right _ (by omega)
      · rw [← hlen]
        exact List.take_left
      · intro k hk
        obtain ⟨c, hc⟩ : ∃ c, grownCap w (n + m) sCap e = c + 1 := ⟨grownCap w (n + m) sCap e - 1, by omega⟩
        rw [hc] at hk
        simp [ownBlk] at hk
        exact .inr (by omega)
    have hsrc := Lib.hid hs
    rcases hown.2 with ⟨a, rfl, rfl⟩ | ⟨g, cap, cur, rfl, ⟨T, hB⟩, hn, h0, hcm, hcl, htk⟩
    · have hx : xs = [] := List.eq_nil_of_length_eq_zero (by simpa using hl)
      subst hx
      by_cases hm : m = 0
      · subst hm
        have hne : news = [] := List.eq_nil_of_length_eq_zero (by simpa using hs.newsLen)
        subst hne
        refine ⟨a, 0, w, ?_, Own.bare w e i.size a, Chg.refl _ _, fun k hk => .inl hk, by simp [maxLen], by omega⟩
        rcases hs.kind with ⟨e', hk⟩ | hk <;> cases a <;>
          simp [Builtin.append_, run_underlying ht, run_underlying hk, sizeOf, typeInfo, hq, hs.len, hs.cells, storeCells]
      · refine grown a 0 rfl (by omega) (by omega) ?_
        cases a <;> simp [Builtin.firstCells, loadCells, loadCellsFrom]
    · by_cases hroom : n + m ≤ cap
      · have hnl := hs.newsLen
        have hfit : n * i.size + news.length ≤ cur.length := by rw [hnl, ← Nat.add_mul]; exact Nat.le_trans (Nat.mul_le_mul_right _ hroom) hcl
        have hr := run_append_room_src (P := P) w t tx ty e i ht hq g 0 n cap x m news hs hroom
          (fun j hj => by rw [hB.cell]; simp only [Nat.zero_add]; rw [List.getElem?_eq_getElem (by omega)]; rfl) (fun j _ => hB.free _)
        simp only [Nat.zero_add] at hr
        have hB' := setCells_blk g T news (n * i.size) w cur hB hfit
        obtain ⟨c, rfl⟩ : ∃ c, cap = c + 1 := ⟨cap - 1, by omega⟩
        refine ⟨_, _, _, hr, ⟨hlen, .inr ⟨g, c + 1, _, rfl, ⟨_, hB'⟩, hroom, h0, hcm, ?_, ?_⟩⟩, chg_setCells g _ w (.inl (by simp [ownBlk])) news _ w (Chg.refl _ _), fun k hk => .inl (by simpa [ownBlk] using hk), hcm, hroom⟩
        · rw [lay_length' _ _ _ hfit]; exact hcl
        · rw [← hlen, ← htk]
          unfold lay
          rw [← List.append_assoc]
          exact List.take_left' (by simp [htk]; )
      · refine grown _ cap rfl hn (by omega) ?_
        have := run_firstCells_some (P := P) w.drew i.size n ⟨g, 0, none⟩ n cap xs hl (fun j u hu => by
          have hj : j < xs.length := (List.getElem?_eq_some_iff.1 hu).1
          rw [add_spot, hB.drew.cell, Nat.zero_add, getElem_take' htk hj]
          exact hu)
        exact this
end

section
variable {P : Program} {w : World} {ops : Array Oper} {rest : List Oper} {o : Oper} {a : Act} {Q : Exit → Act → World → Prop}

theorem wpList_append (hgd : o.guard = none) (s x : Operand) (t tx : TypeId) (ho : o.op = .call { callee := .builtin .append, args := #[s, x], argTypes := #[t, tx] })
    (e : TypeId) (size bytes : Nat) (z : Value) (ht : P.underlying t = some (.slice e)) (hi : (P.info? e).map (fun i => (i.zero, i.size, i.bytes)) = some (some z, size, bytes)) (hzs : z.cells.size = size) (hsz : 0 < size)
    (v : Value) (n m : Nat) (xs news : List Value) (hv : a.eval s = v) (hown : Own w e size v n xs) (hs : Src P size tx (a.eval x) m news w) (hbytes : (n + m) * bytes ≤ 140737488355328) (h63 : n + m ≤ maxLen)
    (h : ∀ ad c w', Own w' e size (.slice ad (n + m) c) (n + m) (xs ++ news) → Chg (ownBlk v) w w' → (∀ k ∈ ownBlk (.slice ad (n + m) c), k ∈ ownBlk v ∨ w.heap.size ≤ k) → c ≤ maxLen → n + m ≤ c →
      wpList P ops Q rest (a.put o.dst (.slice ad (n + m) c)) w') : wpList P ops Q (o :: rest) a w := by
  refine wpList_plain hgd fun K hK => ?_
  obtain ⟨ad, c, w', hr, h1, h2, h3, h4, h5⟩ := run_append (P := P) (ty := o.type) z ht hi hzs hsz hown hs hbytes h63
  unfold Oper.wp execOp
  simp only [ho, resolve, invoke, builtin, Sem.run_bind, Sem.run_pure, Result.andThen_ok, List.map_toArray, List.map_cons, List.map_nil, hv, hr]
  exact hK _ _ (h ad c w' h1 h2 h3 h4 h5)

theorem run_bytes_str {src e dst : TypeId} (hs : P.underlying src = some (.slice e)) (he : P.underlying e = some (.int .u8)) (hd : P.underlying dst = some .string) {g off len cap : Nat} {l : Bytes} {cs : List Value} {T : TypeId}
    (hB : Blk w g T cs) (hl : (cs.drop off).take len = byts l) (hlen : l.length = len) :
    (convert src dst (.slice (some ⟨g, off, none⟩) len cap)).run P w = .ok (strV l) w := by
  have := run_convert_bytes_arg (P := P) w src e hs he g off len cap (l.map fun c => (c.toNat : Int)) (by simpa using hlen) (fun i hi => by
    rw [hB.cell]
    have h1 : ((cs.drop off).take len)[i]? = (byts l)[i]? := by rw [hl]
    rw [List.getElem?_take, if_pos hi, List.getElem?_drop] at h1
    rw [h1]
    simp [byts, List.getD, hlen, hi]) dst hd
  rw [this]
  congr 2
  simp only [strOfNums, List.map_map]
  congr 2
  conv => rhs; rw [← List.map_id l]
  apply List.map_congr_left
  intro c _
  simp

theorem wpList_bytes_str (hgd : o.guard = none) (x : Operand) (src dst e : TypeId) (ho : o.op = .convert src dst x) (hs : P.underlying src = some (.slice e)) (he : P.underlying e = some (.int .u8)) (hd : P.underlying dst = some .string)
    (g off len cap : Nat) (l : Bytes) (hx : a.eval x = .slice (some ⟨g, off, none⟩) len cap) (cs : List Value) (T : TypeId) (hB : Blk w g T cs) (hl : (cs.drop off).take len = byts l) (hlen : l.length = len)
    (h : wpList P ops Q rest (a.put o.dst (strV l)) w) : wpList P ops Q (o :: rest) a w := by
  refine wpList_plain hgd fun K hK => ?_
  unfold Oper.wp execOp
  simp only [ho, hx, Sem.run_bind, Sem.run_pure, Result.andThen_ok, run_bytes_str hs he hd hB hl hlen]
  exact hK _ _ h
/-- The same of a slice that owns its row, nil or empty ones included. -/
theorem wpList_own_str (hgd : o.guard = none) (x : Operand) (src dst e : TypeId) (ho : o.op = .convert src dst x) (hs : P.underlying src = some (.slice e)) (he : P.underlying e = some (.int .u8)) (hd : P.underlying dst = some .string)
    (v : Value) (l : Bytes) (T : TypeId) (hx : a.eval x = v) (hown : Own w T 1 v l.length (byts l))
    (h : wpList P ops Q rest (a.put o.dst (strV l)) w) : wpList P ops Q (o :: rest) a w := by
  refine wpList_plain hgd fun K hK => ?_
  unfold Oper.wp execOp
  simp only [ho, hx]
  rcases hown.2 with ⟨ad, hv, hn⟩ | ⟨g, cap, cur, hv, ⟨U, hB⟩, hn, h0, h1, h2, h3⟩
  · have hl : l = [] := List.eq_nil_of_length_eq_zero hn
    subst hl
    have hr : (convert src dst v).run P w = .ok (strV []) w := by
      rw [hv]
      cases ad with
      | none => rw [run_convert_bytes_nil (P := P) w src e hs he 0 0 dst hd]; rfl
      | some ad =>
        have := run_convert_bytes_string (P := P) w src dst e (some ad) 0 0 hs he hd
        rw [this, run_bytesToString w ad 0 0 [] (by simp [loadCells, loadCellsFrom])]
        rfl
    simp only [Sem.run_bind, Sem.run_pure, Result.andThen_ok, hr]
    exact hK _ _ h
  · rw [hv]
    simp only [Sem.run_bind, Sem.run_pure, Result.andThen_ok, run_bytes_str (l := l) (off := 0) hs he hd hB (by simpa using h3) rfl]
    exact hK _ _ h

/-- clear(x) of a slice that is a whole row. -/
theorem wpList_clear (hgd : o.guard = none) (x : Operand) (t e : TypeId) (z : Value) (ho : o.op = .call { callee := .builtin .clear, args := #[x], argTypes := #[t] }) (hu : P.underlying t = some (.slice e))
    (hz : (P.info? e).map (·.zero) = some (some z)) (hz1 : z.cells = #[z]) (hone : z.oneCell' = true) (g n cap : Nat) (hx : a.eval x = .slice (some ⟨g, 0, none⟩) n cap) (cs : List Value) (T : TypeId) (hB : Blk w g T cs) (hn : cs.length = n)
    (h : ∀ w', Blk w' g T (List.replicate n z) → Chg [g] w w' → wpList P ops Q rest (a.put o.dst (.tuple #[])) w') : wpList P ops Q (o :: rest) a w := by
  refine wpList_plain hgd fun K hK => ?_
  cases hq : P.info? e with
  | none => simp [hq] at hz
  | some i =>
    simp [hq] at hz
    have hzc : (Builtin.zeroCells z.cells n).toList = List.replicate n z := by
      rw [hz1]
      apply List.ext_getElem?
      intro j
      by_cases hj : j < n <;> simp [Builtin.zeroCells, hj, Nat.mod_one]
    have hst := run_storeCells_at P g 0 T (List.replicate n z) 0 cs.toArray w hB (by simp; omega) (fun v hv => by rw [List.eq_of_mem_replicate hv]; exact hone)
    have hrun : ∃ w', (Builtin.clear_ #[t] o.type #[.slice (some ⟨g, 0, none⟩) n cap]).run P w = .ok (.tuple #[]) w' ∧ Blk w' g T (List.replicate n z) ∧ Chg [g] w w' := by
      by_cases h0 : n = 0
      · subst h0
        have hc : cs = [] := List.eq_nil_of_length_eq_zero hn
        subst hc
        exact ⟨w, by simp [Builtin.clear_, run_underlying hu], by simpa using hB, Chg.refl _ _⟩
      · simp only [Nat.add_zero, Nat.zero_add, List.length_replicate] at hst
        refine ⟨_, ?_, ?_, (Chg.refl [g] w).setRow g (List.replicate n z).toArray (.inl (by simp))⟩
        · obtain ⟨k, rfl⟩ : ∃ k, n = k + 1 := ⟨n - 1, by omega⟩
          have hd : cs.toArray.toList.drop (k + 1) = [] := by rw [List.drop_eq_nil_of_le]; simp; omega
          rw [hd] at hst
          simp only [List.take_zero, List.nil_append, List.append_nil] at hst
          simp [Builtin.clear_, run_underlying hu, zeroValue, typeInfo, hq, hz, hzc, hst]
        · exact hB.row _
    obtain ⟨w', hr, h1, h2⟩ := hrun
    unfold Oper.wp execOp
    simp only [ho, resolve, invoke, builtin, Sem.run_bind, Sem.run_pure, Result.andThen_ok, List.map_toArray, List.map_cons, List.map_nil, hx, hr]
    exact hK _ _ (h w' h1 h2)
end

/-! make([]T, n) -/
def natOf : Value → Nat | .int _ n => n.toNat | _ => 0
def NatV (m : Nat) (v : Value) : Prop := ∃ n : Nat, v = .int .i64 n ∧ n ≤ m
theorem NatV.mk' {m n : Nat} (h : n ≤ m) : NatV m (.int .i64 n) := ⟨n, rfl, h⟩
theorem run_make {P : Program} {w : World} {t e : TypeId} {size bytes : Nat} {z z1 : Value} (ht : P.underlying t = some (.slice e)) (hi : (P.info? e).map (fun i => (i.zero, i.size, i.bytes)) = some (some z, size, bytes))
    (hz : z.cells.toList = List.replicate size z1) (hsz : 0 < size) (n : Nat) (hn : n ≤ 65536) (hb : bytes ≤ 65536) :
    (Instr.makeSlice t (.int .i64 n) (.int .i64 n)).run P w = .ok (.slice (some ⟨w.heap.size, 0, none⟩) n n) (w.alloc (.cells (List.replicate (n * size) z1).toArray e)) := by
  cases hq : P.info? e with
  | none => simp [hq] at hi
  | some i =>
    simp [hq] at hi
    obtain ⟨hz0, rfl, rfl⟩ := hi
    have hw : IntKind.i64.wrap (n : Int) = n := IntWalk.i64_in _ (by omega)
    have hmul : i.bytes * n ≤ 65536 * 65536 := Nat.mul_le_mul hb hn
    have hbig : ¬ ((281474976710656 : Int) < (i.bytes : Int) * (n : Int)) := by
      rw [← Int.natCast_mul]; omega
    have hcells : z.cells = (List.replicate i.size z1).toArray := by rw [← hz]
    have harr : (Array.range (n * i.size)).map (fun j => z.cells[j % z.cells.size]!) = (List.replicate (n * i.size) z1).toArray := by
      rw [hcells]
      apply Array.ext'
      apply List.ext_getElem?
      intro j
      by_cases hj : j < n * i.size
      · have : j % i.size < i.size := Nat.mod_lt _ hsz
        simp [hj, this]
      · simp [hj]
    by_cases h0 : n = 0
    · subst h0
      have hw0 : IntKind.i64.wrap 0 = 0 := by simpa using hw
      simp [Instr.makeSlice, asInt, asIntOf, run_underlying ht, typeInfo, hq, sizeOf, newRow, hw0]
      congr 2
      apply Array.ext'
      simp [Array.range]
    · have hne : ¬ (n * i.size = 0) := by
        have := Nat.mul_pos (by omega : 0 < n) hsz
        omega
      have hle : ¬ ((n : Int) < 0) := by omega
      simp [Instr.makeSlice, asInt, asIntOf, run_underlying ht, typeInfo, hq, sizeOf, newRow, hw, zeroValue, hz0, hbig, hle]
      simp at harr
      rw [harr, if_neg hne]
theorem exec_make {P : Program} {ρ : Operand → Value} {w : World} {x : Operand} {dst type pos after guard} {t e : TypeId} {size bytes : Nat} {z z1 : Value} (ht : P.underlying t = some (.slice e)) (hi : (P.info? e).map (fun i => (i.zero, i.size, i.bytes)) = some (some z, size, bytes))
    (hz : z.cells.toList = List.replicate size z1) (hsz : 0 < size) (hb : bytes ≤ 65536) (h : NatV 65536 (ρ x)) :
    (execOp ρ { dst := dst, op := .makeSlice t x x, type := type, pos := pos, after := after, guard := guard }).run P w =
      .ok (.value (.slice (some ⟨w.heap.size, 0, none⟩) (natOf (ρ x)) (natOf (ρ x)))) (w.alloc (.cells (List.replicate (natOf (ρ x) * size) z1).toArray e)) := by
  obtain ⟨n, hn, hle⟩ := h
  simp only [execOp, hn, natOf, Int.toNat_natCast, Sem.run_bind, Sem.run_pure, run_make ht hi hz hsz n hle hb, Result.andThen_ok]

/-! copy(dst, src), both rows known -/
theorem wpList_copy_blk {P : Program} {w : World} {ops : Array Oper} {rest : List Oper} {o : Oper} {a : Act} {Q : Exit → Act → World → Prop} (hgd : o.guard = none) (d s : Operand) (dT sT : TypeId)
    (ho : o.op = .call { callee := .builtin .copy, args := #[d, s], argTypes := #[dT, sT] }) (elem : TypeId) (hu : P.underlying dT = some (.slice elem)) (hsz : (P.info? elem).map (·.size) = some 1)
    (g off dLen dCap : Nat) (h soff sLen sCap : Nat) (hd : a.eval d = .slice (some ⟨g, off, none⟩) dLen dCap) (hs : a.eval s = .slice (some ⟨h, soff, none⟩) sLen sCap)
    (cs us : List Value) (T U : TypeId) (hB : Blk w g T cs) (hH : Blk w h U us) (hn : sLen ≤ dLen) (hfit : off + sLen ≤ cs.length) (hsrc : soff + sLen ≤ us.length) (h1 : ∀ u ∈ (us.drop soff).take sLen, u.oneCell' = true)
    (hK : wpList P ops Q rest (a.put o.dst (goInt sLen)) (w.setRow g (lay cs off ((us.drop soff).take sLen)).toArray)) : wpList P ops Q (o :: rest) a w := by
  have hl : ((us.drop soff).take sLen).length = sLen := by simp; omega
  refine wpList_copy_own hgd d s dT sT ho elem hu hsz g off dLen dCap ⟨h, soff, none⟩ sLen sCap hd hs cs.toArray T hB ((us.drop soff).take sLen) (by rw [hl]; exact (Nat.min_eq_left hn).symm) ?_ (by rw [hl]; simpa using hfit) h1 (by rw [hl]; simpa [lay, hl] using hK)
  intro j v hv
  have hj : j < sLen := by have := (List.getElem?_eq_some_iff.1 hv).1; omega
  rw [add_spot, hH.cell]
  rw [List.getElem?_take, if_pos hj, List.getElem?_drop] at hv
  exact hv

end Go.Proofs.YtjbpdgknhbnfgaaGreat
