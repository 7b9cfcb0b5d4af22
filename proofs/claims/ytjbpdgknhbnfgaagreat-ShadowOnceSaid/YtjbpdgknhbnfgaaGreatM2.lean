/- A part of the walks of the program's functions, each a contract that its caller uses; no condition but what each theorem names. The walks of slices.Index and of package freemap. The walks of packages crc and pack: each function answers as its plain Lean twin says. The walks of package crc, the rest. The walks of package crc: four, Lay, Cut. Cuts of strings, and bytes that become a string, as whole operations of the walk. The walk of crc.Cut. The walks of package pack: numbers of 64 bits as bit vectors, closed to the walk; put, U, I. The walks of package pack: put, U, I. The walks of package freemap, the rest. -/
import Derived.Test.YtjbpdgknhbnfgaaGreatM1
import Derived.Test.YtjbpdgknhbnfgaaGreatProg

namespace Go.Proofs.YtjbpdgknhbnfgaaGreat
open Go.RowKit

def idxOf (L : List Int) (x : Int) : Int := if L.findIdx (· == x) < L.length then (L.findIdx (· == x) : Int) else -1

theorem ints_get (L : List Int) (i : Nat) : (ints L)[i]? = L[i]?.map intV := by simp [ints]

set_option maxHeartbeats 1000000 in
theorem slices_index {w : World} {v : Value} {L : List Int} (h : Own w 3 1 v L.length (ints L)) (x : Int) (hl : L.length ≤ 60000) :
    Calls Tryz.prog 87 #[v, intV x] w fun e w' => e = .returned (intV (idxOf L x)) ∧ w = w' := by
  obtain ⟨ad, c, rfl, hnc, hcm⟩ := h.shape
  obtain ⟨m, hm⟩ : ∃ m, m = L.findIdx (· == x) := ⟨_, rfl⟩
  have hml : m ≤ L.length := by subst hm; exact List.findIdx_le_length
  have hno : ∀ j (hj : j < L.length), j < m → (x == L[j]) = false := by
    intro j hj hjm
    subst hm
    have := List.not_of_lt_findIdx hjm
    have h2 : (L[j] == x) = false := by simpa using this
    exact beq_eq_false_iff_ne.2 (fun e => (beq_eq_false_iff_ne.1 h2) e.symm)
  have hyes : ∀ hj : m < L.length, (x == L[m]) = true := by
    intro hj
    subst hm
    have := List.findIdx_getElem (w := hj)
    rw [beq_iff_eq] at this ⊢
    exact this.symm
  have hres : idxOf L x = if m < L.length then (m : Int) else -1 := by subst hm; rfl
  rw [hres]
  have HNO := Lib.hid hno
  have HYES := Lib.hid hyes
  have HO := Lib.hid h
  have HM := Lib.hid hml
  clear hres hm hno hyes h hml
  go_enter Tryz.func87, Tryz.ntmps87
  go_wp2
  go_loop [8] (fun i => ∃ k : Nat, k ≤ m ∧ i = .int .i64 k) (fun i => L.length - (intOf i).toNat)
  case atStart => exact ⟨0, Nat.zero_le _, rfl⟩
  case round =>
    obtain ⟨k, hk, rfl⟩ := hrel
    have hml := HM.out
    by_cases hlt : k < L.length
    · obtain ⟨g, cap, hv⟩ : ∃ g cap, Value.slice ad L.length c = .slice (some ⟨g, 0, none⟩) L.length cap := by
        obtain ⟨g, cap, cur, hv, _⟩ := HO.out.pos (by omega)
        exact ⟨g, cap, hv⟩
      have hcell := (HO.out.cell hv hlt).1
      rw [ints_get, List.getElem?_eq_getElem hlt] at hcell
      simp only [Option.map_some] at hcell
      simp at hv
      obtain ⟨rfl, rfl⟩ := hv
      by_cases hkm : k < m
      · have hb := HNO.out k hlt hkm
        generalize L[k] = y at *
        clear hml
        go_wp2
        go_round
        case rel => exact ⟨k + 1, by omega, by go_num⟩
        case measure => simp [intOf]; omega
      · obtain rfl : k = m := by omega
        have hb := HYES.out hlt
        generalize L[k] = y at *
        go_wp2
        go_ret
        exact ⟨rfl, rfl⟩
    · have hmm : ¬ (m < L.length) := by omega
      go_wp2
      go_ret
      exact ⟨rfl, rfl⟩

structure MapB where
  m : Nat
  l : Nat
def MapB.set (b : MapB) : List Nat := [b.m, b.l]
/-- The map L lies in memory, in the blocks b. -/
structure MapAt (w : World) (b : MapB) (L : FMap) : Prop where
  ne : b.m ≠ b.l
  few : L.length ≤ 1024
  st : Blk w b.m 181 [.slice (some ⟨b.l, 0, none⟩) L.length L.length]
  row : Blk w b.l 3 (ints L)

theorem MapAt.lt {w : World} {b : MapB} {L : FMap} (h : MapAt w b L) : ∀ k ∈ b.set, k < w.heap.size := by
  intro k hk
  simp [MapB.set] at hk
  rcases hk with rfl | rfl
  · exact h.st.lt
  · exact h.row.lt
theorem MapAt.kept {w w' : World} {b : MapB} {L : FMap} {F : List Nat} (h : MapAt w b L) (hc : Chg F w w') (hn : ∀ k ∈ b.set, k ∉ F) : MapAt w' b L := by
  simp [MapB.set] at hn
  exact ⟨h.ne, h.few, h.st.kept hc hn.1, h.row.kept hc hn.2⟩
theorem MapAt.own {w : World} {b : MapB} {L : FMap} (h : MapAt w b L) : Own w 3 1 (.slice (some ⟨b.l, 0, none⟩) L.length L.length) L.length (ints L) :=
  ⟨by simp, if h0 : L.length = 0 then .inl ⟨_, by rw [h0], h0⟩ else .inr ⟨b.l, L.length, ints L, rfl, h.row.r, Nat.le_refl _, Nat.pos_of_ne_zero h0, by have := h.few; unfold maxLen; omega, by simp, List.take_of_length_le (by simp)⟩⟩
theorem MapAt.setRow {w : World} {b : MapB} {L : FMap} (h : MapAt w b L) (i : Nat) (x : Int) : MapAt (w.setCell ⟨b.l, i, none⟩ (intV x)) b (List.set L i x) := by
  refine ⟨h.ne, by simpa using h.few, ?_, ?_⟩
  · rw [List.length_set]
    exact h.st.other _ _ h.ne
  · have := h.row.set i (intV x)
    rwa [show (ints L).set i (intV x) = ints (List.set L i x) by simp [ints, List.map_set]] at this

theorem map_at {w : World} {b : MapB} {L : FMap} (h : MapAt w b L) (i : Int) :
    Calls Tryz.prog 161 #[ptrV b.m, intV i] w fun e w' => e = .returned (intV (FMap.at_ L i)) ∧ w = w' := by
  have h0 := h.st.cell 0
  simp at h0
  have hf := h.few
  clear h
  unfold FMap.at_
  by_cases h1 : i < 0
  · rw [if_pos (.inl h1)]
    go_enter Tryz.func161, Tryz.ntmps161
    go_wp2
    go_ret
    exact ⟨rfl, rfl⟩
  · by_cases h2 : (L.length : Int) ≤ i
    · rw [if_pos (.inr h2)]
      go_enter Tryz.func161, Tryz.ntmps161
      go_wp2
      go_ret
      exact ⟨rfl, rfl⟩
    · rw [if_neg (by omega)]
      go_enter Tryz.func161, Tryz.ntmps161
      go_wp2
      go_ret
      exact ⟨rfl, rfl⟩

end Go.Proofs.YtjbpdgknhbnfgaaGreat

namespace Go.Proofs.YtjbpdgknhbnfgaaGreat
open Go.RowKit

/-! numbers of 32 bits as bit vectors, closed to the walk -/
def u32V (x : BitVec 32) : Value := .int .u32 x.toNat
def u32Of : Value → BitVec 32 | .int _ n => BitVec.ofInt 32 n | _ => 0
def IsU32 (v : Value) : Prop := v = u32V (u32Of v)
theorem u32Of_u32V (x : BitVec 32) : u32Of (u32V x) = x := by simp [u32Of, u32V]
theorem isU32_u32V (x : BitVec 32) : IsU32 (u32V x) := by unfold IsU32; rw [u32Of_u32V]
theorem IsU32.get {v : Value} (h : IsU32 v) : ∃ a : BitVec 32, v = .int .u32 a.toNat ∧ u32Of v = a := ⟨u32Of v, h, rfl⟩

section
variable {P : Program} {ρ : Operand → Value} {w : World} {x y : Operand} {dst : Option Tmp} {t t' type : TypeId} {pos : String} {after : Array Edge} {guard : Option (Nat × Bool)}
theorem wrap_u32_bv (x : BitVec 32) : IntKind.u32.wrap (x.toNat : Int) = x.toNat := by
  have := x.isLt
  rw [IntKind.wrap_u32]
  omega
theorem ofInt_toNat (a : BitVec 32) : BitVec.ofInt 32 (a.toNat : Int) = a := by simp
theorem xor_key (a b : BitVec 32) : Op.intBits .xor .u32 (a.toNat : Int) (b.toNat : Int) = pure (u32V (a ^^^ b)) := by
  show pure (Value.int .u32 (IntKind.u32.wrap ((BitVec.ofInt 32 (a.toNat : Int) ^^^ BitVec.ofInt 32 (b.toNat : Int)).toNat : Int))) = _
  rw [ofInt_toNat, ofInt_toNat, wrap_u32_bv]
  rfl
theorem and_key (a b : BitVec 32) : Op.intBits .and .u32 (a.toNat : Int) (b.toNat : Int) = pure (u32V (a &&& b)) := by
  show pure (Value.int .u32 (IntKind.u32.wrap ((BitVec.ofInt 32 (a.toNat : Int) &&& BitVec.ofInt 32 (b.toNat : Int)).toNat : Int))) = _
  rw [ofInt_toNat, ofInt_toNat, wrap_u32_bv]
  rfl
theorem not_key (a : BitVec 32) : Op.unary .xor (.int .u32 (a.toNat : Int)) = pure (u32V (~~~ a)) := by
  show pure (Value.int .u32 (IntKind.u32.wrap ((BitVec.ofInt 32 (IntKind.u32.max) ^^^ BitVec.ofInt 32 (a.toNat : Int)).toNat : Int))) = _
  rw [ofInt_toNat, show BitVec.ofInt 32 (IntKind.u32.max) = BitVec.allOnes 32 by decide, BitVec.allOnes_xor, wrap_u32_bv]
  rfl
theorem shr_key (a : BitVec 32) (yk : IntKind) (k : Nat) (hk : k < 32) : Op.shift .shr .u32 (a.toNat : Int) yk (k : Int) = pure (u32V (a >>> k)) := by
  have h3 : ¬ ((k : Int) < 0) := by omega
  have h4 : min (k : Int).toNat IntKind.u32.bits = k := by show min (k : Int).toNat 32 = k; omega
  unfold Op.shift
  rw [if_neg h3]
  simp only [h4]
  unfold u32V
  rw [Int.fdiv_eq_ediv_of_nonneg _ (by exact Int.le_of_lt (Int.pow_pos (by omega)))]
  simp [Nat.shiftRight_eq_div_pow]
theorem exec_xor32 (h1 : IsU32 (ρ x)) (h2 : IsU32 (ρ y)) :
    (execOp ρ { dst := dst, op := .binOp .xor t x y t', type := type, pos := pos, after := after, guard := guard }).run P w = .ok (.value (u32V (u32Of (ρ x) ^^^ u32Of (ρ y)))) w := by
  obtain ⟨a, e1, h1⟩ := h1.get
  obtain ⟨b, e2, h2⟩ := h2.get
  rw [h1, h2]
  simp [execOp, e1, e2, eqGuard, binOp, xor_key]
theorem exec_and32 (h1 : IsU32 (ρ x)) (h2 : IsU32 (ρ y)) :
    (execOp ρ { dst := dst, op := .binOp .and t x y t', type := type, pos := pos, after := after, guard := guard }).run P w = .ok (.value (u32V (u32Of (ρ x) &&& u32Of (ρ y)))) w := by
  obtain ⟨a, e1, h1⟩ := h1.get
  obtain ⟨b, e2, h2⟩ := h2.get
  rw [h1, h2]
  simp [execOp, e1, e2, eqGuard, binOp, and_key]
theorem exec_not32 (h1 : IsU32 (ρ x)) :
    (execOp ρ { dst := dst, op := .unOp .xor t x, type := type, pos := pos, after := after, guard := guard }).run P w = .ok (.value (u32V (~~~ u32Of (ρ x)))) w := by
  obtain ⟨a, e1, h1⟩ := h1.get
  rw [h1]
  simp [execOp, e1, not_key]
theorem exec_shr32 (yk : IntKind) (k : Nat) (hk : k < 32) (h1 : IsU32 (ρ x)) (h2 : ρ y = .int yk k) :
    (execOp ρ { dst := dst, op := .binOp .shr t x y t', type := type, pos := pos, after := after, guard := guard }).run P w = .ok (.value (u32V (u32Of (ρ x) >>> k))) w := by
  obtain ⟨a, e1, h1⟩ := h1.get
  rw [h1]
  have hs := shr_key a yk k hk
  simp only [execOp, e1, h2, eqGuard, binOp, hs]
  simp
end

def low4 (x : BitVec 32) : BitVec 32 := x &&& 15#32
theorem low4_lt (x : BitVec 32) : (low4 x).toNat < 16 := by
  simp only [low4, BitVec.toNat_and]
  exact Nat.lt_of_le_of_lt Nat.and_le_right (by decide)

def u8Of : Value → UInt8 | .int _ n => UInt8.ofNat n.toNat | _ => 0
def IsU8 (v : Value) : Prop := v = bytV (u8Of v)
theorem isU8_bytV (c : UInt8) : IsU8 (.int .u8 c.toNat) := by simp [IsU8, u8Of]
theorem u8Of_bytV (c : UInt8) : u8Of (.int .u8 c.toNat) = c := by simp [u8Of]
def ptrBlk : Value → Nat | .pointer (some a) => a.block | _ => 0
def IsPtr0 (v : Value) : Prop := v = .pointer (some ⟨ptrBlk v, 0, none⟩)
theorem isPtr0_ptr (b : Nat) : IsPtr0 (.pointer (some ⟨b, 0, none⟩)) := by unfold IsPtr0 ptrBlk; simp
theorem ptrBlk_ptr (b : Nat) : ptrBlk (.pointer (some ⟨b, 0, none⟩)) = b := by unfold ptrBlk; simp
theorem isU32_15 : IsU32 (.int .u32 15) := rfl
theorem u32Of_15 : u32Of (.int .u32 15) = 15#32 := rfl

theorem IsU8.get {v : Value} (h : IsU8 v) : ∃ c : UInt8, v = .int .u8 c.toNat ∧ u8Of v = c := ⟨u8Of v, h, rfl⟩
theorem IsPtr0.get {v : Value} (h : IsPtr0 v) : ∃ b : Nat, v = .pointer (some ⟨b, 0, none⟩) ∧ ptrBlk v = b := ⟨ptrBlk v, h, rfl⟩
theorem conv_u8_u32 {ρ : Operand → Value} {w : World} {x : Operand} {dst type pos after guard} (h : IsU8 (ρ x)) :
    (execOp ρ { dst := dst, op := .convert 5 171 x, type := type, pos := pos, after := after, guard := guard }).run Tryz.prog w = .ok (.value (u32V (BitVec.ofNat 32 (u8Of (ρ x)).toNat))) w := by
  obtain ⟨c, e1, h1⟩ := h.get
  rw [h1]
  have hlt := c.toNat_lt
  have hw : IntKind.u32.wrap (c.toNat : Int) = c.toNat := by rw [IntKind.wrap_u32]; omega
  have h2 : (BitVec.ofNat 32 c.toNat).toNat = c.toNat := by simp
  simp only [execOp, e1]
  simp only [convert, Sem.run_bind, run_underlying Tryz.underlying5, run_underlying Tryz.underlying171, Result.andThen_ok, Conv.intToInt, Sem.run_pure, hw, u32V, h2]
theorem index_tab {ρ : Operand → Value} {w : World} {x y : Operand} {dst type pos after guard} (h : IsPtr0 (ρ x)) (hy : IsU32 (ρ y)) (hlt : (u32Of (ρ y)).toNat < 16) :
    (execOp ρ { dst := dst, op := .indexAddr 232 x y, type := type, pos := pos, after := after, guard := guard }).run Tryz.prog w = .ok (.value (.pointer (some ⟨ptrBlk (ρ x), (u32Of (ρ y)).toNat, none⟩))) w := by
  obtain ⟨a, e2, h2⟩ := hy.get
  obtain ⟨b, e1, h1⟩ := h.get
  rw [h2] at hlt ⊢
  rw [h1]
  have hsz : (Tryz.prog.info? 171).map (·.size) = some 1 := by kernel_rfl
  cases hq : Tryz.prog.info? 171 with
  | none => simp [hq] at hsz
  | some i =>
    have hs : i.size = 1 := by simpa [hq] using hsz
    have hlt' : (0 : Int) ≤ ((a.toNat : Nat) : Int) ∧ ((a.toNat : Nat) : Int) < (16 : Nat) := by omega
    simp only [execOp, e1, e2, Instr.indexAt, asIntOf, Sem.run_bind, run_underlying Tryz.underlying232, Result.andThen_ok, Instr.sureAddr, Sem.run_pure]
    rw [if_pos hlt']
    simp [sizeOf, typeInfo, hq, hs, add_spot]
theorem shr4 {a : Act} {w : World} {x : Operand} {dst t t' type pos after guard} (h : IsU32 (a.eval x)) :
    (execOp a.eval { dst := dst, op := .binOp .shr t x (.const (.int .u64 4)) t', type := type, pos := pos, after := after, guard := guard }).run Tryz.prog w = .ok (.value (u32V (u32Of (a.eval x) >>> 4))) w :=
  exec_shr32 .u64 4 (by omega) h rfl
theorem and15 {a : Act} {w : World} {x : Operand} {dst t t' type pos after guard} (h : IsU32 (a.eval x)) :
    (execOp a.eval { dst := dst, op := .binOp .and t x (.const (.int .u32 15)) t', type := type, pos := pos, after := after, guard := guard }).run Tryz.prog w = .ok (.value (u32V (low4 (u32Of (a.eval x))))) w :=
  exec_and32 h isU32_15
attribute [local go_sem ↓] exec_xor32 and15 exec_not32 conv_u8_u32 index_tab shr4
attribute [local go_sem] u32Of_u32V isU32_u32V isU8_bytV u8Of_bytV isPtr0_ptr ptrBlk_ptr low4_lt

set_option maxRecDepth 100000 in
theorem crc_take (r : BitVec 32) (c : UInt8) (w : World) :
    Calls Tryz.prog 216 #[u32V r, bytV c] w fun e w' => e = .returned (u32V (crcTake r c)) ∧ Chg [] w w' := by
  have K : ∀ x : BitVec 32, (w.alloc (.cells #[.int .u32 0, .int .u32 274646895, .int .u32 549293790, .int .u32 820201905, .int .u32 1098587580, .int .u32 1361435347, .int .u32 1640403810, .int .u32 1905808397, .int .u32 2197175160,
      .int .u32 2460548119, .int .u32 2722870694, .int .u32 2987750089, .int .u32 3280807620, .int .u32 3553878443, .int .u32 3811616794, .int .u32 4084100981] 232)).cell? ⟨w.heap.size, (low4 x).toNat, none⟩ =
      some (u32V (crcTab (low4 x).toNat)) := by
    intro x
    have hlt := low4_lt x
    generalize (low4 x).toNat = k at *
    rw [cell_of_row _ _ _ _ _ _ (heap_alloc_new w _)]
    have hk : k = 0 ∨ k = 1 ∨ k = 2 ∨ k = 3 ∨ k = 4 ∨ k = 5 ∨ k = 6 ∨ k = 7 ∨ k = 8 ∨ k = 9 ∨ k = 10 ∨ k = 11 ∨ k = 12 ∨ k = 13 ∨ k = 14 ∨ k = 15 := by omega
    rcases hk with rfl | rfl | rfl | rfl | rfl | rfl | rfl | rfl | rfl | rfl | rfl | rfl | rfl | rfl | rfl | rfl <;> rfl
  go_enter Tryz.func216, Tryz.ntmps216
  go_wp2
  refine wp_loop_rounds 3 ?_
  rw [rounds_succ]
  go_wp2
  rw [rounds_succ]
  go_wp2
  rw [rounds_succ]
  go_wp2
  go_ret
  exact ⟨rfl, (Chg.refl _ _).alloc _⟩

end Go.Proofs.YtjbpdgknhbnfgaaGreat

namespace Go.Proofs.YtjbpdgknhbnfgaaGreat
open Go.RowKit

theorem take_succ_byte (l : Bytes) (k : Nat) (h : k < l.length) : l.take (k + 1) = l.take k ++ [l[k]] := List.take_succ_eq_append_getElem h
theorem foldl_take_succ (l : Bytes) (k : Nat) (h : k < l.length) (x : BitVec 32) : (l.take (k + 1)).foldl crcTake x = crcTake ((l.take k).foldl crcTake x) l[k] := by
  rw [take_succ_byte l k h, List.foldl_append]; rfl

attribute [local go_sem ↓] exec_not32
attribute [local go_sem] u32Of_u32V isU32_u32V

set_option maxRecDepth 100000 in
theorem crc_more (s : BitVec 32) (l : Bytes) (w : World) (hl : l.length ≤ 140737488351232) :
    Calls Tryz.prog 212 #[u32V s, strV l] w fun e w' => e = .returned (u32V (~~~ (l.foldl crcTake (~~~ s)))) ∧ Chg [] w w' := by
  go_enter Tryz.func212, Tryz.ntmps212
  go_wp2
  go_loopw [5, 11] (fun v i wr => ∃ k : Nat, k ≤ l.length ∧ i = .int .i64 k ∧ v = u32V ((l.take k).foldl crcTake (~~~ s)) ∧ Chg [] w wr) (fun _ i _ => l.length - (intOf i).toNat)
  case atStart => exact ⟨0, Nat.zero_le _, rfl, rfl, Chg.refl _ _⟩
  case round =>
    obtain ⟨k, hk, rfl, rfl, hc⟩ := hrel
    by_cases hlt : k < l.length
    · have HS := Lib.hid (foldl_take_succ l k hlt (~~~ s))
      have hc' := Lib.hid hc
      clear hc
      generalize (l.take k).foldl crcTake (~~~ s) = r at *
      go_wp2_with (go_at_call 216; refine (crc_take _ _ _).mono ?_; rintro e w' ⟨rfl, hc2⟩)
      go_roundw
      case rel => exact ⟨k + 1, by omega, by go_num, congrArg u32V HS.out.symm, hc'.out.trans0 hc2⟩
      case measure => simp [intOf]; omega
    · obtain rfl : k = l.length := by omega
      rw [List.take_length]
      go_wp2
      go_ret
      exact ⟨rfl, hc⟩

theorem crc_sum (l : Bytes) (w : World) (hl : l.length ≤ 140737488351232) :
    Calls Tryz.prog 201 #[strV l] w fun e w' => e = .returned (u32V (crcSum l)) ∧ Chg [] w w' := by
  have h := crc_more 0#32 l w hl
  unfold crcSum
  generalize (~~~ (l.foldl crcTake (~~~ 0#32))) = r at *
  have H := Lib.hid h
  clear h
  go_enter Tryz.func201, Tryz.ntmps201
  go_wp2_with (go_at_call 212; refine H.out.mono ?_; rintro e w' ⟨rfl, hc2⟩)
  go_ret
  exact ⟨rfl, hc2⟩

end Go.Proofs.YtjbpdgknhbnfgaaGreat

namespace Go.Proofs.YtjbpdgknhbnfgaaGreat
open Go.RowKit

def shOf : Value → Nat | .int _ n => n.toNat | _ => 0
def IsSh (v : Value) : Prop := v = .int .i64 (shOf v) ∧ shOf v < 32
theorem isSh_0 : IsSh (.int .i64 0) := ⟨by simp [shOf], by simp [shOf]⟩
theorem isSh_8 : IsSh (.int .i64 8) := ⟨by simp [shOf], by simp [shOf]⟩
theorem isSh_16 : IsSh (.int .i64 16) := ⟨by simp [shOf], by simp [shOf]⟩
theorem isSh_24 : IsSh (.int .i64 24) := ⟨by simp [shOf], by simp [shOf]⟩
theorem shOf_0 : shOf (.int .i64 0) = 0 := by simp [shOf]
theorem shOf_8 : shOf (.int .i64 8) = 8 := by simp [shOf]
theorem shOf_16 : shOf (.int .i64 16) = 16 := by simp [shOf]
theorem shOf_24 : shOf (.int .i64 24) = 24 := by simp [shOf]
theorem exec_shr32v {P : Program} {ρ : Operand → Value} {w : World} {x y : Operand} {dst t t' type pos after guard} (h1 : IsU32 (ρ x)) (h2 : IsSh (ρ y)) :
    (execOp ρ { dst := dst, op := .binOp .shr t x y t', type := type, pos := pos, after := after, guard := guard }).run P w = .ok (.value (u32V (u32Of (ρ x) >>> shOf (ρ y)))) w :=
  exec_shr32 .i64 (shOf (ρ y)) h2.2 h1 h2.1
theorem conv_u32_u8 {ρ : Operand → Value} {w : World} {x : Operand} {dst type pos after guard} (h : IsU32 (ρ x)) :
    (execOp ρ { dst := dst, op := .convert 171 5 x, type := type, pos := pos, after := after, guard := guard }).run Tryz.prog w = .ok (.value (bytV (UInt8.ofNat (u32Of (ρ x)).toNat))) w := by
  obtain ⟨a, e1, h1⟩ := h.get
  rw [h1]
  have hw : IntKind.u8.wrap (a.toNat : Int) = (UInt8.ofNat a.toNat).toNat := by
    rw [IntKind.wrap_u8]
    simp
  simp only [execOp, e1]
  simp only [convert, Sem.run_bind, run_underlying Tryz.underlying5, run_underlying Tryz.underlying171, Result.andThen_ok, Conv.intToInt, Sem.run_pure, hw]
attribute [local go_sem ↓] exec_shr32v conv_u32_u8
attribute [local go_sem] u32Of_u32V isU32_u32V isSh_0 isSh_8 isSh_16 isSh_24 shOf_0 shOf_8 shOf_16 shOf_24

set_option maxRecDepth 100000 in
theorem crc_four (r : BitVec 32) (w : World) :
    Calls Tryz.prog 200 #[u32V r] w fun e w' => e = .returned (.agg (byts (crcFour r)).toArray) ∧ Chg [] w w' := by
  go_enter Tryz.func200, Tryz.ntmps200
  go_wp2
  refine wp_loop_rounds 5 ?_
  rw [rounds_succ]
  go_wp2
  rw [rounds_succ]
  go_wp2
  rw [rounds_succ]
  go_wp2
  rw [rounds_succ]
  go_wp2
  rw [rounds_succ]
  go_wp2
  have e : byts (crcFour r) = [Value.int IntKind.u8 ((r.toNat : Int) % 256), Value.int IntKind.u8 ((r.toNat : Int) >>> 8 % 256), Value.int IntKind.u8 ((r.toNat : Int) >>> 16 % 256), Value.int IntKind.u8 ((r.toNat : Int) >>> 24 % 256)] := by
    simp [byts, crcFour, Int.shiftRight_eq_div_pow]
  refine bodyPost_ret (v := .agg #[Value.int IntKind.u8 ((r.toNat : Int) % 256), Value.int IntKind.u8 ((r.toNat : Int) >>> 8 % 256), Value.int IntKind.u8 ((r.toNat : Int) >>> 16 % 256), Value.int IntKind.u8 ((r.toNat : Int) >>> 24 % 256)]) (by simp [results, Tryz.results200, go_sem]) rfl ⟨?_, ((Chg.refl _ _).alloc _).alloc _⟩
  rw [e]

def c0 (r : BitVec 32) : UInt8 := UInt8.ofNat (r.toNat % 256)
def c1 (r : BitVec 32) : UInt8 := UInt8.ofNat (r.toNat / 256 % 256)
def c2 (r : BitVec 32) : UInt8 := UInt8.ofNat (r.toNat / 65536 % 256)
def c3 (r : BitVec 32) : UInt8 := UInt8.ofNat (r.toNat / 16777216 % 256)
theorem crc_four_lit (r : BitVec 32) (w : World) :
    Calls Tryz.prog 200 #[u32V r] w fun e w' => e = .returned (.agg #[bytV (c0 r), bytV (c1 r), bytV (c2 r), bytV (c3 r)]) ∧ Chg [] w w' := crc_four r w

theorem info_u8 : (Tryz.prog.info? 5).map (fun i => (i.zero, i.size, i.bytes)) = some (some (bytV 0), 1, 1) := by kernel_rfl
theorem size_u8 : (Tryz.prog.info? 5).map (·.size) = some 1 := by kernel_rfl
theorem make_u8 {ρ : Operand → Value} {w : World} {x : Operand} {dst type pos after guard} (h : NatV 65536 (ρ x)) :
    (execOp ρ { dst := dst, op := .makeSlice 141 x x, type := type, pos := pos, after := after, guard := guard }).run Tryz.prog w =
      .ok (.value (.slice (some ⟨w.heap.size, 0, none⟩) (natOf (ρ x)) (natOf (ρ x)))) (w.alloc (.cells (List.replicate (natOf (ρ x) * 1) (bytV 0)).toArray 5)) :=
  exec_make Tryz.underlying141 info_u8 rfl (by omega) (by omega) h
attribute [local go_sem ↓] make_u8

theorem lay_head (l h : Bytes) (n : Nat) (hn : n = h.length + l.length) : lay (lay (byts (List.replicate n 0)) 0 (byts h)) h.length (byts l) = byts (h ++ l) := by
  subst hn
  simp [lay, byts]

set_option maxRecDepth 100000 in
theorem crc_lay (l : Bytes) (w : World) (hl : l.length ≤ 60000) (hpos : 0 < l.length) :
    Calls Tryz.prog 159 #[strV l] w fun e w' => e = .returned (strV (crcLay l)) ∧ Chg [] w w' := by
  have n1 : NatV 65536 (.int .i64 (4 + (l.length : Int))) := ⟨4 + l.length, by simp, by omega⟩
  have n2 : natOf (.int .i64 (4 + (l.length : Int))) = 4 + l.length := by simp [natOf]; omega
  have hB0 : Blk (w.alloc (.cells (Array.replicate (4 + l.length) (bytV 0)) 5)) w.heap.size 5 (byts (List.replicate (4 + l.length) 0)) := by
    have := Blk.new w 5 (byts (List.replicate (4 + l.length) 0))
    simpa [byts] using this
  have HB0 := Lib.hid hB0
  have hp : w.heap.size < (w.alloc (.cells (Array.replicate (4 + l.length) (bytV 0)) 5)).heap.size := hB0.lt
  clear hB0
  have HF4 : Hid (lay (lay (byts (List.replicate (4 + l.length) 0)) 0 [bytV (c0 (crcSum l)), bytV (c1 (crcSum l)), bytV (c2 (crcSum l)), bytV (c3 (crcSum l))]) 4 (byts (l.take l.length)) = byts (crcLay l)) := by
    refine Lib.hid ?_
    rw [List.take_length]
    exact lay_head l (crcFour (crcSum l)) (4 + l.length) rfl
  have HL : Hid ((crcLay l).length = 4 + l.length) := Lib.hid (by simp [crcLay, crcFour]; omega)
  have hne : ¬ l = [] := by intro h; rw [h] at hpos; simp at hpos
  go_enter Tryz.func159, Tryz.ntmps159
  go_wp2_with (first
    | (go_at_call 201; refine (crc_sum l _ (by omega)).mono ?_; rintro e w1 ⟨rfl, hc1⟩)
    | (go_at_call 200; refine (crc_four_lit _ _).mono ?_; rintro e w2 ⟨rfl, hc2⟩; have HB2 := Lib.hid (((HB0.out.kept hc1 (by simp)).kept hc2 (by simp)).alloc (.cells [bytV (c0 (crcSum l)), bytV (c1 (crcSum l)), bytV (c2 (crcSum l)), bytV (c3 (crcSum l))].toArray 213)); have HH2 := Lib.hid (Blk.new w2 213 [bytV (c0 (crcSum l)), bytV (c1 (crcSum l)), bytV (c2 (crcSum l)), bytV (c3 (crcSum l))]); have HB3 := Lib.hid (HB2.out.row (lay (byts (List.replicate (4 + l.length) 0)) 0 [bytV (c0 (crcSum l)), bytV (c1 (crcSum l)), bytV (c2 (crcSum l)), bytV (c3 (crcSum l))])))
    | (refine wpList_copy_blk rfl (.tmp 12) (.tmp 13) 141 141 rfl 5 Tryz.underlying141 size_u8 w.heap.size 0 (4 + l.length) (4 + l.length) w2.heap.size 0 4 4 rfl rfl _ _ _ _ HB2.out HH2.out (by omega) (by simp) (by simp) (by intro u hu; exact byts_one [c0 (crcSum l), c1 (crcSum l), c2 (crcSum l), c3 (crcSum l)] u hu) ?_)
    | (refine wpList_copy_str rfl (.tmp 16) (.tmp 17) 141 9 rfl 5 Tryz.underlying141 size_u8 w.heap.size 4 l.length l.length l rfl rfl _ _ HB3.out (by rw [lay_length' _ _ _ (by simp)]; simp) ?_; rw [HF4.out]; have HB4 := Lib.hid (HB3.out.row (byts (crcLay l))))
    | (refine wpList_bytes_str rfl (.tmp 19) 141 9 5 rfl Tryz.underlying141 Tryz.underlying5 Tryz.underlying9 w.heap.size 0 (4 + l.length) (4 + l.length) (crcLay l) rfl _ _ HB4.out (by rw [List.drop_zero, List.take_of_length_le]; rw [length_byts, HL.out]; exact Nat.le_refl _) HL.out ?_))
  go_ret
  exact ⟨rfl, ((((((Chg.refl [] w).alloc _).trans0 hc1).trans0 hc2).alloc _).setRow _ _ (.inr (Nat.le_refl _))).setRow _ _ (.inr (Nat.le_refl _))⟩

end Go.Proofs.YtjbpdgknhbnfgaaGreat

namespace Go.Proofs.YtjbpdgknhbnfgaaGreat
open Go.RowKit

def strOf : Value → Bytes | .string s => s.data.toList | _ => []
def intIn : Value → Nat | .int _ n => n.toNat | _ => 0
/-- v is a string, u a place in it (or its end). -/
def InStr (v u : Value) : Prop := ∃ l : Bytes, ∃ n : Nat, v = strV l ∧ u = .int .i64 n ∧ n ≤ l.length
/-- v is a string, u and t places in it, in order. -/
def InStr2 (v u t : Value) : Prop := ∃ l : Bytes, ∃ n m : Nat, v = strV l ∧ u = .int .i64 n ∧ t = .int .i64 m ∧ n ≤ m ∧ m ≤ l.length
theorem InStr.mk' {l : Bytes} {n : Nat} (h : n ≤ l.length) : InStr (strV l) (.int .i64 n) := ⟨l, n, rfl, rfl, h⟩
theorem InStr2.mk' {l : Bytes} {n m : Nat} (h : n ≤ m) (h' : m ≤ l.length) : InStr2 (strV l) (.int .i64 n) (.int .i64 m) := ⟨l, n, m, rfl, rfl, rfl, h, h'⟩
def cutLo (v u : Value) : Value := strV ((strOf v).drop (intIn u))
def cutHi (v u : Value) : Value := strV ((strOf v).take (intIn u))
def cut2 (v u t : Value) : Value := strV (((strOf v).take (intIn t)).drop (intIn u))
theorem cutLo_str (l : Bytes) (k : IntKind) (n : Int) : cutLo (.string ⟨l.toArray⟩) (.int k n) = strV (l.drop n.toNat) := rfl
theorem cutHi_str (l : Bytes) (k : IntKind) (n : Int) : cutHi (.string ⟨l.toArray⟩) (.int k n) = strV (l.take n.toNat) := rfl
theorem cut2_str (l : Bytes) (k k' : IntKind) (n m : Int) : cut2 (.string ⟨l.toArray⟩) (.int k n) (.int k' m) = strV ((l.take m.toNat).drop n.toNat) := rfl

theorem extract_list (l : Bytes) (n m : Nat) : (⟨l.toArray⟩ : ByteArray).extract n m = ⟨((l.take m).drop n).toArray⟩ := by
  apply ByteArray.ext
  rw [ByteArray.data_extract]
  apply Array.ext'
  simp [List.drop_take]

section
variable {P : Program} {a : Act} {w : World} {x y z : Operand} {dst : Option Tmp} {T type : TypeId} {pos : String} {after : Array Edge} {guard : Option (Nat × Bool)}
theorem exec_cutLo (hT : P.underlying T = some .string) (h : InStr (a.eval x) (a.eval y)) :
    (execOp a.eval { dst := dst, op := .slice T x (some y) none none, type := type, pos := pos, after := after, guard := guard }).run P w = .ok (.value (cutLo (a.eval x) (a.eval y))) w := by
  obtain ⟨l, n, hx, hy, hn⟩ := h
  rw [hx, hy, cutLo_str]
  have hs : (⟨l.toArray⟩ : ByteArray).size = l.length := by simp [ByteArray.size]
  simp only [execOp, hx, hy, Instr.sliceAt, Option.map_some, Option.map_none, Sem.run_bind, run_underlying hT, Result.andThen_ok, Instr.slice, hs]
  simp [Instr.sliceBounds, Instr.sliceBound, asIntOf, extract_list]
  intro hlt
  omega
theorem exec_cutHi (hT : P.underlying T = some .string) (h : InStr (a.eval x) (a.eval y)) :
    (execOp a.eval { dst := dst, op := .slice T x none (some y) none, type := type, pos := pos, after := after, guard := guard }).run P w = .ok (.value (cutHi (a.eval x) (a.eval y))) w := by
  obtain ⟨l, n, hx, hy, hn⟩ := h
  rw [hx, hy, cutHi_str]
  have hs : (⟨l.toArray⟩ : ByteArray).size = l.length := by simp [ByteArray.size]
  simp only [execOp, hx, hy, Instr.sliceAt, Option.map_some, Option.map_none, Sem.run_bind, run_underlying hT, Result.andThen_ok, Instr.slice, hs]
  simp [Instr.sliceBounds, Instr.sliceBound, asIntOf, extract_list]
  intro hlt
  omega
theorem exec_cut2 (hT : P.underlying T = some .string) (h : InStr2 (a.eval x) (a.eval y) (a.eval z)) :
    (execOp a.eval { dst := dst, op := .slice T x (some y) (some z) none, type := type, pos := pos, after := after, guard := guard }).run P w = .ok (.value (cut2 (a.eval x) (a.eval y) (a.eval z))) w := by
  obtain ⟨l, n, m, hx, hy, hz, hn, hm⟩ := h
  rw [hx, hy, hz, cut2_str]
  have hs : (⟨l.toArray⟩ : ByteArray).size = l.length := by simp [ByteArray.size]
  simp only [execOp, hx, hy, hz, Instr.sliceAt, Option.map_some, Option.map_none, Sem.run_bind, run_underlying hT, Result.andThen_ok, Instr.slice, hs]
  simp [Instr.sliceBounds, Instr.sliceBound, asIntOf, extract_list]
  rw [if_pos hm, if_pos hn]

/-- v is a slice of bytes that lie in w. -/
def BytesAt (w : World) (v : Value) : Prop := ∃ g off cap T cs, ∃ l : Bytes, v = .slice (some ⟨g, off, none⟩) l.length cap ∧ Blk w g T cs ∧ (cs.drop off).take l.length = byts l
def byteOf : Value → UInt8 | .int _ n => UInt8.ofNat n.toNat | _ => 0
def bytesAt (w : World) (v : Value) : Bytes :=
  match v with
  | .slice (some a) n _ => match w.heap[a.block]? with
    | some (.cells c _ _) => ((c.toList.drop a.off).take n).map byteOf
    | _ => []
  | _ => []
theorem bytesAt_blk {g off cap : Nat} {T : TypeId} {cs : List Value} {l : Bytes} (hB : Blk w g T cs) (hl : (cs.drop off).take l.length = byts l) : bytesAt w (.slice (some ⟨g, off, none⟩) l.length cap) = l := by
  unfold Blk at hB
  simp only [bytesAt, hB, hl, byts, List.map_map]
  conv => rhs; rw [← List.map_id l]
  apply List.map_congr_left
  intro c _
  simp [byteOf]
theorem exec_bytes_str {ρ : Operand → Value} {src d e : TypeId} (hs : P.underlying src = some (.slice e)) (he : P.underlying e = some (.int .u8)) (hd : P.underlying d = some .string) (h : BytesAt w (ρ x)) :
    (execOp ρ { dst := dst, op := .convert src d x, type := type, pos := pos, after := after, guard := guard }).run P w = .ok (.value (strV (bytesAt w (ρ x)))) w := by
  obtain ⟨g, off, cap, U, cs, l, hx, hB, hl⟩ := h
  rw [hx, bytesAt_blk hB hl]
  simp only [execOp, hx, Sem.run_bind, Sem.run_pure, Result.andThen_ok, run_bytes_str hs he hd hB hl rfl]
end

/-! concatenation -/
def IsStr (v : Value) : Prop := v = strV (strOf v) ∧ (strOf v).length ≤ 1099511627776
theorem IsStr.mk' {l : Bytes} (h : l.length ≤ 1099511627776) : IsStr (.string ⟨l.toArray⟩) := ⟨by simp [strOf], by simpa [strOf] using h⟩
theorem strOf_strV (l : Bytes) : strOf (.string ⟨l.toArray⟩) = l := by simp [strOf]
theorem exec_add_str {P : Program} {ρ : Operand → Value} {w : World} {x y : Operand} {dst : Option Tmp} {t t' type : TypeId} {pos : String} {after : Array Edge} {guard : Option (Nat × Bool)} (h1 : IsStr (ρ x)) (h2 : IsStr (ρ y)) :
    (execOp ρ { dst := dst, op := .binOp .add t x y t', type := type, pos := pos, after := after, guard := guard }).run P w = .ok (.value (strV (strOf (ρ x) ++ strOf (ρ y)))) w := by
  obtain ⟨e1, b1⟩ := h1
  obtain ⟨e2, b2⟩ := h2
  generalize strOf (ρ x) = s1 at *
  generalize strOf (ρ y) = s2 at *
  have hs : ¬ (IntKind.i64.max < (((⟨s1.toArray⟩ : ByteArray).size + (⟨s2.toArray⟩ : ByteArray).size : Nat) : Int)) := by
    have h1 : (⟨s1.toArray⟩ : ByteArray).size = s1.length := by simp [ByteArray.size]
    have h2 : (⟨s2.toArray⟩ : ByteArray).size = s2.length := by simp [ByteArray.size]
    rw [h1, h2]
    have : IntKind.i64.max = 9223372036854775807 := by decide
    omega
  have ha : (⟨s1.toArray⟩ ++ ⟨s2.toArray⟩ : ByteArray) = ⟨(s1 ++ s2).toArray⟩ := by
    apply ByteArray.ext
    simp
  have hop : Op.stringOp .add ⟨s1.toArray⟩ ⟨s2.toArray⟩ = pure (strV (s1 ++ s2)) := by
    unfold Op.stringOp
    simp only [gt_iff_lt]
    rw [if_neg hs, ha]
  simp only [execOp, e1, e2, eqGuard, binOp, hop]
  simp

end Go.Proofs.YtjbpdgknhbnfgaaGreat

namespace Go.Proofs.YtjbpdgknhbnfgaaGreat
open Go.RowKit

theorem cutLo4 {a : Act} {w : World} {x : Operand} {dst type pos after guard} (h : InStr (a.eval x) (.int .i64 4)) :
    (execOp a.eval { dst := dst, op := .slice 9 x (some (.const (.int .i64 4))) none none, type := type, pos := pos, after := after, guard := guard }).run Tryz.prog w = .ok (.value (cutLo (a.eval x) (.int .i64 4))) w :=
  exec_cutLo Tryz.underlying9 h
theorem cutHi4 {a : Act} {w : World} {x : Operand} {dst type pos after guard} (h : InStr (a.eval x) (.int .i64 4)) :
    (execOp a.eval { dst := dst, op := .slice 9 x none (some (.const (.int .i64 4))) none, type := type, pos := pos, after := after, guard := guard }).run Tryz.prog w = .ok (.value (cutHi (a.eval x) (.int .i64 4))) w :=
  exec_cutHi Tryz.underlying9 h
theorem conv_bytes {ρ : Operand → Value} {w : World} {x : Operand} {dst type pos after guard} (h : BytesAt w (ρ x)) :
    (execOp ρ { dst := dst, op := .convert 141 9 x, type := type, pos := pos, after := after, guard := guard }).run Tryz.prog w = .ok (.value (strV (bytesAt w (ρ x)))) w :=
  exec_bytes_str Tryz.underlying141 Tryz.underlying5 Tryz.underlying9 h
attribute [local go_sem ↓] cutLo4 cutHi4 conv_bytes
attribute [local go_sem] cutLo_str cutHi_str

def crcCut (l : Bytes) : Bytes × Int := if l.length < 4 then ([], 5) else if crcOk l = false then ([], 14) else (l.drop 4, 0)

set_option maxRecDepth 100000 in
theorem crc_cut (l : Bytes) (w : World) (hl : l.length ≤ 60000) (hpos : 4 < l.length) :
    Calls Tryz.prog 194 #[strV l] w fun e w' => e = .returned (.tuple #[strV (crcCut l).1, intV (crcCut l).2]) ∧ Chg [] w w' := by
  have i1 : InStr (strV l) (.int .i64 4) := InStr.mk' (n := 4) (by omega)
  unfold crcCut crcOk
  rw [if_neg (by omega)]
  have hB := fun (w2 : World) (r : BitVec 32) => Blk.new w2 213 [bytV (c0 r), bytV (c1 r), bytV (c2 r), bytV (c3 r)]
  have b1 : ∀ (w2 : World) (r : BitVec 32), BytesAt (w2.alloc (.cells #[bytV (c0 r), bytV (c1 r), bytV (c2 r), bytV (c3 r)] 213)).drew (.slice (some ⟨w2.heap.size, 0, none⟩) 4 4) := fun w2 r =>
    ⟨w2.heap.size, 0, 4, _, _, crcFour r, rfl, (hB w2 r).drew, rfl⟩
  have b2 : ∀ (w2 : World) (r : BitVec 32), bytesAt (w2.alloc (.cells #[bytV (c0 r), bytV (c1 r), bytV (c2 r), bytV (c3 r)] 213)).drew (.slice (some ⟨w2.heap.size, 0, none⟩) 4 4) = crcFour r := fun w2 r =>
    bytesAt_blk (l := crcFour r) (hB w2 r).drew rfl
  clear hB
  by_cases h : crcFour (crcSum (l.drop 4)) = l.take 4
  · rw [if_neg (by simp [h])]
    have hb : (crcFour (crcSum (l.drop 4)) == l.take 4) = true := by simp [h]
    clear h
    go_enter Tryz.func194, Tryz.ntmps194
    go_wp2_with (first
      | (go_at_call 201; refine (crc_sum _ _ (by simp; omega)).mono ?_; rintro e w1 ⟨rfl, hc1⟩)
      | (go_at_call 200; refine (crc_four_lit _ _).mono ?_; rintro e w2 ⟨rfl, hc2⟩))
    go_region
    go_wp2
    go_ret2
    exact ⟨rfl, ((hc1.trans0 hc2).alloc _).drew⟩
  · rw [if_pos (by simp [h])]
    have hb : (crcFour (crcSum (l.drop 4)) == l.take 4) = false := by simp [h]
    clear h
    go_enter Tryz.func194, Tryz.ntmps194
    go_wp2_with (first
      | (go_at_call 201; refine (crc_sum _ _ (by simp; omega)).mono ?_; rintro e w1 ⟨rfl, hc1⟩)
      | (go_at_call 200; refine (crc_four_lit _ _).mono ?_; rintro e w2 ⟨rfl, hc2⟩))
    go_region
    go_wp2
    go_ret2
    exact ⟨rfl, ((hc1.trans0 hc2).alloc _).drew⟩

end Go.Proofs.YtjbpdgknhbnfgaaGreat

namespace Go.Proofs.YtjbpdgknhbnfgaaGreat
open Go.RowKit

def u64V (x : BitVec 64) : Value := .int .u64 x.toNat
def u64Of : Value → BitVec 64 | .int _ n => BitVec.ofInt 64 n | _ => 0
def IsU64 (v : Value) : Prop := v = u64V (u64Of v)
theorem u64Of_u64V (x : BitVec 64) : u64Of (u64V x) = x := by simp [u64Of, u64V]
theorem isU64_u64V (x : BitVec 64) : IsU64 (u64V x) := by unfold IsU64; rw [u64Of_u64V]
theorem IsU64.get {v : Value} (h : IsU64 v) : ∃ a : BitVec 64, v = .int .u64 a.toNat ∧ u64Of v = a := ⟨u64Of v, h, rfl⟩
theorem ofInt_toNat64 (a : BitVec 64) : BitVec.ofInt 64 (a.toNat : Int) = a := by simp
theorem wrap_u64_bv (x : BitVec 64) : IntKind.u64.wrap (x.toNat : Int) = x.toNat := by
  have := x.isLt
  rw [IntKind.wrap_u64]
  omega
def sh64Of : Value → Nat | .int _ n => n.toNat | _ => 0
def IsSh64 (v : Value) : Prop := v = .int .i64 (sh64Of v) ∧ sh64Of v < 64
theorem or_key64 (a b : BitVec 64) : Op.intBits .or .u64 (a.toNat : Int) (b.toNat : Int) = pure (u64V (a ||| b)) := by
  show pure (Value.int .u64 (IntKind.u64.wrap ((BitVec.ofInt 64 (a.toNat : Int) ||| BitVec.ofInt 64 (b.toNat : Int)).toNat : Int))) = _
  rw [ofInt_toNat64, ofInt_toNat64, wrap_u64_bv]
  rfl
theorem shr_key64 (a : BitVec 64) (yk : IntKind) (k : Nat) (hk : k < 64) : Op.shift .shr .u64 (a.toNat : Int) yk (k : Int) = pure (u64V (a >>> k)) := by
  have h3 : ¬ ((k : Int) < 0) := by omega
  have h4 : min (k : Int).toNat IntKind.u64.bits = k := by show min (k : Int).toNat 64 = k; omega
  unfold Op.shift
  rw [if_neg h3]
  simp only [h4]
  unfold u64V
  rw [Int.fdiv_eq_ediv_of_nonneg _ (by exact Int.le_of_lt (Int.pow_pos (by omega)))]
  simp [Nat.shiftRight_eq_div_pow]
theorem shl_key64 (a : BitVec 64) (yk : IntKind) (k : Nat) (hk : k < 64) : Op.shift .shl .u64 (a.toNat : Int) yk (k : Int) = pure (u64V (a <<< k)) := by
  have h3 : ¬ ((k : Int) < 0) := by omega
  have h4 : min (k : Int).toNat IntKind.u64.bits = k := by show min (k : Int).toNat 64 = k; omega
  unfold Op.shift
  rw [if_neg h3]
  simp only [h4]
  unfold u64V
  rw [IntKind.wrap_u64]
  simp [Nat.shiftLeft_eq]
theorem add_key64 (a b : BitVec 64) : Op.intArith .add .u64 (a.toNat : Int) (b.toNat : Int) = pure (u64V (a + b)) := by
  show pure (Value.int .u64 (IntKind.u64.wrap ((a.toNat : Int) + (b.toNat : Int)))) = _
  unfold u64V
  rw [IntKind.wrap_u64]
  simp

section
variable {P : Program} {ρ : Operand → Value} {w : World} {x y : Operand} {dst : Option Tmp} {t t' s d type : TypeId} {pos : String} {after : Array Edge} {guard : Option (Nat × Bool)}
theorem exec_or64 (h1 : IsU64 (ρ x)) (h2 : IsU64 (ρ y)) :
    (execOp ρ { dst := dst, op := .binOp .or t x y t', type := type, pos := pos, after := after, guard := guard }).run P w = .ok (.value (u64V (u64Of (ρ x) ||| u64Of (ρ y)))) w := by
  obtain ⟨a, e1, h1⟩ := h1.get
  obtain ⟨b, e2, h2⟩ := h2.get
  rw [h1, h2]
  simp [execOp, e1, e2, eqGuard, binOp, or_key64]
theorem exec_shr64 (h1 : IsU64 (ρ x)) (h2 : IsSh64 (ρ y)) :
    (execOp ρ { dst := dst, op := .binOp .shr t x y t', type := type, pos := pos, after := after, guard := guard }).run P w = .ok (.value (u64V (u64Of (ρ x) >>> sh64Of (ρ y)))) w := by
  obtain ⟨a, e1, h1⟩ := h1.get
  obtain ⟨e2, hk⟩ := h2
  have hs := shr_key64 a .i64 (sh64Of (ρ y)) hk
  rw [h1]
  generalize sh64Of (ρ y) = k at *
  simp only [execOp, e1, e2, eqGuard, binOp, hs]
  simp
theorem exec_shl8 {a : Act} {x : Operand} (h1 : IsU64 (a.eval x)) :
    (execOp a.eval { dst := dst, op := .binOp .shl t x (.const (.int .u64 8)) t', type := type, pos := pos, after := after, guard := guard }).run P w = .ok (.value (u64V (u64Of (a.eval x) <<< 8))) w := by
  obtain ⟨b, e1, h1⟩ := h1.get
  rw [h1]
  have hs := shl_key64 b .u64 8 (by omega)
  have e2 : a.eval (.const (.int .u64 8)) = .int .u64 ((8 : Nat) : Int) := rfl
  simp only [execOp, e1, e2, eqGuard, binOp, hs]
  simp
def addHalf (x : BitVec 64) : BitVec 64 := x + 9223372036854775808#64
theorem exec_addHalf {a : Act} {x : Operand} (h1 : IsU64 (a.eval x)) :
    (execOp a.eval { dst := dst, op := .binOp .add t x (.const (.int .u64 9223372036854775808)) t', type := type, pos := pos, after := after, guard := guard }).run P w = .ok (.value (u64V (addHalf (u64Of (a.eval x))))) w := by
  unfold addHalf
  obtain ⟨b, e1, h1⟩ := h1.get
  rw [h1]
  have hs := add_key64 b 9223372036854775808#64
  have e2 : a.eval (.const (.int .u64 9223372036854775808)) = .int .u64 ((9223372036854775808#64).toNat : Int) := rfl
  simp only [execOp, e1, e2, eqGuard, binOp, hs]
  simp
theorem exec_conv_u64_u8 (hs : P.underlying s = some (.int .u64)) (hd : P.underlying d = some (.int .u8)) (h : IsU64 (ρ x)) :
    (execOp ρ { dst := dst, op := .convert s d x, type := type, pos := pos, after := after, guard := guard }).run P w = .ok (.value (bytV (UInt8.ofNat (u64Of (ρ x)).toNat))) w := by
  obtain ⟨a, e1, h1⟩ := h.get
  rw [h1]
  have hw : IntKind.u8.wrap (a.toNat : Int) = (UInt8.ofNat a.toNat).toNat := by
    rw [IntKind.wrap_u8]
    simp
  simp only [execOp, e1]
  simp only [convert, Sem.run_bind, run_underlying hs, run_underlying hd, Result.andThen_ok, Conv.intToInt, Sem.run_pure, hw]
theorem exec_conv_u8_u64 (hs : P.underlying s = some (.int .u8)) (hd : P.underlying d = some (.int .u64)) (h : IsU8 (ρ x)) :
    (execOp ρ { dst := dst, op := .convert s d x, type := type, pos := pos, after := after, guard := guard }).run P w = .ok (.value (u64V (BitVec.ofNat 64 (u8Of (ρ x)).toNat))) w := by
  obtain ⟨c, e1, h1⟩ := h.get
  rw [h1]
  have hlt := c.toNat_lt
  have hw : IntKind.u64.wrap (c.toNat : Int) = c.toNat := by rw [IntKind.wrap_u64]; omega
  have h2 : (BitVec.ofNat 64 c.toNat).toNat = c.toNat := by simp
  simp only [execOp, e1]
  simp only [convert, Sem.run_bind, run_underlying hs, run_underlying hd, Result.andThen_ok, Conv.intToInt, Sem.run_pure, hw, u64V, h2]
def IsI64 (v : Value) : Prop := ∃ n : Int, v = .int .i64 n
def i64Of : Value → Int | .int _ n => n | _ => 0
theorem exec_conv_i64_u64 (hs : P.underlying s = some (.int .i64)) (hd : P.underlying d = some (.int .u64)) (h : IsI64 (ρ x)) :
    (execOp ρ { dst := dst, op := .convert s d x, type := type, pos := pos, after := after, guard := guard }).run P w = .ok (.value (u64V (BitVec.ofInt 64 (i64Of (ρ x))))) w := by
  obtain ⟨n, e1⟩ := h
  have hw : IntKind.u64.wrap n = (BitVec.ofInt 64 n).toNat := by rw [IntKind.wrap_u64]; simp; omega
  rw [e1]
  simp only [execOp, e1]
  simp only [convert, Sem.run_bind, run_underlying hs, run_underlying hd, Result.andThen_ok, Conv.intToInt, Sem.run_pure, hw, u64V, i64Of]
theorem exec_conv_u64_i64 (hs : P.underlying s = some (.int .u64)) (hd : P.underlying d = some (.int .i64)) (h : IsU64 (ρ x)) :
    (execOp ρ { dst := dst, op := .convert s d x, type := type, pos := pos, after := after, guard := guard }).run P w = .ok (.value (.int .i64 (u64Of (ρ x)).toInt)) w := by
  obtain ⟨a, e1, h1⟩ := h.get
  rw [h1]
  have hw : IntKind.i64.wrap (a.toNat : Int) = a.toInt := by
    have := a.isLt
    rw [IntKind.wrap_i64, BitVec.toInt_eq_toNat_cond]
    split <;> omega
  simp only [execOp, e1]
  simp only [convert, Sem.run_bind, run_underlying hs, run_underlying hd, Result.andThen_ok, Conv.intToInt, Sem.run_pure, hw]
end

end Go.Proofs.YtjbpdgknhbnfgaaGreat

namespace Go.Proofs.YtjbpdgknhbnfgaaGreat
open Go.RowKit

theorem src_one {P : Program} {tx e' : TypeId} (hk : P.underlying tx = some (.slice e')) (w : World) (x : Value) (hx : x.oneCell' = true) (T : TypeId) :
    Src P 1 tx (.slice (some ⟨w.heap.size, 0, none⟩) 1 1) 1 [x] (w.alloc (.cells #[x] T)) := by
  refine Src.ofSlice (w.alloc (.cells #[x] T)) hk ⟨w.heap.size, 0, none⟩ 1 1 [x] (by simp) ?_ (by intro u hu; simp at hu; subst hu; exact hx)
  intro j u hu
  rw [add_spot, (Blk.new w T [x]).cell, Nat.zero_add]
  exact hu

theorem be_length (k n : Nat) : (be k n).length = k := by
  induction k generalizing n with
  | zero => rfl
  | succ k ih => simp [be, ih]
theorem be_get (k n i : Nat) (hi : i < k) : (be k n)[i]? = some (UInt8.ofNat (n / 256 ^ (k - 1 - i) % 256)) := by
  induction k generalizing n with
  | zero => omega
  | succ k ih =>
    simp only [be]
    by_cases h : i < k
    · rw [List.getElem?_append_left (by rw [be_length]; exact h), ih (n / 256) h, Nat.div_div_eq_div_mul]
      rw [show k + 1 - 1 - i = (k - 1 - i) + 1 by omega, Nat.pow_succ, Nat.mul_comm]
    · have : i = k := by omega
      subst this
      rw [List.getElem?_append_right (by rw [be_length]; exact Nat.le_refl _), be_length]
      simp
theorem be_take_succ (k n i : Nat) (hi : i < k) : (be k n).take (i + 1) = (be k n).take i ++ [UInt8.ofNat (n / 256 ^ (k - 1 - i))] := by
  rw [List.take_succ_eq_append_getElem (by rw [be_length]; exact hi)]
  have := be_get k n i hi
  rw [List.getElem?_eq_getElem (by rw [be_length]; exact hi)] at this
  rw [Option.some.inj this]
  congr 2
  apply UInt8.toNat_inj.1
  simp
theorem u64_shr (N : BitVec 64) (k : Nat) : (N >>> (8 * k)).toNat = N.toNat / 256 ^ k := by
  rw [BitVec.toNat_ushiftRight, Nat.shiftRight_eq_div_pow, Nat.pow_mul]

theorem conv_u64_u8 {ρ : Operand → Value} {w : World} {x : Operand} {dst type pos after guard} (h : IsU64 (ρ x)) :
    (execOp ρ { dst := dst, op := .convert 173 5 x, type := type, pos := pos, after := after, guard := guard }).run Tryz.prog w = .ok (.value (bytV (UInt8.ofNat (u64Of (ρ x)).toNat))) w :=
  exec_conv_u64_u8 Tryz.underlying173 Tryz.underlying5 h
theorem conv_i64_u64 {ρ : Operand → Value} {w : World} {x : Operand} {dst type pos after guard} (h : IsI64 (ρ x)) :
    (execOp ρ { dst := dst, op := .convert 3 173 x, type := type, pos := pos, after := after, guard := guard }).run Tryz.prog w = .ok (.value (u64V (BitVec.ofInt 64 (i64Of (ρ x))))) w :=
  exec_conv_i64_u64 Tryz.underlying3 Tryz.underlying173 h
attribute [local go_sem ↓] conv_u64_u8 conv_i64_u64 exec_shr64 exec_addHalf
attribute [local go_sem] u64Of_u64V isU64_u64V

set_option maxRecDepth 100000 in
theorem pack_put (N : BitVec 64) (w : World) :
    Calls Tryz.prog 202 #[.slice none 0 0, u64V N, intV 8] w fun e w' => ∃ v, e = .returned v ∧ Own w' 5 1 v 8 (byts (be 8 N.toNat)) ∧ Chg [] w w' := by
  go_enter Tryz.func202, Tryz.ntmps202
  go_wp2
  go_loopw [0, 7] (fun v i wr => ∃ k : Nat, k ≤ 8 ∧ i = .int .i64 (7 - (k : Int)) ∧ Own wr 5 1 v k (byts ((be 8 N.toNat).take k)) ∧ Chg [] w wr ∧ ∀ g ∈ ownBlk v, w.heap.size ≤ g) (fun _ i _ => (intOf i + 1).toNat)
  case atStart => exact ⟨0, by omega, by simp, Own.nil _ _ _, Chg.refl _ _, by simp [ownBlk]⟩
  case round =>
    obtain ⟨k, hk, rfl, hown, hc, hge⟩ := hrel
    by_cases hlt : k < 8
    · have h1 : IsSh64 (.int .i64 (8 * (7 - (k : Int)))) := ⟨by simp [sh64Of]; omega, by simp [sh64Of]; omega⟩
      have h2 : sh64Of (.int .i64 (8 * (7 - (k : Int)))) = 8 * (7 - k) := by simp [sh64Of]; omega
      have hk7 : (k : Int) ≤ 7 := by omega
      have hk0 : (0 : Int) ≤ k := by omega
      have HB : Hid (byts ((be 8 N.toNat).take (k + 1)) = byts ((be 8 N.toNat).take k) ++ [bytV (UInt8.ofNat (N.toNat >>> (8 * (7 - k))))]) := by
        refine Lib.hid ?_
        rw [be_take_succ 8 N.toNat k hlt, Nat.shiftRight_eq_div_pow, Nat.pow_mul, show 8 - 1 - k = 7 - k by omega]
        simp [byts]
      obtain ⟨ad, c, rfl, hkc, hcm⟩ := hown.shape
      have hs := hown.lt
      have HO := Lib.hid hown
      have HC := Lib.hid hc
      have HG := Lib.hid hge
      have HS := Lib.hid hs
      clear hown hc hge hs
      go_wp2_with (refine wpList_append rfl (.tmp 14) (.tmp 20) 141 141 rfl 5 1 1 (bytV 0) Tryz.underlying141 info_u8 rfl (by omega) _ k 1 _ _ rfl (HO.out.alloc _) (src_one Tryz.underlying141 wr _ rfl 5) (by omega) (by unfold maxLen; omega) ?_; intro ad' c' w2 hown2 hc2 hge2 hcm2 hkc2)
      go_roundw
      case rel =>
        refine ⟨k + 1, by omega, by go_num, by rw [HB.out]; exact hown2, (HC.out.alloc _).trans hc2 (fun g hg => .inr (HG.out g hg)), ?_⟩
        intro g hg
        rcases hge2 g hg with h | h
        · exact HG.out g h
        · have := HC.out.size
          simp at h
          omega
      case measure => simp [intOf]; omega
    · obtain rfl : k = 8 := by omega
      rw [List.take_of_length_le (by rw [be_length]; exact Nat.le_refl _)] at hown
      obtain ⟨ad, c, rfl, hkc, hcm⟩ := hown.shape
      have HO := Lib.hid hown
      have HC := Lib.hid hc
      clear hown hc hge
      go_wp2
      go_ret
      exact ⟨_, rfl, HO.out, HC.out⟩

theorem pack_u (N : BitVec 64) (w : World) :
    Calls Tryz.prog 214 #[u64V N] w fun e w' => e = .returned (strV (be 8 N.toNat)) ∧ Chg [] w w' := by
  have hl : (be 8 N.toNat).length = 8 := be_length _ _
  have HL := Lib.hid hl
  clear hl
  go_enter Tryz.func214, Tryz.ntmps214
  go_wp2_with (first
    | (go_at_call 202; refine (pack_put N _).mono ?_; rintro e w1 ⟨v, rfl, ho, hc⟩)
    | (refine wpList_own_str rfl (.tmp 4) 141 9 5 rfl Tryz.underlying141 Tryz.underlying5 Tryz.underlying9 v (be 8 N.toNat) 5 rfl (by rw [HL.out]; exact ho) ?_))
  go_ret
  exact ⟨rfl, hc⟩

theorem two63_eq : two63 = 9223372036854775808 := rfl
theorem two64_eq : two64 = 18446744073709551616 := rfl
theorem packI_eq (n : Int) : packI n = be 8 (addHalf (BitVec.ofInt 64 n)).toNat := by
  unfold packI addHalf
  refine congrArg (be 8) ?_
  rw [BitVec.toNat_add, BitVec.toNat_ofInt, two63_eq, two64_eq]
  simp only [BitVec.toNat_ofNat]
  omega

theorem pack_i (n : Int) (w : World) :
    Calls Tryz.prog 160 #[intV n] w fun e w' => e = .returned (strV (packI n)) ∧ Chg [] w w' := by
  have h1 : IsI64 (intV n) := ⟨n, rfl⟩
  have h2 : i64Of (intV n) = n := rfl
  have HP := Lib.hid (packI_eq n)
  have HL := Lib.hid (be_length 8 (addHalf (BitVec.ofInt 64 n)).toNat)
  rw [HP.out]
  go_enter Tryz.func160, Tryz.ntmps160
  go_wp2_with (first
    | (go_at_call 202; refine (pack_put _ _).mono ?_; rintro e w1 ⟨v, rfl, ho, hc⟩)
    | (refine wpList_own_str rfl (.tmp 6) 141 9 5 rfl Tryz.underlying141 Tryz.underlying5 Tryz.underlying9 v (be 8 (addHalf (BitVec.ofInt 64 n)).toNat) 5 rfl (by rw [HL.out]; exact ho) ?_))
  go_ret
  exact ⟨rfl, hc⟩

end Go.Proofs.YtjbpdgknhbnfgaaGreat

namespace Go.Proofs.YtjbpdgknhbnfgaaGreat
open Go.RowKit

theorem FMap.at_zero {L : FMap} {i : Int} (h : L.at_ i = 0) : 0 ≤ i ∧ i < L.length := by
  unfold FMap.at_ at h
  split at h
  · omega
  · omega
theorem FMap.at_of {L : FMap} {i : Nat} (h : i < L.length) : FMap.at_ L i = 0 := by unfold FMap.at_; rw [if_neg (by omega)]
theorem FMap.kind_of {L : FMap} {i : Nat} (h : i < L.length) : FMap.kind L i = L[i] := by simp [FMap.kind, List.getD, h]

theorem map_cells {w : World} {b : MapB} {L : FMap} (h : MapAt w b L) (i : Nat) (hi : i < L.length) :
    w.cell? ⟨b.m, 0, none⟩ = some (.slice (some ⟨b.l, 0, none⟩) L.length L.length) ∧ w.cell? ⟨b.l, i, none⟩ = some (intV (FMap.kind L i)) ∧ w.frozen? ⟨b.l, i, none⟩ = false := by
  refine ⟨h.st.cell 0, ?_, h.row.free i⟩
  rw [h.row.cell, ints_get, List.getElem?_eq_getElem hi, FMap.kind_of hi]
  rfl

set_option maxHeartbeats 1000000 in
theorem map_leave {w : World} {b : MapB} {L : FMap} (h : MapAt w b L) (i : Int) :
    Calls Tryz.prog 101 #[ptrV b.m, intV i] w fun e w' => e = .returned (intV (FMap.leave L i).1) ∧ MapAt w' b (FMap.leave L i).2 ∧ Chg b.set w w' := by
  have hat := map_at h i
  unfold FMap.leave
  by_cases h0 : L.at_ i = 0
  · obtain ⟨h1, h2⟩ := FMap.at_zero h0
    obtain ⟨k, rfl⟩ := Int.eq_ofNat_of_zero_le h1
    have hk : k < L.length := by omega
    rw [if_neg (by simpa using h0)]
    rw [h0] at hat
    obtain ⟨z0, z1, z2⟩ := map_cells h k hk
    have hf := h.few
    have HH := Lib.hid h
    have HA := Lib.hid hat
    have HS := Lib.hid (fun x => h.setRow k x)
    clear hat h0 h
    generalize hkd : FMap.kind L ↑k = kd at *
    clear hkd
    by_cases e2 : kd = 2
    · subst e2
      rw [if_pos rfl]
      go_enter Tryz.func101, Tryz.ntmps101
      go_wp2_with (go_at_call 161; refine HA.out.mono ?_; rintro e w' ⟨rfl, rfl⟩)
      go_ret
      exact ⟨rfl, HS.out 0, (Chg.refl _ _).setCell _ _ (.inl (by simp [MapB.set]))⟩
    · rw [if_neg e2]
      have b2 : (kd == 2) = false := by simpa using e2
      by_cases e1 : kd = 1
      · subst e1
        rw [if_pos rfl]
        clear e2 b2
        go_enter Tryz.func101, Tryz.ntmps101
        go_wp2_with (go_at_call 161; refine HA.out.mono ?_; rintro e w' ⟨rfl, rfl⟩)
        go_ret
        exact ⟨rfl, HS.out 3, (Chg.refl _ _).setCell _ _ (.inl (by simp [MapB.set]))⟩
      · rw [if_neg e1]
        have b1 : (kd == 1) = false := by simpa using e1
        clear e1 e2
        go_enter Tryz.func101, Tryz.ntmps101
        go_wp2_with (go_at_call 161; refine HA.out.mono ?_; rintro e w' ⟨rfl, rfl⟩)
        go_ret
        exact ⟨rfl, HH.out, Chg.refl _ _⟩
  · rw [if_pos h0]
    have HH := Lib.hid h
    have HA := Lib.hid hat
    have hx1 : (L.at_ i == 0) = false := by simpa using h0
    have hx2 : (L.at_ i != 0) = true := by simpa using h0
    generalize L.at_ i = x at *
    clear hat h0 h
    go_enter Tryz.func101, Tryz.ntmps101
    go_wp2_with (go_at_call 161; refine HA.out.mono ?_; rintro e w' ⟨rfl, rfl⟩)
    go_ret
    exact ⟨rfl, HH.out, Chg.refl _ _⟩

theorem map_first {w : World} {b : MapB} {L : FMap} (h : MapAt w b L) (kind : Int) :
    Calls Tryz.prog 163 #[ptrV b.m, intV kind] w fun e w' => e = .returned (intV (idxOf L kind)) ∧ w = w' := by
  have h0 := h.st.cell 0
  simp at h0
  have HI := Lib.hid (slices_index h.own kind (by have := h.few; omega))
  clear h
  go_enter Tryz.func163, Tryz.ntmps163
  go_wp2_with (go_at_call 87; refine HI.out.mono ?_; rintro e w' ⟨rfl, rfl⟩)
  go_ret
  exact ⟨rfl, rfl⟩

set_option maxHeartbeats 1000000 in
theorem map_take {w : World} {b : MapB} {L : FMap} (h : MapAt w b L) :
    Calls Tryz.prog 104 #[ptrV b.m] w fun e w' => e = .returned (.tuple #[intV (FMap.take L).1, intV (FMap.take L).2.1]) ∧ MapAt w' b (FMap.take L).2.2 ∧ Chg b.set w w' := by
  have hmf : ∀ (fn : Fn) (first cap : Array Value) (w : World), (Instr.makeFunc fn first cap).run Tryz.prog w = .ok (.func fn first cap) w := fun _ _ _ _ => rfl
  have hfi := map_first h 0
  unfold FMap.take FMap.first
  unfold idxOf at hfi
  by_cases hlt : L.findIdx (· == 0) < L.length
  · rw [if_pos hlt] at hfi ⊢
    generalize L.findIdx (· == 0) = k at *
    obtain ⟨z0, z1, z2⟩ := map_cells h k hlt
    have hf := h.few
    have HF := Lib.hid hfi
    have HS := Lib.hid (h.setRow k 2)
    clear h hfi
    go_enter Tryz.func104, Tryz.ntmps104
    go_wp2_with (go_at_call 163; refine HF.out.mono ?_; rintro e w' ⟨rfl, rfl⟩)
    go_ret2
    exact ⟨rfl, HS.out, (Chg.refl _ _).setCell _ _ (.inl (by simp [MapB.set]))⟩
  · rw [if_neg hlt] at hfi ⊢
    have HF := Lib.hid hfi
    have HH := Lib.hid h
    clear h hfi hlt
    go_enter Tryz.func104, Tryz.ntmps104
    go_wp2_with (go_at_call 163; refine HF.out.mono ?_; rintro e w' ⟨rfl, rfl⟩)
    go_ret2
    exact ⟨rfl, HH.out, Chg.refl _ _⟩

theorem map_fresh {w : World} {b : MapB} {L : FMap} (h : MapAt w b L) (i : Int) :
    Calls Tryz.prog 99 #[ptrV b.m, intV i] w fun e w' => e = .returned (.bool (FMap.fresh L i)) ∧ w = w' := by
  have hat := map_at h i
  by_cases h0 : L.at_ i = 0
  · obtain ⟨h1, h2⟩ := FMap.at_zero h0
    obtain ⟨k, rfl⟩ := Int.eq_ofNat_of_zero_le h1
    have hk : k < L.length := by omega
    have hfr : FMap.fresh L (k : Int) = (FMap.kind L k == 2) := by
      unfold FMap.fresh
      rw [h0]
      by_cases e : FMap.kind L k = 2 <;> simp [e]
    rw [hfr]
    rw [h0] at hat
    obtain ⟨z0, z1, z2⟩ := map_cells h k hk
    have hf := h.few
    have HA := Lib.hid hat
    clear hat h0 h hfr
    generalize FMap.kind L ↑k = kd at *
    go_enter Tryz.func99, Tryz.ntmps99
    go_wp2_with (go_at_call 161; refine HA.out.mono ?_; rintro e w' ⟨rfl, rfl⟩)
    go_ret
    exact ⟨rfl, rfl⟩
  · have hfr : FMap.fresh L i = false := by unfold FMap.fresh; simp [h0]
    rw [hfr]
    have HA := Lib.hid hat
    have hx1 : (L.at_ i == 0) = false := by simpa using h0
    have hx2 : (L.at_ i != 0) = true := by simpa using h0
    generalize L.at_ i = x at *
    clear hat h0 h hfr
    go_enter Tryz.func99, Tryz.ntmps99
    go_wp2_with (go_at_call 161; refine HA.out.mono ?_; rintro e w' ⟨rfl, rfl⟩)
    go_ret
    exact ⟨rfl, rfl⟩

end Go.Proofs.YtjbpdgknhbnfgaaGreat
