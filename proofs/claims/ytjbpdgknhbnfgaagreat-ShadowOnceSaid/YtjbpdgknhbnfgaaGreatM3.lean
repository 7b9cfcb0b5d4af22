/- A part of the walks of the program's functions, each a contract that its caller uses; no condition but what each theorem names. The walks of package freemap: List, Count, New. The walks of package pack: get, left, ReadU, ReadI. The walks of package root: two, Need, right, Put. The walks of package disk: each function answers as its plain Lean twin says, on a disk that lies in memory. The walks of package disk, the rest: Write at every place, Sync, Read, New, Sectors. The walk of disk.New. The walks of package page: right, Many, sectors. The walk of page.Put. -/
import Derived.Test.YtjbpdgknhbnfgaaGreatM2

namespace Go.Proofs.YtjbpdgknhbnfgaaGreat
open Go.RowKit

def listTo (L : List Int) (kind : Int) (k : Nat) : List Int := ((List.range k).filter (fun (i : Nat) => L.getD i 0 == kind)).map (fun (i : Nat) => (i : Int))
theorem listTo_all (L : List Int) (kind : Int) : listTo L kind L.length = FMap.list L kind := rfl
theorem listTo_yes (L : List Int) (kind : Int) (k : Nat) (h : (L.getD k 0 == kind) = true) : listTo L kind (k + 1) = listTo L kind k ++ [(k : Int)] := by
  unfold listTo
  rw [List.range_succ, List.filter_append, List.map_append]
  simp only [List.filter_cons, List.filter_nil]
  rw [if_pos h]
  rfl
theorem listTo_no (L : List Int) (kind : Int) (k : Nat) (h : (L.getD k 0 == kind) = false) : listTo L kind (k + 1) = listTo L kind k := by
  unfold listTo
  rw [List.range_succ, List.filter_append, List.map_append]
  simp only [List.filter_cons, List.filter_nil]
  rw [if_neg (by rw [h]; decide)]
  simp
theorem listTo_len (L : List Int) (kind : Int) (k : Nat) : (listTo L kind k).length ≤ k := by
  unfold listTo
  rw [List.length_map]
  exact Nat.le_trans (List.length_filter_le _ _) (by simp)

theorem info_int : (Tryz.prog.info? 3).map (fun i => (i.zero, i.size, i.bytes)) = some (some (intV 0), 1, 8) := by kernel_rfl

set_option maxHeartbeats 1000000 in
set_option maxRecDepth 100000 in
theorem map_list {w : World} {b : MapB} {L : FMap} (h : MapAt w b L) (kind : Int) :
    Calls Tryz.prog 146 #[ptrV b.m, intV kind] w fun e w' => ∃ a c, e = .returned (.slice a (FMap.list L kind).length c) ∧ Own w' 3 1 (.slice a (FMap.list L kind).length c) (FMap.list L kind).length (ints (FMap.list L kind)) ∧ Chg [] w w' := by
  have h0 := h.st.cell 0
  simp at h0
  have hf := h.few
  have HH := Lib.hid h
  clear h
  rw [← listTo_all]
  go_enter Tryz.func146, Tryz.ntmps146
  go_wp2
  go_loopw [5, 16] (fun v i wr => ∃ k : Nat, k ≤ L.length ∧ i = .int .i64 k ∧ Own wr 3 1 v (listTo L kind k).length (ints (listTo L kind k)) ∧ Chg [] w wr ∧ ∀ g ∈ ownBlk v, w.heap.size ≤ g) (fun _ i _ => L.length - (intOf i).toNat)
  case atStart => exact ⟨0, Nat.zero_le _, rfl, Own.nil _ _ _, Chg.refl _ _, by simp [ownBlk]⟩
  case round =>
    obtain ⟨k, hk, rfl, hown, hc, hge⟩ := hrel
    obtain ⟨ad, c, rfl, hnc, hcm⟩ := hown.shape
    have hlen := listTo_len L kind k
    by_cases hlt : k < L.length
    · obtain ⟨z0, z1, z2⟩ := map_cells (HH.out.kept hc (by simp)) k hlt
      have hkd : FMap.kind L ↑k = L.getD k 0 := rfl
      rw [hkd] at z1
      have HY := Lib.hid (listTo_yes L kind k)
      have HN := Lib.hid (listTo_no L kind k)
      have HO := Lib.hid hown
      have HC := Lib.hid hc
      have HG := Lib.hid hge
      clear hkd hown hc hge
      generalize L.getD k 0 = kd at *
      by_cases hb : (kd == kind) = true
      · have hy := HY.out hb
        have HY2 := Lib.hid hy
        clear hy HY HN
        go_wp2_with (refine wpList_append rfl (.tmp 24) (.tmp 26) 52 52 rfl 3 1 8 (intV 0) Tryz.underlying52 info_int rfl (by omega) (.slice ad (listTo L kind k).length c) (listTo L kind k).length 1 _ _ rfl (HO.out.alloc _) (src_one Tryz.underlying52 wr _ rfl 3) (by omega) (by unfold maxLen; omega) ?_; intro ad' c' w2 hown2 hc2 hge2 hcm2 hkc2)
        have hln : (listTo L kind (k + 1)).length = (listTo L kind k).length + 1 := by rw [HY2.out]; simp
        have hint : ints (listTo L kind (k + 1)) = ints (listTo L kind k) ++ [intV k] := by rw [HY2.out]; simp [ints]
        have hown3 : Own w2 3 1 (.slice ad' ((listTo L kind k).length + 1) c') (listTo L kind (k + 1)).length (ints (listTo L kind (k + 1))) := by
          rw [hln, hint]
          exact hown2
        have HO3 := Lib.hid hown3
        clear hln hint hown2 hown3
        go_roundw
        case rel =>
          refine ⟨k + 1, by omega, by go_num, HO3.out, (HC.out.alloc _).trans hc2 (fun g hg => .inr (HG.out g hg)), ?_⟩
          intro g hg
          rcases hge2 g hg with h | h
          · exact HG.out g h
          · have := HC.out.size
            simp at h
            omega
        case measure => simp [intOf]; omega
      · have hb' : (kd == kind) = false := by simpa using hb
        have hy := HN.out hb'
        have HY2 := Lib.hid hy
        clear hy HY HN hb
        go_wp2
        go_roundw
        case rel => exact ⟨k + 1, by omega, by go_num, by rw [HY2.out]; exact HO.out, HC.out, HG.out⟩
        case measure => simp [intOf]; omega
    · obtain rfl : k = L.length := by omega
      have HO := Lib.hid hown
      have HC := Lib.hid hc
      clear hown hc hge
      go_wp2
      go_ret
      exact ⟨_, _, rfl, HO.out, HC.out⟩

theorem map_count1 {w : World} {b : MapB} {L : FMap} (h : MapAt w b L) (g : Nat) (kind : Int) (hg : w.cell? ⟨g, 0, none⟩ = some (ptrV b.m)) :
    Calls Tryz.prog 145 #[intV kind, ptrV g] w fun e w' => e = .returned (intV (FMap.list L kind).length) ∧ Chg [] w w' := by
  have HL := Lib.hid (map_list h kind)
  have hlen := listTo_len L kind L.length
  rw [listTo_all] at hlen
  have hf := h.few
  clear h
  go_enter Tryz.func145, Tryz.ntmps145
  go_wp2_with (go_at_call 146; refine HL.out.mono ?_; rintro e w1 ⟨a, c, rfl, ho, hc⟩)
  go_ret
  exact ⟨rfl, hc⟩

def FMap.countV (L : FMap) : Value := .tuple #[intV (FMap.list L 0).length, intV (FMap.list L 1).length, intV (FMap.list L 2).length, intV (FMap.list L 3).length]

set_option maxHeartbeats 1000000 in
theorem map_count {w : World} {b : MapB} {L : FMap} (h : MapAt w b L) :
    Calls Tryz.prog 79 #[ptrV b.m] w fun e w' => e = .returned (FMap.countV L) ∧ Chg [] w w' := by
  have hmf : ∀ (fn : Fn) (first cap : Array Value) (w : World), (Instr.makeFunc fn first cap).run Tryz.prog w = .ok (.func fn first cap) w := fun _ _ _ _ => rfl
  have H0 := Lib.hid (h.kept ((Chg.refl [] w).alloc (.cells #[ptrV b.m] 113)) (by simp))
  have hB0 : Blk (w.alloc (.cells #[ptrV b.m] 113)) w.heap.size 113 [ptrV b.m] := Blk.new w _ [ptrV b.m]
  have HB0 := Lib.hid hB0
  clear h hB0
  go_enter Tryz.func79, Tryz.ntmps79
  go_wp2_with fail
  refine (map_count1 H0.out _ 0 (HB0.out.cell 0)).mono ?_
  rintro e w1 ⟨rfl, hc1⟩
  have H1 := Lib.hid (H0.out.kept hc1 (by simp))
  have HB1 := Lib.hid (HB0.out.kept hc1 (by simp))
  go_wp2_with fail
  refine (map_count1 H1.out _ 1 (HB1.out.cell 0)).mono ?_
  rintro e w2 ⟨rfl, hc2⟩
  have H2 := Lib.hid (H1.out.kept hc2 (by simp))
  have HB2 := Lib.hid (HB1.out.kept hc2 (by simp))
  go_wp2_with fail
  refine (map_count1 H2.out _ 2 (HB2.out.cell 0)).mono ?_
  rintro e w3 ⟨rfl, hc3⟩
  have H3 := Lib.hid (H2.out.kept hc3 (by simp))
  have HB3 := Lib.hid (HB2.out.kept hc3 (by simp))
  go_wp2_with fail
  refine (map_count1 H3.out _ 3 (HB3.out.cell 0)).mono ?_
  rintro e w4 ⟨rfl, hc4⟩
  have H4 := Lib.hid (H3.out.kept hc4 (by simp))
  have HB4 := Lib.hid (HB3.out.kept hc4 (by simp))
  go_wp2_with fail
  exact bodyPost_ret (v := FMap.countV L) (by simp [results, Tryz.results79, FMap.countV]) rfl ⟨rfl, (((((Chg.refl [] w).alloc _).trans0 hc1).trans0 hc2).trans0 hc3).trans0 hc4⟩

theorem make_ints {ρ : Operand → Value} {w : World} {x : Operand} {dst type pos after guard} (h : NatV 65536 (ρ x)) :
    (execOp ρ { dst := dst, op := .makeSlice 52 x x, type := type, pos := pos, after := after, guard := guard }).run Tryz.prog w =
      .ok (.value (.slice (some ⟨w.heap.size, 0, none⟩) (natOf (ρ x)) (natOf (ρ x)))) (w.alloc (.cells (List.replicate (natOf (ρ x) * 1) (intV 0)).toArray 3)) :=
  exec_make Tryz.underlying52 info_int rfl (by omega) (by omega) h
attribute [local go_sem ↓] make_ints

theorem map_new (w : World) (n : Nat) (h1 : n ≤ 1024) :
    Calls Tryz.prog 93 #[intV n] w fun e w' => ∃ b : MapB, e = .returned (.tuple #[ptrV b.m, intV 0]) ∧ MapAt w' b (List.replicate n 0) ∧ Chg [] w w' ∧ ∀ k ∈ b.set, w.heap.size ≤ k := by
  have hv : NatV 65536 (intV n) := NatV.mk' (by omega)
  have hn : natOf (intV n) = n := rfl
  have i1 : (0 : Int) ≤ n := by omega
  have i2 : (n : Int) ≤ 1024 := by omega
  go_enter Tryz.func93, Tryz.ntmps93
  go_wp2
  go_ret2
  have hA : Array.replicate n (intV 0) = (ints (List.replicate n 0)).toArray := by simp [ints]
  rw [hA]
  refine ⟨⟨w.heap.size + 1, w.heap.size⟩, rfl, ⟨by simp, by simpa using h1, ?_, ?_⟩, ((Chg.refl _ _).alloc _).alloc _, by simp [MapB.set]⟩
  · simp only [List.length_replicate]
    exact heap_alloc2_new w _ _
  · exact heap_alloc2_old w _ _

end Go.Proofs.YtjbpdgknhbnfgaaGreat

namespace Go.Proofs.YtjbpdgknhbnfgaaGreat
open Go.RowKit

def get64 (l : Bytes) : BitVec 64 := l.foldl (fun n c => n <<< 8 ||| BitVec.ofNat 64 c.toNat) 0#64
theorem get64_snoc (l : Bytes) (c : UInt8) : get64 (l ++ [c]) = get64 l <<< 8 ||| BitVec.ofNat 64 c.toNat := by simp [get64]
theorem unbe_snoc (l : Bytes) (c : UInt8) : unbe (l ++ [c]) = unbe l * 256 + c.toNat := by simp [unbe]
theorem unbe_lt (l : Bytes) : unbe l < 256 ^ l.length := by
  suffices h : ∀ r : Bytes, unbe r.reverse < 256 ^ r.length by simpa using h l.reverse
  intro r
  induction r with
  | nil => simp [unbe]
  | cons c r ih =>
    rw [List.reverse_cons, unbe_snoc, List.length_cons, Nat.pow_succ]
    have := c.toNat_lt
    omega
theorem get64_eq (l : Bytes) (h : l.length ≤ 8) : (get64 l).toNat = unbe l := by
  suffices H : ∀ r : Bytes, r.length ≤ 8 → (get64 r.reverse).toNat = unbe r.reverse by
    have := H l.reverse (by simpa using h)
    simpa using this
  intro r
  induction r with
  | nil => intro _; rfl
  | cons c r ih =>
    intro hl
    simp only [List.length_cons] at hl
    have ih := ih (by omega)
    have hlt := unbe_lt r.reverse
    rw [List.length_reverse] at hlt
    have hp : 256 ^ r.length ≤ 256 ^ 7 := Nat.pow_le_pow_right (by omega) (by omega)
    have hc := c.toNat_lt
    rw [List.reverse_cons, get64_snoc, unbe_snoc]
    have hb : (get64 r.reverse <<< 8).toNat = unbe r.reverse * 256 := by
      rw [BitVec.toNat_shiftLeft, ih, Nat.shiftLeft_eq]
      rw [Nat.mod_eq_of_lt]
      have : (256 : Nat) ^ 7 = 72057594037927936 := by decide
      omega
    rw [BitVec.toNat_or, hb, BitVec.toNat_ofNat, Nat.mod_eq_of_lt (by omega)]
    have := Nat.shiftLeft_add_eq_or_of_lt (i := 8) (b := c.toNat) (by omega) (unbe r.reverse)
    rw [Nat.shiftLeft_eq] at this
    rw [← this]

theorem conv_u8_u64 {ρ : Operand → Value} {w : World} {x : Operand} {dst type pos after guard} (h : IsU8 (ρ x)) :
    (execOp ρ { dst := dst, op := .convert 5 173 x, type := type, pos := pos, after := after, guard := guard }).run Tryz.prog w = .ok (.value (u64V (BitVec.ofNat 64 (u8Of (ρ x)).toNat))) w :=
  exec_conv_u8_u64 Tryz.underlying5 Tryz.underlying173 h
theorem conv_u64_i64 {ρ : Operand → Value} {w : World} {x : Operand} {dst type pos after guard} (h : IsU64 (ρ x)) :
    (execOp ρ { dst := dst, op := .convert 173 3 x, type := type, pos := pos, after := after, guard := guard }).run Tryz.prog w = .ok (.value (.int .i64 (u64Of (ρ x)).toInt)) w :=
  exec_conv_u64_i64 Tryz.underlying173 Tryz.underlying3 h
theorem cut2_any {a : Act} {w : World} {x y z : Operand} {dst type pos after guard} (h : InStr2 (a.eval x) (a.eval y) (a.eval z)) :
    (execOp a.eval { dst := dst, op := .slice 9 x (some y) (some z) none, type := type, pos := pos, after := after, guard := guard }).run Tryz.prog w = .ok (.value (cut2 (a.eval x) (a.eval y) (a.eval z))) w :=
  exec_cut2 Tryz.underlying9 h
attribute [local go_sem ↓] conv_u8_u64 conv_u64_i64 exec_or64 exec_shl8 exec_addHalf cut2_any
attribute [local go_sem] u64Of_u64V isU64_u64V isU8_bytV u8Of_bytV cut2_str

theorem get64_take_succ (l : Bytes) (k : Nat) (h : k < l.length) : get64 (l.take (k + 1)) = get64 (l.take k) <<< 8 ||| BitVec.ofNat 64 l[k].toNat := by
  rw [List.take_succ_eq_append_getElem h, get64_snoc]

set_option maxRecDepth 100000 in
theorem pack_get (l : Bytes) (w : World) (hl : l.length ≤ 60000) :
    Calls Tryz.prog 211 #[strV l] w fun e w' => e = .returned (u64V (get64 l)) ∧ w = w' := by
  go_enter Tryz.func211, Tryz.ntmps211
  go_wp2
  have h0 : Value.int .u64 0 = u64V 0#64 := rfl
  rw [h0]
  go_loop [3, 7] (fun v i => ∃ k : Nat, k ≤ l.length ∧ i = .int .i64 k ∧ v = u64V (get64 (l.take k))) (fun _ i => l.length - (intOf i).toNat)
  case atStart => exact ⟨0, Nat.zero_le _, rfl, rfl⟩
  case round =>
    obtain ⟨k, hk, rfl, rfl⟩ := hrel
    by_cases hlt : k < l.length
    · have HS := Lib.hid (get64_take_succ l k hlt)
      generalize get64 (l.take k) = r at *
      go_wp2
      go_round
      case rel => exact ⟨k + 1, by omega, by go_num, congrArg u64V HS.out.symm⟩
      case measure => simp [intOf]; omega
    · obtain rfl : k = l.length := by omega
      rw [List.take_length]
      go_wp2
      go_ret
      exact ⟨rfl, rfl⟩

theorem pack_left (l : Bytes) (n m : Nat) (w : World) (hl : l.length ≤ 60000) (hn : n + m ≤ l.length) :
    Calls Tryz.prog 210 #[strV l, intV n, intV m] w fun e w' => e = .returned (intV 0) ∧ w = w' := by
  have i1 : (n : Int) ≤ l.length := by omega
  have i2 : (m : Int) ≤ (l.length : Int) - n := by omega
  go_enter Tryz.func210, Tryz.ntmps210
  go_wp2
  go_ret
  exact ⟨rfl, rfl⟩

theorem pack_readU (l : Bytes) (n : Nat) (w : World) (hl : l.length ≤ 60000) (hn : n + 8 ≤ l.length) :
    Calls Tryz.prog 196 #[strV l, intV n] w fun e w' => e = .returned (.tuple #[u64V (get64 ((l.drop n).take 8)), intV (n + 8), intV 0]) ∧ w = w' := by
  have i1 : InStr2 (strV l) (.int .i64 n) (.int .i64 ((n : Int) + 8)) := InStr2.mk' (m := n + 8) (by omega) hn
  have hle : n + 8 ≤ 60000 := by omega
  have e2 : ((n : Int) + 8).toNat = n + 8 := by omega
  have E1 := Lib.hid (show (l.take (n + 8)).drop n = (l.drop n).take 8 by rw [List.drop_take, show n + 8 - n = 8 by omega])
  go_enter Tryz.func196, Tryz.ntmps196
  go_wp2_with (first
    | (go_at_call 210; refine (pack_left l n 8 _ hl hn).mono ?_; rintro e w' ⟨rfl, rfl⟩)
    | (go_at_call 211; refine (pack_get _ _ (by simp; omega)).mono ?_; rintro e w' ⟨rfl, rfl⟩))
  go_ret3
  exact ⟨by rw [E1.out]; rfl, rfl⟩

theorem addHalf_toInt (x : BitVec 64) : (addHalf x).toInt = (x.toNat : Int) - 9223372036854775808 := by
  have := x.isLt
  rw [BitVec.toInt_eq_toNat_cond]
  unfold addHalf
  rw [BitVec.toNat_add]
  simp only [BitVec.toNat_ofNat]
  split <;> omega

theorem pack_readI (l : Bytes) (n : Nat) (w : World) (hl : l.length ≤ 60000) (hn : n + 8 ≤ l.length) :
    Calls Tryz.prog 195 #[strV l, intV n] w fun e w' => e = .returned (.tuple #[intV (unpackI ((l.drop n).take 8)), intV (n + 8), intV 0]) ∧ w = w' := by
  have hle : n + 8 ≤ 60000 := by omega
  have e1 : (addHalf (get64 ((l.drop n).take 8))).toInt = unpackI ((l.drop n).take 8) := by
    rw [addHalf_toInt, get64_eq _ (by simp; omega)]
    rfl
  have HR := Lib.hid (pack_readU l n w hl hn)
  have E1 := Lib.hid e1
  clear e1
  go_enter Tryz.func195, Tryz.ntmps195
  go_wp2_with (go_at_call 196; refine HR.out.mono ?_; rintro e w' ⟨rfl, rfl⟩)
  go_ret3
  exact ⟨by rw [← E1.out]; rfl, rfl⟩

end Go.Proofs.YtjbpdgknhbnfgaaGreat

namespace Go.Proofs.YtjbpdgknhbnfgaaGreat
open Go.RowKit

theorem byt_mod (n : Int) : bytV (UInt8.ofNat (n % 256).toNat) = .int .u8 (n % 256) := by
  have h1 : (UInt8.ofNat (n % 256).toNat).toNat = (n % 256).toNat := by
    simp
    omega
  show Value.int .u8 ((UInt8.ofNat (n % 256).toNat).toNat : Int) = _
  rw [h1]
  congr 1
  omega

theorem src_two {P : Program} {tx e' : TypeId} (hk : P.underlying tx = some (.slice e')) (w : World) (x y : Value) (hx : x.oneCell' = true) (hy : y.oneCell' = true) (T : TypeId) :
    Src P 1 tx (.slice (some ⟨w.heap.size, 0, none⟩) 2 2) 2 [x, y] (w.alloc (.cells #[x, y] T)) := by
  refine Src.ofSlice (w.alloc (.cells #[x, y] T)) hk ⟨w.heap.size, 0, none⟩ 2 2 [x, y] (by simp) ?_ (by intro u hu; simp at hu; rcases hu with rfl | rfl <;> assumption)
  intro j u hu
  rw [add_spot, (Blk.new w T [x, y]).cell, Nat.zero_add]
  exact hu

theorem root_two {w : World} {v : Value} {xs : Bytes} (h : Own w 5 1 v xs.length (byts xs)) (n : Int) (h0 : 0 ≤ n) (h1 : n ≤ 65535) (hl : xs.length ≤ 60000) :
    Calls Tryz.prog 158 #[v, intV n] w fun e w' => ∃ v', e = .returned v' ∧ Own w' 5 1 v' (xs ++ two n).length (byts (xs ++ two n)) ∧ Chg (ownBlk v) w w' ∧ ∀ k ∈ ownBlk v', k ∈ ownBlk v ∨ w.heap.size ≤ k := by
  obtain ⟨ad, c, rfl, hnc, hcm⟩ := h.shape
  have HO := Lib.hid h
  clear h
  go_enter Tryz.func158, Tryz.ntmps158
  have hby : byts (xs ++ two n) = byts xs ++ [.int .u8 (n / 256), .int .u8 (n % 256)] := by
    have e1 := byt_mod (n / 256)
    have e2 := byt_mod n
    rw [show n / 256 % 256 = n / 256 by omega] at e1
    unfold byts
    rw [List.map_append]
    simp only [two, List.map_cons, List.map_nil]
    rw [show n / 256 % 256 = n / 256 by omega, e1, e2]
  have HB := Lib.hid hby
  clear hby
  go_wp2_with (refine wpList_append rfl (.tmp 5) (.tmp 11) 141 141 rfl 5 1 1 (bytV 0) Tryz.underlying141 info_u8 rfl (by omega) (.slice ad xs.length c) xs.length 2 _ _ rfl (HO.out.alloc _) (src_two Tryz.underlying141 w (.int .u8 (n / 256)) (.int .u8 (n % 256)) rfl rfl 5) (by omega) (by unfold maxLen; omega) ?_; intro ad' c' w2 hown2 hc2 hge2 hcm2 hkc2)
  go_ret
  refine ⟨_, rfl, ?_, ((Chg.refl _ _).alloc _).trans1 hc2, ?_⟩
  · rw [HB.out, List.length_append]
    exact hown2
  · intro k hk
    rcases hge2 k hk with h | h
    · exact .inl h
    · simp at h
      exact .inr (by omega)

theorem root_need (n : Int) (w : World) (h0 : 0 ≤ n) (h1 : n ≤ 60000) :
    Calls Tryz.prog 102 #[intV n] w fun e w' => e = .returned (intV (rootNeed n)) ∧ w = w' := by
  unfold rootNeed
  by_cases h : n < 1
  · rw [if_pos h]
    go_enter Tryz.func102, Tryz.ntmps102
    go_wp2
    go_ret
    exact ⟨rfl, rfl⟩
  · rw [if_neg h]
    go_enter Tryz.func102, Tryz.ntmps102
    go_wp2
    go_ret
    exact ⟨rfl, rfl⟩

set_option maxHeartbeats 1000000 in
theorem root_right_empty (e : Int) (w : World) (h0 : 1 ≤ e) (h1 : e ≤ 1099511627776) :
    Calls Tryz.prog 157 #[.agg #[intV e, intV 0, .slice none 0 0]] w fun e w' => e = .returned (.bool true) ∧ Chg [] w w' := by
  have hnd := fun w => root_need 0 w (by omega) (by omega)
  have HN := Lib.hid hnd
  clear hnd
  have f1 : decide (e < 1) = false := by simp; omega
  have f2 : decide (1099511627776 < e) = false := by simp; omega
  have f3 : ((0 : Int) != rootNeed 0) = false := by decide
  go_enter Tryz.func157, Tryz.ntmps157
  go_wp2_with fail
  go_quiet ((go_at_call 102; exact quiet_kept (HN.out _)))
  go_wp2_with fail
  try (refine wp_loop_rounds 1 ?_; rw [rounds_succ]; go_wp2_with fail)
  go_ret
  exact ⟨rfl, ((Chg.refl _ _).alloc _).drewN _⟩

end Go.Proofs.YtjbpdgknhbnfgaaGreat

namespace Go.Proofs.YtjbpdgknhbnfgaaGreat
open Go.RowKit

structure DiskB where
  d : Nat
  n : Nat
  o : Nat
  l : Nat
def DiskB.set (b : DiskB) : List Nat := [b.d, b.n, b.o, b.l]

def sliceV (g len : Nat) : Value := .slice (some ⟨g, 0, none⟩) len len
/-- The disk D lies in memory, in the blocks b. -/
structure DiskAt (w : World) (b : DiskB) (D : Disk) : Prop where
  ok : D.Ok
  nodup : b.set.Nodup
  st : ∃ calls, Blk w b.d 111 [.slice (some ⟨b.n, 0, none⟩) D.loose.length D.loose.length, .slice (some ⟨b.o, 0, none⟩) D.loose.length D.loose.length, .slice (some ⟨b.l, 0, none⟩) D.loose.length D.loose.length, intV D.armed, intV calls, .bool D.down]
  now : Blk w b.n 140 (byts D.now)
  old : Blk w b.o 140 (byts D.old)
  loose : Blk w b.l 4 (bools D.loose)

theorem DiskAt.lt {w : World} {b : DiskB} {D : Disk} (h : DiskAt w b D) : ∀ k ∈ b.set, k < w.heap.size := by
  obtain ⟨_, hs⟩ := h.st
  intro k hk
  simp [DiskB.set] at hk
  rcases hk with rfl | rfl | rfl | rfl
  · exact hs.lt
  · exact h.now.lt
  · exact h.old.lt
  · exact h.loose.lt
theorem DiskAt.kept {w w' : World} {b : DiskB} {D : Disk} {F : List Nat} (h : DiskAt w b D) (hc : Chg F w w') (hn : ∀ k ∈ b.set, k ∉ F) : DiskAt w' b D := by
  simp [DiskB.set] at hn
  obtain ⟨h1, h2, h3, h4⟩ := hn
  exact ⟨h.ok, h.nodup, h.st.imp fun _ hs => hs.kept hc h1, h.now.kept hc h2, h.old.kept hc h3, h.loose.kept hc h4⟩

theorem disk_works {w : World} {b : DiskB} {D : Disk} (h : DiskAt w b D) :
    Calls Tryz.prog 77 #[ptrV b.d] w fun e w' => e = .returned (intV D.works) ∧ w = w' := by
  obtain ⟨c, hs⟩ := h.st
  have h5 := hs.cell 5
  simp at h5
  unfold Disk.works
  cases hd : D.down <;> rw [hd] at h5
  all_goals
    clear hd
    go_enter Tryz.func77, Tryz.ntmps77
    go_wp2
    go_ret
    exact ⟨rfl, rfl⟩

theorem disk_works_nil {w : World} :
    Calls Tryz.prog 77 #[.pointer none] w fun e w' => e = .returned (intV 1) ∧ w = w' := by
  go_enter Tryz.func77, Tryz.ntmps77
  go_wp2
  go_ret
  exact ⟨rfl, rfl⟩

theorem disk_at {w : World} {b : DiskB} {D : Disk} (h : DiskAt w b D) (i : Int) :
    Calls Tryz.prog 108 #[ptrV b.d, intV i] w fun e w' => e = .returned (intV (D.at_ i)) ∧ w = w' := by
  obtain ⟨c, hs⟩ := h.st
  have h0 := hs.cell 0
  simp at h0
  have hw := disk_works h
  unfold Disk.works at hw
  unfold Disk.at_
  have hl := h.ok.few
  by_cases hd : D.down = true
  · rw [if_pos hd] at hw ⊢
    clear hd hs h
    go_enter Tryz.func108, Tryz.ntmps108
    go_wp2_with (go_at_call 77; refine hw.mono ?_; rintro e w' ⟨rfl, rfl⟩)
    go_ret
    exact ⟨rfl, rfl⟩
  · rw [if_neg hd] at hw ⊢
    clear hd hs h
    by_cases h1 : i < 0
    · rw [if_pos (Or.inl h1)]
      go_enter Tryz.func108, Tryz.ntmps108
      go_wp2_with (go_at_call 77; refine hw.mono ?_; rintro e w' ⟨rfl, rfl⟩)
      go_ret
      exact ⟨rfl, rfl⟩
    · by_cases h2 : (D.loose.length : Int) ≤ i
      · rw [if_pos (Or.inr h2)]
        go_enter Tryz.func108, Tryz.ntmps108
        go_wp2_with (go_at_call 77; refine hw.mono ?_; rintro e w' ⟨rfl, rfl⟩)
        go_ret
        exact ⟨rfl, rfl⟩
      · rw [if_neg (by omega)]
        go_enter Tryz.func108, Tryz.ntmps108
        go_wp2_with (go_at_call 77; refine hw.mono ?_; rintro e w' ⟨rfl, rfl⟩)
        go_ret
        exact ⟨rfl, rfl⟩

theorem DiskAt.setD {w : World} {b : DiskB} {D : Disk} (h : DiskAt w b D) (i : Nat) (v : Value) (D' : Disk) (hl : D'.loose = D.loose) (hn : D'.now = D.now) (ho : D'.old = D.old) (hok : 0 ≤ D'.armed ∧ D'.armed ≤ 9223372036854775807)
    (hst : ∀ c, ∃ c', [Value.slice (some ⟨b.n, 0, none⟩) D.loose.length D.loose.length, .slice (some ⟨b.o, 0, none⟩) D.loose.length D.loose.length, .slice (some ⟨b.l, 0, none⟩) D.loose.length D.loose.length, intV D.armed, intV c, .bool D.down].set i v =
      [Value.slice (some ⟨b.n, 0, none⟩) D.loose.length D.loose.length, .slice (some ⟨b.o, 0, none⟩) D.loose.length D.loose.length, .slice (some ⟨b.l, 0, none⟩) D.loose.length D.loose.length, intV D'.armed, intV c', .bool D'.down]) :
    DiskAt (w.setCell ⟨b.d, i, none⟩ v) b D' := by
  obtain ⟨c, hs⟩ := h.st
  obtain ⟨c', he⟩ := hst c
  have hnd := h.nodup
  simp [DiskB.set] at hnd
  obtain ⟨⟨n1, n2, n3⟩, -⟩ := hnd
  refine ⟨⟨by rw [hl, hn]; exact h.ok.now, by rw [hl, ho]; exact h.ok.old, by rw [hl]; exact h.ok.few, hok⟩, h.nodup, ⟨c', ?_⟩, ?_, ?_, ?_⟩
  · rw [hl, ← he]; exact hs.set i v
  · rw [hn]; exact h.now.other _ _ (Ne.symm n1)
  · rw [ho]; exact h.old.other _ _ (Ne.symm n2)
  · rw [hl]; exact h.loose.other _ _ (Ne.symm n3)

theorem disk_counts {w : World} {b : DiskB} {D : Disk} (h : DiskAt w b D) :
    Calls Tryz.prog 109 #[ptrV b.d] w fun e w' => e = .returned (intV D.counts.1) ∧ DiskAt w' b D.counts.2 ∧ Chg b.set w w' := by
  obtain ⟨c, hs⟩ := h.st
  have h3 := hs.cell 3
  have h4 := hs.cell 4
  have h5 := hs.cell 5
  have f3 := hs.free 3
  have f4 := hs.free 4
  have f5 := hs.free 5
  simp at h3 h4 h5
  obtain ⟨a0, a1⟩ := h.ok.armed
  have hmem : b.d ∈ b.set := by simp [DiskB.set]
  unfold Disk.counts
  by_cases ha : D.armed = 0
  · rw [if_pos ha]
    rw [ha] at h3
    have E1 : Hid (∀ v, DiskAt (w.setCell ⟨b.d, 4, none⟩ (intV v)) b D) := fun v => h.setD 4 _ D rfl rfl rfl h.ok.armed (fun c => ⟨v, rfl⟩)
    clear ha
    go_enter Tryz.func109, Tryz.ntmps109
    go_wp2
    go_ret
    exact ⟨rfl, E1.out _, (Chg.refl _ _).setCell _ _ (.inl hmem)⟩
  · rw [if_neg ha]
    have ha1 : 0 < D.armed := by omega
    have e3 : ∀ v dn, DiskAt (((w.setCell ⟨b.d, 4, none⟩ (intV v)).setCell ⟨b.d, 3, none⟩ (intV (D.armed - 1))).setCell ⟨b.d, 5, none⟩ (.bool dn)) b { D with armed := D.armed - 1, down := dn } := fun v dn =>
      DiskAt.setD (DiskAt.setD (h.setD 4 (intV v) D rfl rfl rfl h.ok.armed (fun c => ⟨v, rfl⟩)) 3 _ { D with armed := D.armed - 1 } rfl rfl rfl ⟨by show 0 ≤ D.armed - 1; omega, by show D.armed - 1 ≤ _; omega⟩ (fun c => ⟨c, rfl⟩))
        5 _ _ rfl rfl rfl ⟨by show 0 ≤ D.armed - 1; omega, by show D.armed - 1 ≤ _; omega⟩ (fun c => ⟨c, rfl⟩)
    have E3 := Lib.hid e3
    clear e3 ha
    go_enter Tryz.func109, Tryz.ntmps109
    go_wp2_with (go_at_call 77; refine (disk_works (E3.out _ _)).mono ?_; rintro e w' ⟨rfl, rfl⟩)
    go_ret
    exact ⟨rfl, E3.out _ _, (((Chg.refl _ _).setCell _ _ (.inl hmem)).setCell _ _ (.inl hmem)).setCell _ _ (.inl hmem)⟩

/-! Write -/
theorem size_bytes : (Tryz.prog.info? 140).map (·.size) = some 64 := by kernel_rfl
theorem load_bytes {ρ : Operand → Value} {w : World} {x : Operand} {dst type pos after guard} (h : PtrRow w (ρ x) 64) :
    (execOp ρ { dst := dst, op := .load 140 x, type := type, pos := pos, after := after, guard := guard }).run Tryz.prog w = .ok (.value (.agg (rowOf w (ρ x) 64))) w :=
  exec_load_agg Tryz.underlying140 rfl size_bytes h
theorem store_bytes {ρ : Operand → Value} {w : World} {x y : Operand} {dst type pos after guard} (h : PtrRow w (ρ x) 64) (hy : AggOf (ρ y) 64) :
    (execOp ρ { dst := dst, op := .store 140 x y, type := type, pos := pos, after := after, guard := guard }).run Tryz.prog w = .ok .skip (putRow w (ρ x) (ρ y)) :=
  exec_store_agg size_bytes h hy
def zero64 : Value := .agg (byts (List.replicate 64 0)).toArray
theorem build_bytes {ρ : Operand → Value} {w : World} {dst type pos after guard} :
    (execOp ρ { dst := dst, op := .build 140 #[], type := type, pos := pos, after := after, guard := guard }).run Tryz.prog w = .ok (.value zero64) w := by
  have : ∀ w, (Instr.build 140 #[]).run Tryz.prog w = .ok zero64 w := fun _ => by kernel_rfl
  simp [execOp, this]
attribute [local go_sem ↓] load_bytes store_bytes build_bytes

theorem lay_length {α : Type} (L : List α) (off : Nat) (cs : List α) (h : off + cs.length ≤ L.length) : (lay L off cs).length = L.length := by simp [lay]; omega
theorem byts_lay (L : Bytes) (off : Nat) (cs : Bytes) : lay (byts L) off (byts cs) = byts (lay L off cs) := by simp [lay, byts]
theorem sector_length {l : Bytes} {n i : Nat} (hl : l.length = 64 * n) (hi : i < n) : (Disk.sector l i).length = 64 := by simp [Disk.sector]; omega
theorem byts_sector (l : Bytes) (i : Nat) : ((byts l).drop (i * 64)).take 64 = byts (Disk.sector l i) := by simp [byts, Disk.sector, Nat.mul_comm]
theorem padTo_length (n : Nat) (s : Bytes) : (padTo n s).length = n := by simp [padTo]; omega

theorem Disk.Ok.keep {D : Disk} (h : D.Ok) {i : Nat} (hi : i < D.loose.length) : (D.keep i).Ok := by
  unfold Disk.keep
  split
  · exact h
  · have h1 := h.now
    have h2 := h.old
    have hs := sector_length (l := D.now) h.now hi
    refine ⟨by simpa using h.now, ?_, by simpa using h.few, h.armed⟩
    rw [lay_length _ _ _ (by rw [hs]; omega)]
    simpa using h.old
theorem Disk.Ok.fill {D : Disk} (h : D.Ok) {i : Nat} (hi : i < D.loose.length) (s : Bytes) : (D.fill i s).Ok := by
  have h1 := h.now
  unfold Disk.fill
  refine ⟨?_, h.old, h.few, h.armed⟩
  rw [lay_length _ _ _ (by rw [padTo_length]; omega)]
  exact h.now
theorem Disk.keep_loose (D : Disk) (i : Nat) : (D.keep i).loose.length = D.loose.length := by unfold Disk.keep; split <;> simp
theorem Disk.fill_loose (D : Disk) (i : Nat) (s : Bytes) : (D.fill i s).loose = D.loose := rfl

/-- Region 'd.old[i], d.loose[i] = d.now[i], true' leaves this. -/
theorem disk_kept {w : World} {b : DiskB} {D : Disk} (h : DiskAt w b D) {i : Nat} (hi : i < D.loose.length) (hl : D.loose[i]? = some false) :
    DiskAt ((putRow w (.pointer (some ⟨b.o, i * 64, none⟩)) (.agg (rowOf w (.pointer (some ⟨b.n, i * 64, none⟩)) 64))).setCell ⟨b.l, i, none⟩ (.bool true)) b (D.keep i) := by
  obtain ⟨c, hs⟩ := h.st
  have hnd := h.nodup
  simp [DiskB.set] at hnd
  obtain ⟨⟨n1, n2, n3⟩, ⟨n4, n5⟩, n6⟩ := hnd
  rw [rowOf_blk h.now, byts_sector]
  have hk : D.keep i = { D with old := lay D.old (64 * i) (Disk.sector D.now i), loose := D.loose.set i true } := by simp [Disk.keep, List.getD, hl]
  refine ⟨h.ok.keep hi, h.nodup, ⟨c, ?_⟩, ?_, ?_, ?_⟩
  · rw [hk]
    simp only [List.length_set]
    exact (hs.putRowOther h.old n2 _).other _ _ n3
  · rw [hk]
    exact (h.now.putRowOther h.old n4 _).other _ _ n5
  · rw [hk]
    have := (h.old.putRow (off := i * 64) (byts (Disk.sector D.now i))).other ⟨b.l, i, none⟩ (.bool true) n6
    rw [byts_lay] at this
    rw [show 64 * i = i * 64 from Nat.mul_comm _ _]
    exact this
  · rw [hk]
    have := (h.loose.putRowOther (off := i * 64) h.old (Ne.symm n6) (byts (Disk.sector D.now i))).set i (.bool true)
    simpa [bools, List.map_set] using this

theorem lay_layN (N : Nat) (L s : Bytes) (off : Nat) (hL : off + N ≤ L.length) : lay (lay L off (List.replicate N 0)) off (s.take N) = lay L off (padTo N s) := by
  unfold lay padTo
  have h1 : (L.take off).length = off := by simp; omega
  have h2 : (s.take N).length = min N s.length := by simp
  have h3 : (s.take N ++ List.replicate (N - s.length) 0 : Bytes).length = N := by simp; omega
  rw [h3, List.take_left' h1]
  simp only [List.length_replicate]
  rw [List.drop_append, h1, List.drop_append]
  simp only [h2, List.length_replicate, List.append_assoc, List.append_cancel_left_eq]
  rw [List.drop_eq_nil_of_le (by simp; omega), List.nil_append]
  rw [show off + min N s.length - off = min N s.length by omega, show min N s.length - N = 0 by omega, List.drop_replicate, List.drop_zero]
  congr 2
  omega
theorem lay_lay (L z s : Bytes) (off : Nat) (hz : z = List.replicate 64 0) (hL : off + 64 ≤ L.length) : lay (lay L off z) off (s.take 64) = lay L off (padTo 64 s) := by
  subst hz
  exact lay_layN 64 L s off hL

theorem disk_filled {w : World} {b : DiskB} {D : Disk} (h : DiskAt w b D) {i : Nat} (hi : i < D.loose.length) (s : Bytes) :
    DiskAt ((putRow w (.pointer (some ⟨b.n, i * 64, none⟩)) zero64).setRow b.n (lay (lay (byts D.now) (i * 64) (byts (List.replicate 64 0))) (i * 64) (byts (s.take 64))).toArray) b (D.fill i s) := by
  obtain ⟨c, hs⟩ := h.st
  have hnd := h.nodup
  simp [DiskB.set] at hnd
  obtain ⟨⟨n1, n2, n3⟩, ⟨n4, n5⟩, n6⟩ := hnd
  have hn := h.ok.now
  refine ⟨h.ok.fill hi s, h.nodup, ⟨c, ?_⟩, ?_, ?_, ?_⟩
  · exact (hs.putRowOther h.now n1 _).rowOther _ _ n1
  · have := (h.now.putRow (off := i * 64) (byts (List.replicate 64 0))).row (lay (lay (byts D.now) (i * 64) (byts (List.replicate 64 0))) (i * 64) (byts (s.take 64)))
    rw [byts_lay, byts_lay, lay_lay _ _ _ _ rfl (by omega), show i * 64 = 64 * i from Nat.mul_comm _ _] at this
    rw [byts_lay, byts_lay, lay_lay _ _ _ _ rfl (by omega), show i * 64 = 64 * i from Nat.mul_comm _ _]
    exact this
  · exact (h.old.putRowOther h.now (Ne.symm n4) _).rowOther _ _ (Ne.symm n4)
  · exact (h.loose.putRowOther h.now (Ne.symm n5) _).rowOther _ _ (Ne.symm n5)

theorem disk_write_bad {w : World} {b : DiskB} {D : Disk} (h : DiskAt w b D) (i : Int) (s : Bytes) (hne : D.at_ i ≠ 0) :
    Calls Tryz.prog 37 #[ptrV b.d, intV i, strV s] w fun e w' => e = .returned (intV (D.at_ i)) ∧ w = w' := by
  have hat := Lib.hid (disk_at h i)
  generalize D.at_ i = x at *
  have hx : (x == 0) = false := by simpa using hne
  have hx' : (x != 0) = true := by simpa using hne
  clear h hne
  go_enter Tryz.func37, Tryz.ntmps37
  go_wp2_with (go_at_call 108; refine hat.out.mono ?_; rintro e w' ⟨rfl, rfl⟩)
  go_ret
  exact ⟨rfl, rfl⟩

set_option maxHeartbeats 1000000 in
set_option maxRecDepth 100000 in
theorem disk_write_ok {w : World} {b : DiskB} {D : Disk} (h : DiskAt w b D) (i : Nat) (s : Bytes) (hat0 : D.at_ i = 0) (hi : i < D.loose.length) :
    Calls Tryz.prog 37 #[ptrV b.d, intV i, strV s] w fun e w' => e = .returned (intV ((D.keep i).fill i s).counts.1) ∧ DiskAt w' b ((D.keep i).fill i s).counts.2 ∧ Chg b.set w w' := by
  have hat := disk_at h i
  rw [hat0] at hat
  have HAT := Lib.hid hat
  clear hat hat0
  obtain ⟨c, hs⟩ := h.st
  have h0 := hs.cell 0
  have h1 := hs.cell 1
  have h2 := hs.cell 2
  simp at h0 h1 h2
  have k := h.loose.cell i
  have k2 := h.loose.free i
  have hf := h.ok.few
  have i1 : (i : Int) < D.loose.length := by omega
  have i0 : (0 : Int) ≤ i := by omega
  have hnd := h.nodup
  simp [DiskB.set] at hnd
  obtain ⟨⟨n1, n2, n3⟩, ⟨n4, n5⟩, n6⟩ := hnd
  obtain ⟨x, hl⟩ : ∃ x, D.loose[i]? = some x := ⟨_, List.getElem?_eq_getElem hi⟩
  simp [bools, hl] at k
  have KL := Lib.hid (D.keep_loose i)
  have r1 : PtrRow w.drew (.pointer (some ⟨b.n, i * 64, none⟩)) 64 := PtrRow.mk' h.now.drew (by simp [h.ok.now]; omega)
  have r2 : PtrRow w.drew (.pointer (some ⟨b.o, i * 64, none⟩)) 64 := PtrRow.mk' h.old.drew (by simp [h.ok.old]; omega)
  have hsl := sector_length h.ok.now hi
  have r3 : AggOf (.agg (rowOf w.drew (.pointer (some ⟨b.n, i * 64, none⟩)) 64)) 64 := by
    rw [rowOf_blk h.now.drew, byts_sector]
    exact AggOf.mk' (by simpa using hsl) (byts_one _)
  have kb : Blk (putRow w.drew (.pointer (some ⟨b.o, i * 64, none⟩)) (.agg (rowOf w.drew (.pointer (some ⟨b.n, i * 64, none⟩)) 64))) b.l 4 (bools D.loose) := by
    rw [rowOf_blk h.now.drew]
    exact h.loose.drew.putRowOther h.old.drew (Ne.symm n6) _
  have k3 := kb.cell i
  have k4 := kb.free i
  simp [bools, hl] at k3
  have HD := Lib.hid h
  have HL := Lib.hid hl
  clear hs h hl hsl kb n1 n2 n3 n4 n5 n6 hf
  go_enter Tryz.func37, Tryz.ntmps37
  go_upto_if 21 with (go_at_call 108; refine HAT.out.mono ?_; rintro e w' ⟨rfl, rfl⟩)
  go_cut [] (fun wx => DiskAt wx b (D.keep i) ∧ Chg b.set w wx)
  case first =>
    cases x with
    | true =>
      go_wp2
      go_meet
      have hk : D.keep i = D := by simp [Disk.keep, List.getD, HL.out]
      rw [hk]
      exact ⟨HD.out, Chg.refl _ _⟩
    | false =>
      go_wp2
      go_region
      go_wp2_with fail
      go_meet
      have hd := HD.out
      refine ⟨disk_kept (w := w.drew) ⟨hd.ok, hd.nodup, hd.st, hd.now, hd.old, hd.loose⟩ hi HL.out, ?_⟩
      rw [rowOf_blk hd.now.drew]
      exact (((Chg.refl b.set w).drew).putRow hd.old.drew (.inl (by simp [DiskB.set])) _).setCell _ _ (.inl (by simp [DiskB.set]))
  case rest =>
    obtain ⟨H1, C1⟩ := hcut
    have hnow := H1.ok.now
    rw [KL.out] at hnow
    have hi' : i < (D.keep i).loose.length := by rw [KL.out]; exact hi
    have q1 : PtrRow wc (.pointer (some ⟨b.n, i * 64, none⟩)) 64 := PtrRow.mk' H1.now (by simp [hnow]; omega)
    have q2 : AggOf zero64 64 := AggOf.mk' (by simp) (byts_one _)
    obtain ⟨c1, hs⟩ := H1.st
    rw [KL.out] at hs
    have nd : b.d ≠ b.n := by
      have hnd := H1.nodup
      simp [DiskB.set] at hnd
      exact hnd.1.1
    have hs' : Blk (putRow wc (.pointer (some ⟨b.n, i * 64, none⟩)) zero64) b.d _ _ := hs.putRowOther H1.now nd _
    have hn' : Blk (putRow wc (.pointer (some ⟨b.n, i * 64, none⟩)) zero64) b.n _ _ := H1.now.putRow (off := i * 64) _
    have z0 := hs.cell 0
    have z1 := hs'.cell 0
    simp at z0 z1
    have H3 := Lib.hid (disk_filled H1 hi' s)
    have C3 := Lib.hid (((C1.putRow H1.now (.inl (by simp [DiskB.set])) (off := i * 64) (byts (List.replicate 64 0)))).setRow b.n (lay (lay (byts (D.keep i).now) (i * 64) (byts (List.replicate 64 0))) (i * 64) (byts (s.take 64))).toArray (.inl (by simp [DiskB.set])))
    have len1 : i * 64 + 64 ≤ (lay (byts (D.keep i).now) (i * 64) (byts (List.replicate 64 0))).length := by
      rw [lay_length _ _ _ (by simp [hnow]; omega)]; simp [hnow]; omega
    have hsz1 : (Tryz.prog.info? 5).map (·.size) = some 1 := by kernel_rfl
    have LEN := Lib.hid len1
    have HN := Lib.hid hn'
    have SZ := Lib.hid hsz1
    clear hs hs' hn' hsz1 hnow len1 hi' H1
    go_wp2_with (first
      | (with_reducible refine wpList_copy_str rfl (.tmp 54) (.tmp 55) 141 9 rfl 5 Tryz.underlying141 SZ.out b.n (i * 64) 64 64 s rfl rfl _ _ HN.out LEN.out ?_)
      | (go_at_call 109; refine (disk_counts H3.out).mono ?_; rintro e w' ⟨rfl, H4, C4⟩))
    go_ret
    exact ⟨rfl, H4, C3.out.trans1 C4⟩

end Go.Proofs.YtjbpdgknhbnfgaaGreat

namespace Go.Proofs.YtjbpdgknhbnfgaaGreat
open Go.RowKit

theorem Disk.at_zero {D : Disk} {i : Int} (h : D.at_ i = 0) : D.down = false ∧ 0 ≤ i ∧ i < D.loose.length := by
  unfold Disk.at_ at h
  split at h
  · omega
  · split at h
    · omega
    · rename_i h1 h2
      exact ⟨by simpa using h1, by omega, by omega⟩

theorem disk_write {w : World} {b : DiskB} {D : Disk} (h : DiskAt w b D) (i : Int) (s : Bytes) :
    Calls Tryz.prog 37 #[ptrV b.d, intV i, strV s] w fun e w' => e = .returned (intV (D.write i s).1) ∧ DiskAt w' b (D.write i s).2 ∧ Chg b.set w w' := by
  unfold Disk.write
  by_cases h0 : D.at_ i = 0
  · obtain ⟨_, h1, h2⟩ := Disk.at_zero h0
    obtain ⟨k, rfl⟩ := Int.eq_ofNat_of_zero_le h1
    rw [if_neg (by simpa using h0), Int.toNat_natCast]
    exact disk_write_ok h k s h0 (by omega)
  · rw [if_pos h0]
    exact (disk_write_bad h i s h0).mono fun e w' ⟨he, hw⟩ => hw ▸ ⟨he, h, Chg.refl _ _⟩

theorem Disk.works_eq (D : Disk) : D.works = 0 ∧ D.down = false ∨ D.works = 13 ∧ D.down = true := by unfold Disk.works; cases D.down <;> simp

theorem bool_cells : (Tryz.prog.info? 4).map (·.zero) = some (some (.bool false)) := by kernel_rfl

theorem Disk.counts_loose (D : Disk) : D.counts.2.loose = D.loose ∧ D.counts.2.now = D.now ∧ D.counts.2.old = D.old := by unfold Disk.counts; split <;> simp

theorem disk_sync {w : World} {b : DiskB} {D : Disk} (h : DiskAt w b D) :
    Calls Tryz.prog 98 #[ptrV b.d] w fun e w' => e = .returned (intV D.sync.1) ∧ DiskAt w' b D.sync.2 ∧ Chg b.set w w' := by
  have hw := disk_works h
  unfold Disk.sync
  rcases D.works_eq with ⟨hwk, hd⟩ | ⟨hwk, hd⟩
  · rw [hwk] at hw
    rw [if_neg (by simp [hd])]
    have HW := Lib.hid hw
    have HC := Lib.hid (disk_counts h)
    have hlo := D.counts_loose.1
    have hx : D.counts.1 = 0 ∨ D.counts.1 ≠ 0 := by omega
    rcases hx with hx | hx
    · rw [if_neg (by simpa using hx)]
      rw [hx] at HC
      clear hw hwk hd hx
      go_enter Tryz.func98, Tryz.ntmps98
      go_wp2_with (first
        | (go_at_call 77; refine HW.out.mono ?_; rintro e w' ⟨rfl, rfl⟩)
        | (go_at_call 109; refine HC.out.mono ?_; rintro e w1 ⟨rfl, H1, C1⟩; obtain ⟨c, hs⟩ := H1.st; rw [hlo] at hs; have z := hs.cell 2; simp at z; clear hs)
        | (with_reducible refine wpList_clear rfl (.tmp 18) 36 4 (.bool false) rfl Tryz.underlying36 bool_cells rfl rfl b.l D.loose.length D.loose.length rfl _ _ H1.loose (by rw [hlo]; simp) ?_; intro w2 hB2 C2))
      go_ret
      have hnd := H1.nodup
      simp [DiskB.set] at hnd
      obtain ⟨⟨n1, n2, n3⟩, ⟨n4, n5⟩, n6⟩ := hnd
      have hok := H1.ok
      obtain ⟨c, hs⟩ := H1.st
      refine ⟨rfl, ⟨⟨?_, ?_, ?_, hok.armed⟩, H1.nodup, ⟨c, ?_⟩, H1.now.kept C2 (by simpa using n5), H1.old.kept C2 (by simpa using n6), ?_⟩, C1.trans C2 (by simp [DiskB.set])⟩
      · have := hok.now
        rw [hlo] at this
        simpa using this
      · have := hok.old
        rw [hlo] at this
        simpa using this
      · have := hok.few
        rw [hlo] at this
        simpa using this
      · have := hs.kept C2 (by simpa using n3)
        rw [hlo] at this
        simpa using this
      · simpa [bools] using hB2
    · rw [if_pos hx]
      have hx1 : (D.counts.1 == 0) = false := by simpa using hx
      have hx2 : (D.counts.1 != 0) = true := by simpa using hx
      generalize D.counts = r at *
      clear hw hwk hd hx hlo
      go_enter Tryz.func98, Tryz.ntmps98
      go_wp2_with (first
        | (go_at_call 77; refine HW.out.mono ?_; rintro e w' ⟨rfl, rfl⟩)
        | (go_at_call 109; refine HC.out.mono ?_; rintro e w1 ⟨rfl, H1, C1⟩))
      go_ret
      exact ⟨rfl, H1, C1⟩
  · rw [hwk] at hw
    rw [if_pos hd]
    have HW := Lib.hid hw
    have HH := Lib.hid h
    clear hw hwk hd h
    go_enter Tryz.func98, Tryz.ntmps98
    go_wp2_with (go_at_call 77; refine HW.out.mono ?_; rintro e w' ⟨rfl, rfl⟩)
    go_ret
    exact ⟨rfl, HH.out, Chg.refl _ _⟩

theorem disk_read {w : World} {b : DiskB} {D : Disk} (h : DiskAt w b D) (i : Int) :
    Calls Tryz.prog 85 #[ptrV b.d, intV i] w fun e w' => e = .returned (.tuple #[strV (D.read i).1, intV (D.read i).2]) ∧ w = w' := by
  have hat := disk_at h i
  unfold Disk.read
  by_cases h0 : D.at_ i = 0
  · obtain ⟨_, h1, h2⟩ := Disk.at_zero h0
    obtain ⟨k, rfl⟩ := Int.eq_ofNat_of_zero_le h1
    rw [if_neg (by simpa using h0), Int.toNat_natCast]
    rw [h0] at hat
    obtain ⟨c, hs⟩ := h.st
    have z := hs.cell 0
    simp at z
    have hf := h.ok.few
    have hnow := h.ok.now
    have HN := Lib.hid h.now
    have HA := Lib.hid hat
    have hk : k < D.loose.length := by omega
    have HL := Lib.hid (sector_length (l := D.now) hnow hk)
    have HB := Lib.hid (byts_sector D.now k)
    clear hs hat h0 h hnow
    go_enter Tryz.func85, Tryz.ntmps85
    go_wp2_with (first
      | (go_at_call 108; refine HA.out.mono ?_; rintro e w' ⟨rfl, rfl⟩)
      | (with_reducible refine wpList_bytes_str rfl (.tmp 19) 141 9 5 rfl Tryz.underlying141 Tryz.underlying5 Tryz.underlying9 b.n (k * 64) 64 64 (Disk.sector D.now k) rfl _ _ HN.out HB.out HL.out ?_))
    go_ret2
    exact ⟨rfl, rfl⟩
  · rw [if_pos h0]
    have HA := Lib.hid hat
    have hx1 : (D.at_ i == 0) = false := by simpa using h0
    have hx2 : (D.at_ i != 0) = true := by simpa using h0
    generalize D.at_ i = x at *
    clear hat h0 h
    go_enter Tryz.func85, Tryz.ntmps85
    go_wp2_with (go_at_call 108; refine HA.out.mono ?_; rintro e w' ⟨rfl, rfl⟩)
    go_ret2
    exact ⟨rfl, rfl⟩

theorem disk_sectors {w : World} {b : DiskB} {D : Disk} (h : DiskAt w b D) :
    Calls Tryz.prog 39 #[ptrV b.d] w fun e w' => e = .returned (intV D.loose.length) ∧ w = w' := by
  obtain ⟨c, hs⟩ := h.st
  have z := hs.cell 0
  simp at z
  have hf := h.ok.few
  clear hs h
  go_enter Tryz.func39, Tryz.ntmps39
  go_wp2
  go_ret
  exact ⟨rfl, rfl⟩

end Go.Proofs.YtjbpdgknhbnfgaaGreat

namespace Go.Proofs.YtjbpdgknhbnfgaaGreat
open Go.RowKit

theorem info_bytes : (Tryz.prog.info? 140).map (fun i => (i.zero, i.size, i.bytes)) = some (some zero64, 64, 64) := by kernel_rfl
theorem info_bool : (Tryz.prog.info? 4).map (fun i => (i.zero, i.size, i.bytes)) = some (some (.bool false), 1, 1) := by kernel_rfl
theorem make_bytes {ρ : Operand → Value} {w : World} {x : Operand} {dst type pos after guard} (h : NatV 65536 (ρ x)) :
    (execOp ρ { dst := dst, op := .makeSlice 109 x x, type := type, pos := pos, after := after, guard := guard }).run Tryz.prog w =
      .ok (.value (.slice (some ⟨w.heap.size, 0, none⟩) (natOf (ρ x)) (natOf (ρ x)))) (w.alloc (.cells (List.replicate (natOf (ρ x) * 64) (bytV 0)).toArray 140)) :=
  exec_make Tryz.underlying109 info_bytes rfl (by omega) (by omega) h
theorem make_bools {ρ : Operand → Value} {w : World} {x : Operand} {dst type pos after guard} (h : NatV 65536 (ρ x)) :
    (execOp ρ { dst := dst, op := .makeSlice 36 x x, type := type, pos := pos, after := after, guard := guard }).run Tryz.prog w =
      .ok (.value (.slice (some ⟨w.heap.size, 0, none⟩) (natOf (ρ x)) (natOf (ρ x)))) (w.alloc (.cells (List.replicate (natOf (ρ x) * 1) (.bool false)).toArray 4)) :=
  exec_make Tryz.underlying36 info_bool rfl (by omega) (by omega) h
attribute [local go_sem ↓] make_bytes make_bools

theorem heap4 (w : World) (A B C S : Obj) : ((((w.alloc A).alloc B).alloc C).alloc S).drew.heap[w.heap.size]? = some A ∧ ((((w.alloc A).alloc B).alloc C).alloc S).drew.heap[w.heap.size + 1]? = some B ∧
    ((((w.alloc A).alloc B).alloc C).alloc S).drew.heap[w.heap.size + 1 + 1]? = some C ∧ ((((w.alloc A).alloc B).alloc C).alloc S).drew.heap[w.heap.size + 1 + 1 + 1]? = some S := by
  show ((((w.heap.push A).push B).push C).push S)[_]? = _ ∧ ((((w.heap.push A).push B).push C).push S)[_]? = _ ∧ ((((w.heap.push A).push B).push C).push S)[_]? = _ ∧ ((((w.heap.push A).push B).push C).push S)[_]? = _
  refine ⟨?_, ?_, ?_, ?_⟩ <;> simp only [Array.getElem?_push, Array.size_push]
  · rw [if_neg (by omega), if_neg (by omega), if_neg (by omega), if_pos trivial]
  · rw [if_neg (by omega), if_neg (by omega), if_pos trivial]
  · rw [if_neg (by omega), if_pos trivial]
  · rw [if_pos trivial]
theorem Disk.new_ok (n : Nat) (h : n ≤ 4096) : (Disk.new n).Ok := ⟨by simp [Disk.new], by simp [Disk.new], by simpa [Disk.new] using h, by simp [Disk.new]⟩

set_option maxHeartbeats 1000000 in
set_option maxRecDepth 100000 in
theorem disk_new_ok (w : World) (n : Nat) (h1 : 1 ≤ n) (h2 : n ≤ 4096) :
    Calls Tryz.prog 55 #[intV n] w fun e w' => ∃ b : DiskB, e = .returned (.tuple #[ptrV b.d, intV 0]) ∧ DiskAt w' b (Disk.new n) ∧ Chg [] w w' ∧ ∀ k ∈ b.set, w.heap.size ≤ k := by
  have hv : NatV 65536 (intV n) := NatV.mk' (by omega)
  have hn : natOf (intV n) = n := rfl
  have i1 : (1 : Int) ≤ n := by omega
  have i2 : (n : Int) ≤ 4096 := by omega
  go_enter Tryz.func55, Tryz.ntmps55
  go_wp2
  go_region
  all_goals go_wp2
  all_goals
    refine bodyPost_ret (results_tmp2 rfl _ _ _) rfl ?_
    have hA : Array.replicate (n * 64) (bytV 0) = (byts (List.replicate (64 * n) 0)).toArray := by
      rw [Nat.mul_comm n 64]
      simp [byts]
    have hB : Array.replicate n (Value.bool false) = (bools (List.replicate n false)).toArray := by simp [bools]
    rw [hA, hB]
    have K0 := fun A B C S => (heap4 w A B C S).1
    have K1 := fun A B C S => (heap4 w A B C S).2.1
    have K2 := fun A B C S => (heap4 w A B C S).2.2.1
    have K3 := fun A B C S => (heap4 w A B C S).2.2.2
    refine ⟨⟨w.heap.size + 1 + 1 + 1, ?_, ?_, ?_⟩, rfl, ⟨Disk.new_ok n h2, ?_, ⟨0, ?_⟩, ?_, ?_, ?_⟩, (((((Chg.refl [] w).alloc _).alloc _).alloc _).alloc _).drew, ?_⟩
    rotate_left 4
    · simp only [Disk.new, List.length_replicate]
      exact K3 _ _ _ _
    · first | exact K0 _ _ _ _ | exact K1 _ _ _ _ | exact K2 _ _ _ _
    · first | exact K0 _ _ _ _ | exact K1 _ _ _ _ | exact K2 _ _ _ _
    · first | exact K0 _ _ _ _ | exact K1 _ _ _ _ | exact K2 _ _ _ _
    · intro k hk
      simp [DiskB.set] at hk
      omega
    · simp [DiskB.set]
      try omega

end Go.Proofs.YtjbpdgknhbnfgaaGreat

namespace Go.Proofs.YtjbpdgknhbnfgaaGreat
open Go.RowKit

def pageV (p : Page) : Value := .agg #[intV p.id, intV p.epoch, intV p.kind, strV p.payload]

theorem page_right_bool (a b c : Int) (l : Bytes) : Page.right ⟨a, b, c, l⟩ = (decide (0 ≤ a) && (decide (0 ≤ b) && (decide (b ≤ 1099511627776) && (decide (0 ≤ c) && decide (c ≤ 2147483647))))) := by
  simp [Page.right]

set_option maxHeartbeats 1000000 in
theorem page_right (a b c : Int) (l : Bytes) (w : World) :
    Calls Tryz.prog 197 #[.agg #[intV a, intV b, intV c, strV l]] w fun e w' => e = .returned (.bool (Page.right ⟨a, b, c, l⟩)) ∧ Chg [] w w' := by
  have key : ∀ r : Bool, Page.right ⟨a, b, c, l⟩ = r → (Calls Tryz.prog 197 #[.agg #[intV a, intV b, intV c, strV l]] w fun e w' => e = .returned (.bool r) ∧ Chg [] w w') →
      Calls Tryz.prog 197 #[.agg #[intV a, intV b, intV c, strV l]] w fun e w' => e = .returned (.bool (Page.right ⟨a, b, c, l⟩)) ∧ Chg [] w w' := fun r h H => by rw [h]; exact H
  by_cases h1 : 0 ≤ a
  · by_cases h2 : 0 ≤ b
    · by_cases h3 : b ≤ 1099511627776
      · by_cases h4 : 0 ≤ c
        · by_cases h5 : c ≤ 2147483647
          · refine key true (by simp [page_right_bool, h1, h2, h3, h4, h5]) ?_
            clear key
            go_enter Tryz.func197, Tryz.ntmps197
            go_wp2
            go_ret
            exact ⟨rfl, (Chg.refl _ _).alloc _⟩
          · refine key false (by simp [page_right_bool, h5]) ?_
            clear key
            go_enter Tryz.func197, Tryz.ntmps197
            go_wp2
            go_ret
            exact ⟨rfl, (Chg.refl _ _).alloc _⟩
        · refine key false (by simp [page_right_bool, h4]) ?_
          clear key
          go_enter Tryz.func197, Tryz.ntmps197
          go_wp2
          go_ret
          exact ⟨rfl, (Chg.refl _ _).alloc _⟩
      · refine key false (by simp [page_right_bool, h3]) ?_
        clear key
        go_enter Tryz.func197, Tryz.ntmps197
        go_wp2
        go_ret
        exact ⟨rfl, (Chg.refl _ _).alloc _⟩
    · refine key false (by simp [page_right_bool, h2]) ?_
      clear key
      go_enter Tryz.func197, Tryz.ntmps197
      go_wp2
      go_ret
      exact ⟨rfl, (Chg.refl _ _).alloc _⟩
  · refine key false (by simp [page_right_bool, h1]) ?_
    clear key
    go_enter Tryz.func197, Tryz.ntmps197
    go_wp2
    go_ret
    exact ⟨rfl, (Chg.refl _ _).alloc _⟩

theorem ret_int {k : IntKind} {a b : Int} (h : a = b) : Ending.returned (.int k a) = .returned (.int k b) := by rw [h]

theorem page_many {w : World} {b : DiskB} {D : Disk} (h : DiskAt w b D) :
    Calls Tryz.prog 151 #[ptrV b.d] w fun e w' => e = .returned (intV D.many) ∧ w = w' := by
  have hf := h.ok.few
  have H := Lib.hid (disk_sectors h)
  have e1 : (max ((D.loose.length : Int) - 2) 0) / 4 = D.many := by unfold Disk.many Disk.sectors; omega
  have E := Lib.hid e1
  clear h e1
  go_enter Tryz.func151, Tryz.ntmps151
  go_wp2_with (go_at_call 39; refine H.out.mono ?_; rintro e w' ⟨rfl, rfl⟩)
  all_goals
    go_ret
    refine ⟨?_, rfl⟩
    have e := E.out
    exact ret_int (by omega)

theorem page_sectors (n : Nat) (w : World) (hn : n ≤ 5000) :
    Calls Tryz.prog 152 #[intV n] w fun e w' => e = .returned (.agg #[intV (2 + (n : Int) * 4), intV (2 + (n : Int) * 4 + 1), intV (2 + (n : Int) * 4 + 2), intV (2 + (n : Int) * 4 + 3)]) ∧ Chg [] w w' := by
  have h1 : (n : Int) ≤ 5000 := by omega
  go_enter Tryz.func152, Tryz.ntmps152
  go_wp2
  refine wp_loop_rounds 5 ?_
  rw [rounds_succ]
  go_wp2
  rw [rounds_succ]
  go_wp2
  rw [rounds_succ]
  go_wp2
  rw [rounds_succ]
  go_wp2
  rw [rounds_succ]
  go_wp2
  exact bodyPost_ret (v := .agg #[intV (2 + (n : Int) * 4), intV (2 + (n : Int) * 4 + 1), intV (2 + (n : Int) * 4 + 2), intV (2 + (n : Int) * 4 + 3)]) (by simp [results, Tryz.results152, go_sem]) rfl ⟨rfl, ((Chg.refl _ _).alloc _).alloc _⟩

end Go.Proofs.YtjbpdgknhbnfgaaGreat

namespace Go.Proofs.YtjbpdgknhbnfgaaGreat
open Go.RowKit

/-- add(s): the closure of page.Put that appends to b. -/
theorem page_put1 (g : Nat) (v : Value) (n : Nat) (xs s : Bytes) (w : World) (hb : Blk w g 141 [v]) (ho : Own w 5 1 v n (byts xs)) (hg : g ∉ ownBlk v) (hn : n + s.length ≤ 60000) :
    Calls Tryz.prog 213 #[strV s, ptrV g] w fun e w' => e = .returned (.tuple #[]) ∧ ∃ v', Blk w' g 141 [v'] ∧ Own w' 5 1 v' (n + s.length) (byts (xs ++ s)) ∧ g ∉ ownBlk v' ∧ Chg (g :: ownBlk v) w w' ∧ ∀ k ∈ ownBlk v', k ∈ ownBlk v ∨ w.heap.size ≤ k := by
  obtain ⟨ad, c, rfl, hnc, hcm⟩ := ho.shape
  have h0 := hb.cell 0
  have f0 := hb.free 0
  simp at h0
  have HO := Lib.hid ho
  have HB := Lib.hid hb
  have HG := Lib.hid hg
  clear ho hb hg
  go_enter Tryz.func213, Tryz.ntmps213
  go_wp2_with (refine wpList_append rfl (.tmp 3) (.tmp 4) 141 9 rfl 5 1 1 (bytV 0) Tryz.underlying141 info_u8 rfl (by omega) (.slice ad n c) n s.length _ _ rfl HO.out (Src.ofString _ Tryz.underlying9 ⟨s.toArray⟩) (by omega) (by unfold maxLen; omega) ?_; intro ad' c' w2 hown2 hc2 hge2 hcm2 hkc2; have hb2 := HB.out.kept hc2 HG.out; have f2 := hb2.free 0; have h2 := hb2.cell 0; simp at h2)
  go_end0
  have hb := HB.out
  have hg2 : g ∉ ownBlk (.slice ad' (n + s.length) c') := fun hm => (hge2 g hm).elim HG.out (fun h => absurd hb.lt (by omega))
  have hbytes : byts (xs ++ s) = byts xs ++ byteCells ⟨s.toArray⟩ := by simp [byts, byteCells]
  refine ⟨rfl, .slice ad' (n + s.length) c', by simpa using hb2.set 0 (.slice ad' (n + s.length) c'), ?_, hg2, ?_, hge2⟩
  · rw [hbytes]
    exact hown2.other _ _ hg2
  · exact (hc2.mono (fun k hk => List.mem_cons_of_mem _ hk)).setCell _ _ (.inl (by simp))

end Go.Proofs.YtjbpdgknhbnfgaaGreat
