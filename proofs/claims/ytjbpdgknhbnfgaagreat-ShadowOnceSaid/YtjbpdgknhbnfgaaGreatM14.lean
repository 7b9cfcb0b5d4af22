/- A part of the walks of the program's functions, each a contract that its caller uses; no condition but what each theorem names. The walks of chain.two and chain.read. The walk of root.GetPart. Plain Lean: what opening a disk makes; behind any state of a store it makes the committed one. -/
import Derived.Test.YtjbpdgknhbnfgaaGreatM13

namespace Go.Proofs.YtjbpdgknhbnfgaaGreat
open Go.RowKit
set_option maxRecDepth 100000

attribute [local go_sem ↓] cut2_any

theorem byts_two (n : Int) (h0 : 0 ≤ n) (h1 : n ≤ 65535) : byts (two n) = [.int .u8 (n / 256), .int .u8 (n % 256)] := by
  have e1 := byt_mod (n / 256)
  have e2 := byt_mod n
  rw [show n / 256 % 256 = n / 256 by omega] at e1
  unfold byts
  simp only [two, List.map_cons, List.map_nil]
  rw [show n / 256 % 256 = n / 256 by omega, e1, e2]

theorem chain_two (n : Int) (w : World) (h0 : 0 ≤ n) (h1 : n ≤ 65535) :
    Calls Tryz.prog 137 #[intV n] w fun e w' => e = .returned (strV (two n)) ∧ Chg [] w w' := by
  have hb := byts_two n h0 h1
  have HB := Lib.hid hb
  clear hb
  go_enter Tryz.func137, Tryz.ntmps137
  go_wp2_with (refine wpList_bytes_str rfl (.tmp 8) 141 9 5 rfl Tryz.underlying141 Tryz.underlying5 Tryz.underlying9 w.heap.size 0 2 2 (two n) rfl [.int .u8 (n / 256), .int .u8 (n % 256)] 5 (Blk.new w _ _) (by rw [HB.out]; rfl) rfl ?_)
  go_ret
  exact ⟨rfl, (Chg.refl _ _).alloc _⟩

theorem chain_read_no {w : World} {b : PoolB} {A : Pages} {f : Nat} (h : PoolIs w b A f) (l : Int) (ha : lookup A l = none) :
    Calls Tryz.prog 181 #[ptrV b.p, intV l] w fun e w' => e = .returned (.tuple #[.agg #[intV 0, strV []], intV 3]) ∧ PoolIs w' b A f ∧ Chg b.set w w' := by
  have hg := fun (wr : World) (hc : Chg [] w wr) => pool_get_no (h.kept0 hc) l ha
  have HG := Lib.hid hg
  have HN : Hid (w.heap.size ∉ b.set) := Lib.hid (fun hm => absurd (h.lt _ hm) (Nat.lt_irrefl _))
  have HB : Hid (Blk (w.alloc (.cells #[intV 0, strV []] 197)) w.heap.size 197 [intV 0, strV []]) := Lib.hid (Blk.new w _ _)
  clear hg h ha
  go_enter Tryz.func181, Tryz.ntmps181
  go_wp2_with (first
    | (go_at_call 46; with_reducible refine (HG.out _ ((Chg.refl _ _).alloc _)).mono ?_; rintro e w1 ⟨rfl, h1, hc1⟩; have H1 := Lib.hid h1; have C1 := Lib.hid hc1; have B1 := Lib.hid (HB.out.kept hc1 HN.out); have c0 := B1.out.cell 0; have c1 := B1.out.cell 1; have f0 := B1.out.free 0; have f1 := B1.out.free 1; simp at c0 c1; clear h1 hc1))
  have hc : Chg [w.heap.size] w1 ((w1.setCell ⟨w.heap.size, 0, none⟩ (intV 0)).setCell ⟨w.heap.size, 1, none⟩ (strV [])) := ((Chg.refl _ _).setCell _ _ (.inl (by simp))).setCell _ _ (.inl (by simp))
  refine bodyPost_ret (v := .tuple #[.agg #[intV 0, strV []], intV 3]) (by simp [results, Tryz.results181, go_sem, c0, c1]) rfl ⟨rfl, H1.out.kept hc (fun k hk hm => by simp at hm; subst hm; exact absurd hk HN.out), ?_⟩
  exact ((((Chg.refl _ _).alloc _).trans1 C1.out).trans hc (fun g hg => by simp at hg; subst hg; exact .inr (Nat.le_refl _)))

theorem wrap64_small (n : Int) (h0 : -9223372036854775808 ≤ n) (h1 : n ≤ 9223372036854775807) : wrap64 n = n := by unfold wrap64; omega
theorem or_nat (x y : Nat) (hy : y < 256) : x * 256 ||| y = x * 256 + y := by
  have := Nat.shiftLeft_add_eq_or_of_lt (a := x) (b := y) (i := 8) (by omega)
  rw [Nat.shiftLeft_eq] at this
  exact this.symm
theorem or_bytes (x y : UInt8) : bits BinOp.or IntKind.i64 (wrap64 (wrap64 (x.toNat : Int) * 256)) (wrap64 (y.toNat : Int)) = untwo x y := by
  have hx := x.toNat_lt
  have hy := y.toNat_lt
  rw [wrap64_small (x.toNat : Int) (by omega) (by omega), wrap64_small (y.toNat : Int) (by omega) (by omega), wrap64_small _ (by omega) (by omega)]
  have e : (BitVec.ofInt IntKind.i64.bits ((x.toNat : Int) * 256) ||| BitVec.ofInt IntKind.i64.bits (y.toNat : Int)).toNat = x.toNat * 256 + y.toNat := by
    have hb : IntKind.i64.bits = 64 := rfl
    rw [BitVec.toNat_or, BitVec.toNat_ofInt, BitVec.toNat_ofInt, hb]
    have e1 : (((x.toNat : Int) * 256) % ((2 ^ 64 : Nat) : Int)).toNat = x.toNat * 256 := by omega
    have e2 : ((y.toNat : Int) % ((2 ^ 64 : Nat) : Int)).toNat = y.toNat := by omega
    rw [e1, e2]
    exact or_nat _ _ hy
  unfold bits
  dsimp only
  rw [e]
  have := IntWalk.i64_in ((x.toNat * 256 + y.toNat : Nat) : Int) (by omega)
  rw [this]
  unfold untwo
  omega
theorem ix0 (b0 b1 b2 b3 : UInt8) (rest : Bytes) (h) : ({ data := (b0 :: b1 :: b2 :: b3 :: rest).toArray } : ByteArray)[0]'h = b0 := rfl
theorem ix1 (b0 b1 b2 b3 : UInt8) (rest : Bytes) (h) : ({ data := (b0 :: b1 :: b2 :: b3 :: rest).toArray } : ByteArray)[1]'h = b1 := rfl
theorem ix2 (b0 b1 b2 b3 : UInt8) (rest : Bytes) (h) : ({ data := (b0 :: b1 :: b2 :: b3 :: rest).toArray } : ByteArray)[2]'h = b2 := rfl
theorem ix3 (b0 b1 b2 b3 : UInt8) (rest : Bytes) (h) : ({ data := (b0 :: b1 :: b2 :: b3 :: rest).toArray } : ByteArray)[3]'h = b3 := rfl

theorem untwo_nonneg (a b : UInt8) : 0 ≤ untwo a b := by unfold untwo; omega
theorem chain_read_yes {w : World} {b : PoolB} {A : Pages} {f : Nat} (h : PoolIs w b A f) (l : Int) (b0 b1 b2 b3 : UInt8) (rest : Bytes) (hl : rest.length = 228) (ha : lookup A l = some (b0 :: b1 :: b2 :: b3 :: rest)) (hk : untwo b2 b3 ≤ 228) :
    Calls Tryz.prog 181 #[ptrV b.p, intV l] w fun e w' => e = .returned (.tuple #[.agg #[intV (untwo b0 b1 - 1), strV (rest.take (untwo b2 b3).toNat)], intV 0]) ∧ PoolIs w' b A f ∧ Chg b.set w w' := by
  have hg := fun (wr : World) (hc : Chg [] w wr) => pool_get_yes (h.kept0 hc) l ha
  have HG := Lib.hid hg
  have HN : Hid (w.heap.size ∉ b.set) := Lib.hid (fun hm => absurd (h.lt _ hm) (Nat.lt_irrefl _))
  have HB : Hid (Blk (w.alloc (.cells #[intV 0, strV []] 197)) w.heap.size 197 [intV 0, strV []]) := Lib.hid (Blk.new w _ _)
  have hx : -1 ≤ untwo b0 b1 - 1 := by have := untwo_nonneg b0 b1; omega
  have hx2 : untwo b0 b1 ≤ 65535 := by have := b0.toNat_lt; have := b1.toNat_lt; unfold untwo; omega
  have hk0 := untwo_nonneg b2 b3
  obtain ⟨k, hkk⟩ : ∃ k : Nat, untwo b2 b3 = k := ⟨(untwo b2 b3).toNat, by omega⟩
  obtain ⟨x, hxx⟩ : ∃ x : Int, untwo b0 b1 = x := ⟨_, rfl⟩
  rw [hkk] at hk
  rw [hxx] at hx hx2
  rw [hkk, hxx, Int.toNat_natCast]
  have hin : InStr2 (strV (b0 :: b1 :: b2 :: b3 :: rest)) (.int .i64 4) (.int .i64 (4 + (k : Int))) := ⟨_, 4, 4 + k, rfl, rfl, by rw [Int.natCast_add]; rfl, by omega, by simp [hl]; omega⟩
  have hcut : cut2 (strV (b0 :: b1 :: b2 :: b3 :: rest)) (.int .i64 4) (.int .i64 (4 + (k : Int))) = strV (rest.take k) := by
    rw [cut2_str]
    have e1 : (4 + (k : Int)).toNat = k + 4 := by omega
    rw [e1]
    rfl
  have HKK := Lib.hid hkk
  have HXX := Lib.hid hxx
  clear hg h ha hkk hxx hk0
  go_enter Tryz.func181, Tryz.ntmps181
  go_wp2_with (first
    | (go_at_call 46; with_reducible refine (HG.out _ ((Chg.refl _ _).alloc _)).mono ?_; rintro e w1 ⟨rfl, h1, hc1⟩; have H1 := Lib.hid h1; have C1 := Lib.hid hc1; have B1 := Lib.hid (HB.out.kept hc1 HN.out); have c0 := B1.out.cell 0; have c1 := B1.out.cell 1; have f0 := B1.out.free 0; have f1 := B1.out.free 1; simp at c0 c1; clear h1 hc1))
  go_quiet (fail)
  simp only [ix0, ix1, ix2, ix3, or_bytes]
  rw [HKK.out, HXX.out]
  go_wp2_with fail
  have hc : Chg [w.heap.size] w1 (((w1.drewN nq).setCell ⟨w.heap.size, 0, none⟩ (intV (x - 1))).setCell ⟨w.heap.size, 1, none⟩ (strV (rest.take k))) := ((((Chg.refl _ _).drewN nq)).setCell _ _ (.inl (by simp))).setCell _ _ (.inl (by simp))
  refine bodyPost_ret (v := .tuple #[.agg #[intV (x - 1), strV (rest.take k)], intV 0]) (by simp [results, Tryz.results181, go_sem, c0, c1]) rfl ⟨rfl, H1.out.kept hc (fun k hk hm => by simp at hm; subst hm; exact absurd hk HN.out), ?_⟩
  exact ((((Chg.refl _ _).alloc _).trans1 C1.out).trans hc (fun g hg => by simp at hg; subst hg; exact .inr (Nat.le_refl _)))

/-- The bytes of a link, as chain.read takes them apart. -/
theorem link_cons (next : Int) (pc : Bytes) (h0 : -1 ≤ next) (h1 : next ≤ 65534) (hp : pc.length ≤ 228) :
    ∃ b0 b1 b2 b3 rest, pad (linkBytes next pc) = b0 :: b1 :: b2 :: b3 :: rest ∧ List.length rest = 228 ∧ untwo b0 b1 = next + 1 ∧ untwo b2 b3 = pc.length ∧ rest.take pc.length = pc := by
  have hl : (linkBytes next pc).length = 4 + pc.length := by simp [linkBytes, two]; omega
  refine ⟨UInt8.ofNat (((next + 1) / 256 % 256).toNat), UInt8.ofNat (((next + 1) % 256).toNat), UInt8.ofNat (((pc.length : Int) / 256 % 256).toNat), UInt8.ofNat (((pc.length : Int) % 256).toNat), pc ++ List.replicate (232 - (linkBytes next pc).length) 0, rfl, ?_, ?_, ?_, ?_⟩
  · simp [hl]; omega
  · unfold untwo
    simp only [UInt8.toNat_ofNat']
    omega
  · unfold untwo
    simp only [UInt8.toNat_ofNat']
    omega
  · simp

theorem chain_read_link {w : World} {b : PoolB} {A : Pages} {f : Nat} (h : PoolIs w b A f) (l next : Int) (pc : Bytes) (h0 : -1 ≤ next) (h1 : next ≤ 65534) (hp : pc.length ≤ 228) (ha : lookup A l = some (pad (linkBytes next pc))) :
    Calls Tryz.prog 181 #[ptrV b.p, intV l] w fun e w' => e = .returned (.tuple #[.agg #[intV next, strV pc], intV 0]) ∧ PoolIs w' b A f ∧ Chg b.set w w' := by
  obtain ⟨b0, b1, b2, b3, rest, e1, e2, e3, e4, e5⟩ := link_cons next pc h0 h1 hp
  rw [e1] at ha
  have := chain_read_yes h l b0 b1 b2 b3 rest e2 ha (by omega)
  rw [e3, e4, Int.toNat_natCast, e5, show next + 1 - 1 = next by omega] at this
  exact this

end Go.Proofs.YtjbpdgknhbnfgaaGreat

namespace Go.Proofs.YtjbpdgknhbnfgaaGreat
open Go.RowKit
set_option maxRecDepth 100000

theorem index_str (s : Bytes) (j : Nat) (hj : j < s.length) (w : World) : (Instr.index 9 (strV s) (.int .i64 (j : Int))).run Tryz.prog w = .ok (.int .u8 ((s[j].toNat : Nat) : Int)) w := by
  have h1 : (⟨s.toArray⟩ : ByteArray)[j]? = some s[j] := by
    have : j < (⟨s.toArray⟩ : ByteArray).size := by simpa [ByteArray.size] using hj
    rw [getElem?_pos (⟨s.toArray⟩ : ByteArray) j this]
    rfl
  unfold Instr.index
  simp only [asIntOf, Sem.run_bind, Sem.run_pure, run_underlying Tryz.underlying9, Result.andThen_ok, strV]
  rw [if_pos (by omega), Int.toNat_natCast, h1]
  rfl

def nums (s : Bytes) (many : Nat) : List Int := (List.range many).map fun i => numAt s (2 * i)
theorem getPart_eq (s : Bytes) (many : Nat) (hm : many ≤ 116) (hs : s.length = 232) :
    getPart s many = if (nums s many).any (fun n => decide (1024 < n)) then ([], 14) else ((nums s many).map (· - 1), 0) := by
  unfold getPart
  rw [if_neg (by omega), if_neg (by omega)]
  simp only [Int.toNat_natCast]
  unfold nums
  rw [List.map_map]
  rfl
theorem nums_bad (s : Bytes) (many k : Nat) (hk : k < many) (hb : 1024 < numAt s (2 * k)) : (nums s many).any (fun n => decide (1024 < n)) = true := by
  rw [List.any_eq_true]
  exact ⟨numAt s (2 * k), by unfold nums; exact List.mem_map.2 ⟨k, List.mem_range.2 hk, rfl⟩, by simpa using hb⟩
theorem nums_good (s : Bytes) (many : Nat) (h : ∀ i, i < many → numAt s (2 * i) ≤ 1024) : (nums s many).any (fun n => decide (1024 < n)) = false := by
  rw [List.any_eq_false]
  intro x hx
  unfold nums at hx
  obtain ⟨i, hi, rfl⟩ := List.mem_map.1 hx
  have := h i (List.mem_range.1 hi)
  simp; omega
def gotTo (s : Bytes) (k : Nat) : List Int := (nums s k).map (· - 1)
theorem gotTo_length (s : Bytes) (k : Nat) : (gotTo s k).length = k := by simp [gotTo, nums]
theorem gotTo_succ (s : Bytes) (k : Nat) : gotTo s (k + 1) = gotTo s k ++ [numAt s (2 * k) - 1] := by simp [gotTo, nums, List.range_succ]

set_option maxHeartbeats 2000000 in
theorem root_getpart (s : Bytes) (hs : s.length = 232) (many : Nat) (hm : many ≤ 116) (w : World) :
    Calls Tryz.prog 155 #[strV s, intV many] w fun e w' => ∃ v, e = .returned (.tuple #[v, intV (getPart s many).2]) ∧ Own w' 3 1 v (getPart s many).1.length (ints (getPart s many).1) ∧ Chg [] w w' ∧ ∀ k ∈ ownBlk v, w.heap.size ≤ k := by
  rw [getPart_eq s many hm hs]
  have f1 : decide ((many : Int) < 0) = false := by simp
  have f2 : decide (116 < (many : Int)) = false := by simp; omega
  have f3 : decide (232 < 2 * (many : Int)) = false := by simp; omega
  obtain ⟨R, hR⟩ : ∃ R, (if (nums s many).any (fun n => decide (1024 < n)) then (([] : List Int), (14 : Int)) else ((nums s many).map (· - 1), 0)) = R := ⟨_, rfl⟩
  have HBAD : Hid (∀ k, k < many → 1024 < numAt s (2 * k) → R = ([], 14)) := Lib.hid (fun k h1 h2 => by rw [← hR, if_pos (nums_bad s many k h1 h2)])
  have HGOOD : Hid ((∀ i, i < many → numAt s (2 * i) ≤ 1024) → R = (gotTo s many, 0)) := Lib.hid (fun h1 => by rw [← hR, if_neg (by rw [nums_good s many h1]; simp)]; rfl)
  rw [hR]
  clear hR
  go_enter Tryz.func155, Tryz.ntmps155
  go_wp2_with fail
  go_loopw [6, 23] (fun v i wr => ∃ k : Nat, k ≤ many ∧ i = .int .i64 k ∧ Own wr 3 1 v k (ints (gotTo s k)) ∧ Chg [] w wr ∧ (∀ b ∈ ownBlk v, w.heap.size ≤ b) ∧ ∀ i, i < k → numAt s (2 * i) ≤ 1024) (fun _ i _ => many - (intOf i).toNat)
  case atStart => exact ⟨0, Nat.zero_le _, rfl, Own.nil _ _ _, Chg.refl _ _, by simp [ownBlk], fun i hi => absurd hi (by omega)⟩
  case round =>
    obtain ⟨k, hk, rfl, hown, hc, hnew, hall⟩ := hrel
    have HO := Lib.hid hown
    have HC := Lib.hid hc
    have HNW := Lib.hid hnew
    have HALL := Lib.hid hall
    obtain ⟨vad, vc, rfl, hv1, hv2⟩ := hown.shape
    clear hown hc hnew hall
    by_cases hlt : k < many
    · have hltI : (k : Int) < (many : Int) := by omega
      obtain ⟨x, hx⟩ : ∃ x, numAt s (2 * k) = x := ⟨_, rfl⟩
      obtain ⟨j, hj⟩ : ∃ j, j = 2 * k := ⟨_, rfl⟩
      have hi1 : j < s.length := by omega
      have hi2 : j + 1 < s.length := by omega
      have e1 : 2 * (k : Int) = (j : Int) := by omega
      have e4 : IntKind.i64.wrap (j : Int) = j := IntWalk.i64_in _ (by omega)
      have e5 : IntKind.i64.wrap ((j : Int) + 1) = (j : Int) + 1 := IntWalk.i64_in _ (by omega)
      have e2 : j < 232 := by omega
      have e3 : j + 1 < 232 := by omega
      have ix1 := fun w => index_str s j hi1 w
      have ix2 := fun w => index_str s (j + 1) hi2 w
      rw [Int.natCast_add, show ((1 : Nat) : Int) = 1 from rfl] at ix2
      have hxe : untwo (s[j]) (s[j + 1]) = x := by
        rw [← hx, ← hj]
        unfold numAt
        simp [List.getD, hi1, hi2]
      clear hj
      go_wp2_with fail
      go_quiet (fail)
      simp only [or_bytes]
      have HXE := Lib.hid hxe
      rw [hxe]
      have hx0 : 0 ≤ x := by rw [← HXE.out]; exact untwo_nonneg _ _
      have hx6 : x ≤ 65535 := by rw [← HXE.out]; have := (s[j]).toNat_lt; have := (s[j + 1]).toNat_lt; unfold untwo; omega
      have HX := Lib.hid hx
      have HOQ := Lib.hid (HO.out.drewN nq)
      have HCQ := Lib.hid (HC.out.drewN nq)
      clear ix1 ix2 e1 e2 e3 e4 e5
      generalize ((s[j]).toNat : Int) = q1 at *
      generalize ((s[j + 1]).toNat : Int) = q2 at *
      clear hxe HXE hi1 hi2
      by_cases hb : 1024 < x
      · have b1 : decide (1024 < x) = true := by simpa using hb
        have HA : Hid (R = ([], 14)) := Lib.hid (HBAD.out k hlt (by rw [HX.out]; exact hb))
        clear hb
        go_wp2_with fail
        rw [HA.out]
        go_ret2
        exact ⟨_, rfl, Own.nil _ _ _, HCQ.out, by simp [ownBlk]⟩
      · have b1 : decide (1024 < x) = false := by simpa using hb
        have HS : Hid (gotTo s (k + 1) = gotTo s k ++ [x - 1]) := Lib.hid (by rw [gotTo_succ, HX.out])
        have HB := Lib.hid hb
        clear hb
        go_wp2_with (refine wpList_append rfl (.tmp 41) (.tmp 44) 52 52 rfl 3 1 8 (intV 0) Tryz.underlying52 info_int rfl (by omega) (.slice vad k vc) k 1 _ _ rfl (HOQ.out.alloc _) (src_one Tryz.underlying52 (wr.drewN nq) _ rfl 3) (by omega) (by unfold maxLen; omega) ?_; intro ad' c' w2 hown2 hc2 hge2 hcm2 hkc2)
        go_roundw
        case rel =>
          refine ⟨k + 1, by omega, by go_num, ?_, (HCQ.out.alloc _).trans hc2 (fun b hb => .inr (HNW.out b hb)), fun b hb => ?_, fun i hi => ?_⟩
          · rw [HS.out]
            simpa [ints] using hown2
          · rcases hge2 b hb with h | h
            · exact HNW.out b h
            · exact Nat.le_trans (HCQ.out.alloc _).size h
          · by_cases hik : i < k
            · exact HALL.out i hik
            · obtain rfl : i = k := by omega
              rw [HX.out]
              exact Int.not_lt.1 HB.out
        case measure => simp [intOf]; omega
    · obtain rfl : k = many := by omega
      have HA : Hid (R = (gotTo s k, 0)) := Lib.hid (HGOOD.out HALL.out)
      clear hlt hk
      go_wp2_with fail
      rw [HA.out]
      go_ret2
      exact ⟨_, rfl, by rw [gotTo_length]; exact HO.out, HC.out, HNW.out⟩

end Go.Proofs.YtjbpdgknhbnfgaaGreat

namespace Go.Proofs.YtjbpdgknhbnfgaaGreat

def Store.check (s : Store) (id kind : Int) : Page × Int × FMap :=
  if (FMap.use s.m id).1 ≠ 0 then (.none, 14, s.m) else
  if (pageRead s.d id).2 ≠ 0 then (.none, badErr (pageRead s.d id).2, (FMap.use s.m id).2) else
  if (pageRead s.d id).1.kind ≠ kind ∨ s.epoch < (pageRead s.d id).1.epoch then (.none, 14, (FMap.use s.m id).2) else
  ((pageRead s.d id).1, 0, (FMap.use s.m id).2)
def Store.loads (s : Store) (logical : Int) : List Int → Nat → Int × Store
  | [], _ => (0, s)
  | id :: ids, i =>
    if (s.check id 1).2.1 ≠ 0 then ((s.check id 1).2.1, { s with m := (s.check id 1).2.2 }) else
    if (getPart (s.check id 1).1.payload (min 116 (logical - (i : Int) * 116))).2 ≠ 0 then (14, { s with m := (s.check id 1).2.2 }) else
    Store.loads { s with m := (s.check id 1).2.2, table := s.table ++ (getPart (s.check id 1).1.payload (min 116 (logical - (i : Int) * 116))).1 } logical ids (i + 1)
def Store.checks (s : Store) : List Int → Int × Store
  | [] => (0, s)
  | id :: l =>
    if id < 0 then s.checks l else
    if (s.check id 2).2.1 ≠ 0 then ((s.check id 2).2.1, { s with m := (s.check id 2).2.2 }) else
    Store.checks { s with m := (s.check id 2).2.2 } l
def Store.bare (d : Disk) (r : Root) (slot : Int) : Store := ⟨d, List.replicate d.pages 0, [], [], r.parts, r.epoch, slot, false⟩
def openRoot (d : Disk) (r : Root) (slot : Int) : Int × Store :=
  let a := (Store.bare d r slot).loads r.logical r.parts 0
  if a.1 ≠ 0 then a else
  let b := a.2.checks a.2.table
  if b.1 ≠ 0 then b else (0, { b.2 with old := b.2.table })
def openStore (d : Disk) : Int × Option Store :=
  if (d.read 0).2 ≠ 0 then ((d.read 0).2, none) else if (d.read 1).2 ≠ 0 then ((d.read 1).2, none) else
  match rootNewer (d.read 0).1 (d.read 1).1 with
  | none => (14, none)
  | some x => if (openRoot d x.1 x.2).1 ≠ 0 then ((openRoot d x.1 x.2).1, none) else (0, some (openRoot d x.1 x.2).2)

def markAll (m : List Int) : List Int → List Int
  | [] => m
  | p :: l => markAll (FMap.use m p).2 l

theorem FMap.use_free {m : List Int} {n : Nat} (h : m[n]? = some 0) : FMap.use m n = (0, List.set m n 1) := by
  have hn := (List.getElem?_eq_some_iff.1 h).1
  unfold FMap.use
  rw [FMap.at_of hn, if_neg (by simp), FMap.kind_of hn, (List.getElem?_eq_some_iff.1 h).2, if_neg (by simp), Int.toNat_natCast]

structure Marked (m : List Int) (ps m' : List Int) : Prop where
  len : m'.length = m.length
  get : ∀ (n : Nat) x, m[n]? = some x → m'[n]? = some (if (n : Int) ∈ ps then 1 else x)
  c1 : List.countP (fun x => x == 1) m' = List.countP (fun x => x == 1) m + ps.length
  c2 : List.countP (fun x => x == 2) m' = List.countP (fun x => x == 2) m
  c3 : List.countP (fun x => x == 3) m' = List.countP (fun x => x == 3) m
  all : ∀ x ∈ m', x = 1 ∨ x ∈ m

theorem markAll_ok : ∀ (ps : List Int) (m : List Int), ps.Nodup → (∀ p ∈ ps, ∃ n : Nat, p = n ∧ m[n]? = some 0) → Marked m ps (markAll m ps)
  | [], m, _, _ => ⟨rfl, fun n x hx => by simpa [markAll] using hx, rfl, rfl, rfl, fun x hx => .inr hx⟩
  | p :: ps, m, hnd, hall => by
    obtain ⟨n0, rfl, h2⟩ := hall p (by simp)
    obtain ⟨hn1, hn2⟩ := List.nodup_cons.1 hnd
    have e1 := countP_setv (fun x : Int => x == 1) (b := 1) h2
    have e2 := countP_setv (fun x : Int => x == 2) (b := 1) h2
    have e3 := countP_setv (fun x : Int => x == 3) (b := 1) h2
    simp at e1 e2 e3
    have hun : markAll m ((n0 : Int) :: ps) = markAll (m.set n0 1) ps := by
      show markAll (FMap.use m n0).2 ps = _
      rw [FMap.use_free h2]
    obtain ⟨i1, i2, i3, i4, i5, i6⟩ := markAll_ok ps (m.set n0 1) hn2 (fun q hq => by
      obtain ⟨n, h3, h4⟩ := hall q (by simp [hq])
      refine ⟨n, h3, ?_⟩
      rw [get_setv h2, if_neg (fun e => by subst e; subst h3; exact hn1 hq)]
      exact h4)
    rw [hun]
    refine ⟨by rw [i1, List.length_set], fun n x hx => ?_, by rw [i3, List.length_cons]; omega, by rw [i4]; omega, by rw [i5]; omega, fun x hx => ?_⟩
    · by_cases e : n = n0
      · subst e
        rw [if_pos (by simp)]
        have := i2 n 1 (by rw [get_setv h2, if_pos rfl])
        rw [if_neg hn1] at this
        exact this
      · have := i2 n x (by rw [get_setv h2, if_neg e]; exact hx)
        rw [this]
        have hiff : ((n : Int) ∈ ((n0 : Int) :: ps)) ↔ (n : Int) ∈ ps := by
          rw [List.mem_cons]
          exact ⟨fun h => h.resolve_left (by omega), .inr⟩
        simp only [hiff]
    · rcases i6 x hx with h | h
      · exact .inl h
      · exact mem_setv h

/-- A page that passes its check. -/
theorem Store.check_ok {s : Store} (hu : s.d.Up) {n : Nat} (hn : n < s.d.pages) (hm : s.m[n]? = some 0) {kd e : Int} {b : Bytes} (he : e ≤ s.epoch) (hp : pageGet (s.d.area n) = (⟨n, e, kd, b⟩, 0)) :
    s.check n kd = (⟨n, e, kd, b⟩, 0, List.set s.m n 1) := by
  have hpg := (Disk.pages_le s.d).1
  have hr := pageRead_up hu n (by omega) _ hp rfl
  unfold Store.check
  rw [FMap.use_free hm, if_neg (by simp), hr, if_neg (by simp)]
  rw [if_neg]
  show ¬ (kd ≠ kd ∨ s.epoch < e)
  omega

/-- The parts of a good root. -/
theorem Store.loads_ok (old : List Int) : ∀ (ps : List Int) (i : Nat) (s : Store), s.d.Up → ps.Nodup → (∀ (j : Nat) p, ps[j]? = some p → ∃ (n : Nat) (e : Int) (b : Bytes), p = n ∧ n < s.d.pages ∧ s.m[n]? = some 0 ∧ e ≤ s.epoch ∧
      pageGet (s.d.area n) = (⟨n, e, 1, b⟩, 0) ∧ getPart b (min 116 (old.length - 116 * ((i + j : Nat) : Int))) = ((old.drop (116 * (i + j))).take 116, 0)) → old.length ≤ 116 * (i + ps.length) →
    s.loads old.length ps i = (0, { s with m := markAll s.m ps, table := s.table ++ old.drop (116 * i) })
  | [], i, s, _, _, _, hl => by
    unfold Store.loads
    rw [List.drop_eq_nil_of_le (by simpa using hl), List.append_nil]
    rfl
  | p :: ps, i, s, hu, hnd, hall, hl => by
    obtain ⟨hn1, hn2⟩ := List.nodup_cons.1 hnd
    obtain ⟨n, e, b, rfl, h1, h2, h3, h4, h5⟩ := hall 0 p rfl
    have hc := Store.check_ok hu h1 h2 h3 h4
    rw [Nat.add_zero, show 116 * (i : Int) = (i : Int) * 116 by omega] at h5
    unfold Store.loads
    rw [hc, if_neg (by simp)]
    dsimp only
    rw [h5, if_neg (by simp)]
    have ih := Store.loads_ok old ps (i + 1) { s with m := List.set s.m n 1, table := s.table ++ (old.drop (116 * i)).take 116 } hu hn2 (fun j q hq => by
      obtain ⟨n', e', b', g1, g2, g3, g4, g5, g6⟩ := hall (j + 1) q (by simpa using hq)
      refine ⟨n', e', b', g1, g2, ?_, g4, g5, ?_⟩
      · show (List.set s.m n 1)[n']? = some 0
        rw [get_setv h2, if_neg]
        · exact g3
        · intro e2
          subst e2
          subst g1
          exact hn1 (List.mem_of_getElem? hq)
      · rw [show i + 1 + j = i + (j + 1) by omega]
        exact g6) (by rw [List.length_cons] at hl; omega)
    rw [ih]
    have hmark : markAll s.m ((n : Int) :: ps) = markAll (List.set s.m n 1) ps := by
      show markAll (FMap.use s.m n).2 ps = _
      rw [FMap.use_free h2]
    rw [hmark]
    have hdrop : (old.drop (116 * i)).take 116 ++ old.drop (116 * (i + 1)) = old.drop (116 * i) := by
      rw [show 116 * (i + 1) = 116 * i + 116 by omega, ← List.drop_drop]
      exact List.take_append_drop 116 _
    rw [List.append_assoc, hdrop]

def keptIds (l : List Int) : List Int := l.filter fun x => decide (0 ≤ x)
theorem Store.checks_ok : ∀ (l : List Int) (s : Store), s.d.Up → (keptIds l).Nodup → (∀ p ∈ l, 0 ≤ p → ∃ (n : Nat) (e : Int) (b : Bytes), p = n ∧ n < s.d.pages ∧ s.m[n]? = some 0 ∧ e ≤ s.epoch ∧ pageGet (s.d.area n) = (⟨n, e, 2, b⟩, 0)) →
    s.checks l = (0, { s with m := markAll s.m (keptIds l) })
  | [], s, _, _, _ => rfl
  | p :: l, s, hu, hnd, hall => by
    unfold Store.checks
    by_cases hp : p < 0
    · have hk : keptIds (p :: l) = keptIds l := by unfold keptIds; rw [List.filter_cons_of_neg (by simpa using hp)]
      rw [if_pos hp, hk]
      rw [hk] at hnd
      exact Store.checks_ok l s hu hnd fun q hq => hall q (by simp [hq])
    · have hk : keptIds (p :: l) = p :: keptIds l := by unfold keptIds; rw [List.filter_cons_of_pos (by simpa using hp)]
      obtain ⟨n, e, b, rfl, h1, h2, h3, h4⟩ := hall p (by simp) (by omega)
      rw [hk] at hnd
      obtain ⟨hn1, hn2⟩ := List.nodup_cons.1 hnd
      have hc := Store.check_ok hu h1 h2 h3 h4
      rw [if_neg hp, hc, if_neg (by simp)]
      dsimp only
      have ih := Store.checks_ok l { s with m := List.set s.m n 1 } hu hn2 (fun q hq hq0 => by
        obtain ⟨n', e', b', g1, g2, g3, g4⟩ := hall q (by simp [hq]) hq0
        refine ⟨n', e', b', g1, g2, ?_, g4⟩
        show (List.set s.m n 1)[n']? = some 0
        rw [get_setv h2, if_neg]
        · exact g3
        · intro e2
          subst e2
          subst g1
          apply hn1
          unfold keptIds
          exact List.mem_filter.2 ⟨hq, by simp⟩)
      rw [ih, hk]
      have hmark : markAll s.m ((n : Int) :: keptIds l) = markAll (List.set s.m n 1) (keptIds l) := by
        show markAll (FMap.use s.m n).2 (keptIds l) = _
        rw [FMap.use_free h2]
      rw [hmark]

theorem keptIds_len (l : List Int) (hl : l.length ≤ 512) : (keptIds l).length = C (fun i => decide (0 ≤ tabF l i)) := by
  unfold keptIds
  rw [← List.countP_eq_length_filter, countP_list 512 l (-1) _ (by simp) hl]
  rfl
theorem nodup_of_inj : ∀ (l : List Int), (∀ (i j : Nat) x, l[i]? = some x → l[j]? = some x → 0 ≤ x → i = j) → (keptIds l).Nodup
  | [], _ => List.nodup_nil
  | p :: l, h => by
    have ih := nodup_of_inj l fun i j x hi hj hx => by
      have := h (i + 1) (j + 1) x (by simpa using hi) (by simpa using hj) hx
      omega
    by_cases hp : p < 0
    · have hk : keptIds (p :: l) = keptIds l := by unfold keptIds; rw [List.filter_cons_of_neg (by simpa using hp)]
      rw [hk]
      exact ih
    · have hk : keptIds (p :: l) = p :: keptIds l := by unfold keptIds; rw [List.filter_cons_of_pos (by simpa using hp)]
      rw [hk]
      refine List.nodup_cons.2 ⟨fun hm => ?_, ih⟩
      obtain ⟨hm1, -⟩ := List.mem_filter.1 hm
      obtain ⟨j, hj⟩ := List.mem_iff_getElem?.1 hm1
      have := h 0 (j + 1) p rfl (by simpa using hj) (by omega)
      omega

theorem tabF_of {l : List Int} {i : Nat} {x : Int} (h : l[i]? = some x) : tabF l i = x := by
  unfold tabF
  rw [List.getD, h]
  rfl

theorem Store.Rel.mem_old {S : Store} {r : Ref} (h : S.Rel r) {p : Int} (hp : p ∈ S.old) (h0 : 0 ≤ p) : ∃ (i n : Nat) (b : Bytes), tabF S.old i = p ∧ p = n ∧ n < S.d.pages ∧ Ref.oldF r.old i = some b ∧ Pay S.d n S.epoch b := by
  obtain ⟨i, hi⟩ := List.mem_iff_getElem?.1 hp
  have ht := tabF_of hi
  obtain ⟨b, hb⟩ := h.core.Q_some (i := i) (by omega)
  obtain ⟨n, h1, h2, -, h4⟩ := h.core.old1 i b hb
  exact ⟨i, n, b, ht, by omega, h2, hb, h4⟩

theorem Store.Rel.newer {S : Store} {r : Ref} (h : S.Rel r) : rootNewer (Disk.sector S.d.now 0) (Disk.sector S.d.now 1) = some (⟨S.epoch, S.old.length, S.parts⟩, S.slot) := by
  have h1 := h.rt.here
  have h2 := h.rt.other
  rcases h.rt.sl with e | e
  · rw [e] at h1 h2 ⊢
    replace h1 : rootGet (Disk.sector S.d.now 0) = some ⟨S.epoch, S.old.length, S.parts⟩ := h1
    replace h2 : ∀ x, rootGet (Disk.sector S.d.now 1) = some x → x.epoch < S.epoch := h2
    unfold rootNewer
    rw [h1]
    cases hx : rootGet (Disk.sector S.d.now 1) with
    | none => rfl
    | some y =>
      have := h2 y hx
      dsimp only
      rw [if_neg (by omega)]
  · rw [e] at h1 h2 ⊢
    replace h1 : rootGet (Disk.sector S.d.now 1) = some ⟨S.epoch, S.old.length, S.parts⟩ := h1
    replace h2 : ∀ x, rootGet (Disk.sector S.d.now 0) = some x → x.epoch < S.epoch := h2
    unfold rootNewer
    rw [h1]
    cases hx : rootGet (Disk.sector S.d.now 0) with
    | none => rfl
    | some y =>
      have := h2 y hx
      dsimp only
      rw [if_pos (by omega)]

def Store.again (S : Store) : Store := { S with m := markAll (markAll (List.replicate S.d.pages 0) S.parts) (keptIds S.old), table := S.old, broken := false }

set_option maxHeartbeats 1000000 in
theorem Store.Rel.opened {S : Store} {r : Ref} (h : S.Rel r) (ho : ∀ x ∈ r.old, x.fresh = false) : openStore S.d = (0, some S.again) ∧ S.again.Rel r.abort := by
  have hpg := Disk.pages_le S.d
  have hsec : 2 ≤ S.d.loose.length := by
    have := h.pos
    have : 1 ≤ S.d.many := by omega
    unfold Disk.many Disk.sectors at this
    omega
  have hz : ∀ n : Nat, n < S.d.pages → (List.replicate S.d.pages (0 : Int))[n]? = some 0 := fun n hn => by
    rw [List.getElem?_replicate, if_pos hn]
  have hpartn : ∀ p ∈ S.parts, ∃ n : Nat, p = n ∧ n < S.d.pages := fun p hp => by
    obtain ⟨n, h1, h2, -⟩ := h.core.part p hp
    exact ⟨n, h1, h2⟩
  have hm1 := markAll_ok S.parts (List.replicate S.d.pages 0) h.core.nodup (fun p hp => by
    obtain ⟨n, h1, h2⟩ := hpartn p hp
    exact ⟨n, h1, hz n h2⟩)
  have hknd : (keptIds S.old).Nodup := nodup_of_inj S.old fun i j x hi hj hx => by
    have e1 := tabF_of hi
    have e2 := tabF_of hj
    exact h.core.injQ i j (by rw [e1, e2]) (by omega)
  have hkp : ∀ p ∈ keptIds S.old, ∃ n : Nat, p = n ∧ n < S.d.pages ∧ (n : Int) ∉ S.parts := fun p hp => by
    obtain ⟨hp1, hp2⟩ := List.mem_filter.1 hp
    obtain ⟨i, n, b, e1, e2, e3, -⟩ := h.mem_old hp1 (by simpa using hp2)
    refine ⟨n, e2, e3, ?_⟩
    have := h.core.pQ i (by omega)
    rwa [e1, e2] at this
  have hm1z : ∀ n : Nat, n < S.d.pages → (n : Int) ∉ S.parts → (markAll (List.replicate S.d.pages 0) S.parts)[n]? = some 0 := fun n hn hp => by
    have := hm1.get n 0 (hz n hn)
    rwa [if_neg hp] at this
  have hm2 := markAll_ok (keptIds S.old) (markAll (List.replicate S.d.pages 0) S.parts) hknd (fun p hp => by
    obtain ⟨n, h1, h2, h3⟩ := hkp p hp
    exact ⟨n, h1, hm1z n h2 h3⟩)
  -- what is marked
  have hget : ∀ n : Nat, n < S.d.pages → ((n : Int) ∈ S.parts ∨ (n : Int) ∈ S.old) → S.again.m[n]? = some 1 := fun n hn hor => by
    have g1 := hm1.get n 0 (hz n hn)
    have g2 := hm2.get n _ g1
    show (markAll (markAll (List.replicate S.d.pages 0) S.parts) (keptIds S.old))[n]? = some 1
    rw [g2]
    by_cases hk : (n : Int) ∈ keptIds S.old
    · rw [if_pos hk]
    · rw [if_neg hk]
      have hp : (n : Int) ∈ S.parts := by
        rcases hor with h1 | h1
        · exact h1
        · exfalso
          apply hk
          unfold keptIds
          exact List.mem_filter.2 ⟨h1, by simp⟩
      rw [if_pos hp]
  have hopen : openStore S.d = (0, some S.again) := by
    have hr : ∀ i : Nat, i < 2 → S.d.read i = (Disk.sector S.d.now i, 0) := fun i hi => by
      have hat : S.d.at_ i = 0 := by
        unfold Disk.at_
        rw [if_neg (by rw [h.up.down]; simp), if_neg (by omega)]
      unfold Disk.read
      rw [if_neg (by rw [hat]; simp), Int.toNat_natCast]
    have hr0 : S.d.read 0 = (Disk.sector S.d.now 0, 0) := hr 0 (by omega)
    have hr1 : S.d.read 1 = (Disk.sector S.d.now 1, 0) := hr 1 (by omega)
    have hl := Store.loads_ok S.old S.parts 0 (Store.bare S.d ⟨S.epoch, S.old.length, S.parts⟩ S.slot) h.up h.core.nodup (fun j p hj => by
      obtain ⟨n, e, b, g1, g2, g3, g4⟩ := h.rt.part j p hj
      obtain ⟨n', g5, g6⟩ := hpartn p (List.mem_of_getElem? hj)
      obtain rfl : n = n' := by omega
      refine ⟨n, e, b, g1, g6, hz n g6, g2, g3, ?_⟩
      rw [Nat.zero_add]
      exact g4) (by
        have := h.pl
        unfold rootNeed at this
        split at this <;> omega)
    have hc := Store.checks_ok S.old { (Store.bare S.d ⟨S.epoch, S.old.length, S.parts⟩ S.slot) with m := markAll (List.replicate S.d.pages 0) S.parts, table := S.old } h.up hknd (fun p hp h0 => by
      obtain ⟨i, n, b, e1, e2, e3, e4, e5⟩ := h.mem_old hp h0
      obtain ⟨-, e, e6, e7⟩ := e5
      refine ⟨n, e, b, e2, e3, hm1z n e3 ?_, e6, e7⟩
      have := h.core.pQ i (by omega)
      rwa [e1, e2] at this)
    unfold openStore
    rw [hr0, hr1]
    dsimp only
    rw [if_neg (by simp), if_neg (by simp), h.newer]
    dsimp only
    have hor : openRoot S.d ⟨S.epoch, S.old.length, S.parts⟩ S.slot = (0, S.again) := by
      unfold openRoot
      dsimp only
      rw [hl]
      dsimp only
      rw [if_neg (by simp)]
      have e0 : (Store.bare S.d ⟨S.epoch, S.old.length, S.parts⟩ S.slot).table ++ S.old.drop (116 * 0) = S.old := rfl
      rw [e0]
      have hc' := hc
      unfold Store.bare at hc' ⊢
      dsimp only at hc' ⊢
      rw [hc']
      rfl
    rw [hor, if_neg (by simp)]
  refine ⟨hopen, ?_⟩
  have hN : Ref.nowF r.abort.now = fun i => (Ref.oldF r.old i).map fun b => (false, b) := Ref.nowF_old r.old ho
  have hK : ∀ i, keptB (fun i => (Ref.oldF r.old i).map fun b => (false, b)) i = (Ref.oldF r.old i).isSome := fun i => by
    show isKept ((Ref.oldF r.old i).map fun b => (false, b)) = _
    cases Ref.oldF r.old i <;> rfl
  have hcore : Core S.d.pages S.again.m S.d S.epoch (tabF S.old) (tabF S.old) S.parts (fun i => (Ref.oldF r.old i).map fun b => (false, b)) (Ref.oldF r.old) := by
    have hpay : ∀ i b, Ref.oldF r.old i = some b → ∃ n : Nat, tabF S.old i = n ∧ n < S.d.pages ∧ S.again.m[n]? = some 1 ∧ Pay S.d n S.epoch b := fun i b hi => by
      obtain ⟨n, h1, h2, -, h4⟩ := h.core.old1 i b hi
      refine ⟨n, h1, h2, hget n h2 (.inr ?_), h4⟩
      have hlt : i < S.old.length := by
        apply Classical.byContradiction
        intro hn
        unfold tabF at h1
        rw [List.getD, List.getElem?_eq_none (by omega)] at h1
        have : (-1 : Int) = n := h1
        omega
      have : tabF S.old i = S.old[i] := tabF_of (List.getElem?_eq_getElem hlt)
      rw [← h1, this]
      exact List.getElem_mem hlt
    refine ⟨?_, fun x hx => ?_, fun i hi => ⟨by simp [(h.core.far i hi).2], (h.core.far i hi).2⟩, fun i hi => h.core.old0 i (by simpa using hi), fun i f b hi => ?_, h.core.old0, fun i b hi => ?_, fun i b hi => ⟨rfl, ?_⟩, fun p hp => ?_, h.core.injQ, h.core.injQ, h.core.pQ, h.core.nodup, ?_, ?_, ?_⟩
    · show (markAll (markAll (List.replicate S.d.pages 0) S.parts) (keptIds S.old)).length = _
      rw [hm2.len, hm1.len, List.length_replicate]
    · rcases hm2.all x hx with h1 | h1
      · simp [h1]
      · rcases hm1.all x h1 with h2 | h2
        · simp [h2]
        · simp [List.eq_of_mem_replicate h2]
    · obtain ⟨c, hc, hfb⟩ : ∃ c, Ref.oldF r.old i = some c ∧ (false, c) = (f, b) := by simpa using hi
      obtain ⟨rfl, rfl⟩ : false = f ∧ c = b := by simpa using hfb
      obtain ⟨n, h1, h2, h3, h4⟩ := hpay i c hc
      exact ⟨n, h1, h2, h3, h4.keep rfl (by omega)⟩
    · obtain ⟨n, h1, h2, h3, h4⟩ := hpay i b hi
      exact ⟨n, h1, h2, by rw [hK, hi]; exact h3, h4⟩
    · obtain ⟨c, hc, hfb⟩ : ∃ c, Ref.oldF r.old i = some c ∧ (false, c) = (false, b) := by simpa using hi
      obtain rfl : c = b := by simpa using hfb
      exact hc
    · obtain ⟨n, h1, h2⟩ := hpartn p hp
      exact ⟨n, h1, h2, hget n h2 (.inl (h1 ▸ hp))⟩
    · show List.countP (fun x => x == 1) (markAll (markAll (List.replicate S.d.pages 0) S.parts) (keptIds S.old)) = _
      rw [hm2.c1, hm1.c1, keptIds_len S.old (by rw [h.ol]; exact h.ol2), C_same hK]
      have e0 : List.countP (fun x : Int => x == 1) (List.replicate S.d.pages 0) = 0 := by simp [List.countP_replicate]
      rw [e0]
      have e1 : C (fun i => decide (0 ≤ tabF S.old i)) = C (fun i => (Ref.oldF r.old i).isSome) := C_same fun i => by
        cases hx : Ref.oldF r.old i with
        | none => rw [h.core.old0 i hx]; rfl
        | some b =>
          obtain ⟨n, h1, -⟩ := h.core.old1 i b hx
          rw [h1]
          simp
      rw [e1]
      omega
    · show List.countP (fun x => x == 2) (markAll (markAll (List.replicate S.d.pages 0) S.parts) (keptIds S.old)) = _
      rw [hm2.c2, hm1.c2, C_zero (fun i => by show isFresh ((Ref.oldF r.old i).map fun b => (false, b)) = false; cases Ref.oldF r.old i <;> rfl)]
      simp [List.countP_replicate]
    · show List.countP (fun x => x == 3) (markAll (markAll (List.replicate S.d.pages 0) S.parts) (keptIds S.old)) = _
      rw [hm2.c3, hm1.c3, C_zero (fun i => by unfold leftB; rw [hK]; cases Ref.oldF r.old i <;> rfl)]
      simp [List.countP_replicate]
  have hlen : S.again.m.length = S.d.pages := hcore.len
  refine ⟨⟨h.ok.ep, by show S.old.length ≤ 512; rw [h.ol]; exact h.ol2, hlen, fun p hp => (h.olo p hp).2, fun p hp => (h.olo p hp).1⟩, h.up, h.pos, rfl, h.many, h.ep, h.ep1, ?_, h.ol2, h.ol, h.ol2, h.olo, h.pl, ⟨h.rt.sl, h.rt.here, h.rt.other, h.rt.part⟩⟩
  rw [hN]
  exact hcore

end Go.Proofs.YtjbpdgknhbnfgaaGreat
