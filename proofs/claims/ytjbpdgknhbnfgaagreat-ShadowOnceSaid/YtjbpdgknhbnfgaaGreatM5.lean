/- A part of the walks of the program's functions, each a contract that its caller uses; no condition but what each theorem names. The walk of root.PutPart. The walk of page.Get. The walk of page.Write. The walk of page.Read. -/
import Derived.Test.YtjbpdgknhbnfgaaGreatM4

namespace Go.Proofs.YtjbpdgknhbnfgaaGreat
open Go.RowKit
set_option maxRecDepth 100000

def partRows (T : List Int) (part : Nat) : List Int := (T.drop (116 * part)).take 116
def partBytes (L : List Int) : Bytes := twos (L.map fun p => max p (-1) + 1)
theorem partBytes_length (L : List Int) : (partBytes L).length = 2 * L.length := by
  unfold partBytes twos
  induction L with
  | nil => rfl
  | cons a l ih => simp [two] at ih ⊢; omega
theorem partBytes_snoc (L : List Int) (x : Int) : partBytes (L ++ [x]) = partBytes L ++ two (max x (-1) + 1) := by simp [partBytes, twos]
theorem putPart_ok {T : List Int} {part : Nat} (hp : (part : Int) < rootNeed T.length) (hT : ∀ x ∈ T, x ≤ 1023) : putPart T part = (partBytes (partRows T part), 0) := by
  unfold putPart
  rw [if_neg (by omega), if_neg]
  · rfl
  · simp only [List.any_eq_true, decide_eq_true_eq, not_exists, not_and]
    intro x hx hc
    have := hT x (List.mem_of_mem_drop (List.mem_of_mem_take hx))
    omega

set_option maxHeartbeats 1000000 in
theorem root_putpart_no {w : World} {tv : Value} {T : List Int} (h : Own w 3 1 tv T.length (ints T)) (hl : T.length ≤ 512) (part : Nat) (hp : rootNeed T.length ≤ part) :
    Calls Tryz.prog 166 #[tv, intV part] w fun e w' => e = .returned (.tuple #[strV [], intV 3]) ∧ w = w' := by
  obtain ⟨ad, c, rfl, -, -⟩ := h.shape
  have HN := Lib.hid (root_need T.length w (by omega) (by omega))
  have f1 : decide ((part : Int) < 0) = false := by simp
  have f2 : decide (rootNeed T.length ≤ (part : Int)) = true := by simpa using hp
  clear h hp
  generalize rootNeed T.length = nd at *
  go_enter Tryz.func166, Tryz.ntmps166
  go_wp2_with (go_at_call 102; (with_reducible refine HN.out.mono ?_); rintro e w' ⟨rfl, rfl⟩)
  go_ret2
  exact ⟨rfl, rfl⟩

set_option maxHeartbeats 2000000 in
theorem root_putpart {w : World} {tv : Value} {T : List Int} (h : Own w 3 1 tv T.length (ints T)) (hl : T.length ≤ 512) (hT : ∀ x ∈ T, x ≤ 1023) (part : Nat) (hp : (part : Int) < rootNeed T.length) :
    Calls Tryz.prog 166 #[tv, intV part] w fun e w' => e = .returned (.tuple #[strV (partBytes (partRows T part)), intV 0]) ∧ Chg [] w w' := by
  have hp4 : part ≤ 4 ∧ 116 * part < T.length := by unfold rootNeed at hp; split at hp <;> omega
  obtain ⟨hp4, hpl⟩ := hp4
  obtain ⟨g, c, cur, rfl, hle, -, hcm, -⟩ := h.pos (by omega)
  have HN := Lib.hid (root_need T.length w (by omega) (by omega))
  have f1 : decide ((part : Int) < 0) = false := by simp
  have f2 : decide (rootNeed T.length ≤ (part : Int)) = false := by simp; omega
  have HO := Lib.hid h
  clear h hp
  generalize hnd : rootNeed T.length = nd at *
  clear hnd
  obtain ⟨m, hm⟩ : ∃ m, (partRows T part).length = m := ⟨_, rfl⟩
  have hm2 : m = min 116 (T.length - 116 * part) := by rw [← hm]; simp [partRows]
  have hcell : ∀ k, k < m → ∃ x, (partRows T part)[k]? = some x ∧ T[116 * part + k]? = some x ∧ x ≤ 1023 := by
    intro k hk
    have h1 : 116 * part + k < T.length := by omega
    refine ⟨T[116 * part + k], ?_, List.getElem?_eq_getElem h1, hT _ (List.getElem_mem h1)⟩
    unfold partRows
    rw [List.getElem?_take, if_pos (by omega), List.getElem?_drop, List.getElem?_eq_getElem h1]
  have HCELL := Lib.hid hcell
  have HM := Lib.hid hm
  have f4 : (part : Int) * 116 = ((116 * part : Nat) : Int) := by omega
  have f5 : 116 * part + m ≤ T.length := by omega
  have f6 : m ≤ 116 := by omega
  clear hcell hT hm
  by_cases hAB : ((part : Int) + 1) * 116 ≤ (T.length : Int)
  · obtain ⟨en, hen⟩ : ∃ en, en = 116 * part + m := ⟨_, rfl⟩
    have f3 : ((part : Int) + 1) * 116 = (en : Int) := by omega
    have f7 : (en : Int) ≤ (T.length : Int) := by omega
    have f8 : (en : Int) ≤ (c : Int) := by omega
    have f9 : ¬ c = 116 * part := by omega
    have f10 : en ≤ c := by omega
    have f11 : en - 116 * part = m := by omega
    have f12 : 116 * part ≤ en := by omega
    clear hm2 hAB hen
    generalize 116 * part = q at *

    go_enter Tryz.func166, Tryz.ntmps166
    go_wp2_with (go_at_call 102; (with_reducible refine HN.out.mono ?_); rintro e w' ⟨rfl, rfl⟩)
    go_loopw [6, 29] (fun v i wr => ∃ k : Nat, k ≤ m ∧ i = .int .i64 k ∧ Own wr 5 1 v (2 * k) (byts (partBytes ((partRows T part).take k))) ∧ Chg [] w wr ∧ ∀ b ∈ ownBlk v, w.heap.size ≤ b) (fun _ i _ => m - (intOf i).toNat)
    case atStart => exact ⟨0, Nat.zero_le _, rfl, Own.nil _ _ _, Chg.refl _ _, by simp [ownBlk]⟩
    case round =>
      obtain ⟨k, hk, rfl, hown, hc, hnew⟩ := hrel
      have HO1 := Lib.hid hown
      have HC := Lib.hid hc
      have HNW := Lib.hid hnew
      obtain ⟨vad, vc, rfl, hv1, hv2⟩ := hown.shape
      clear hown hc hnew
      by_cases hlt : k < m
      · obtain ⟨x, hx1, hx2, hx3⟩ := HCELL.out k hlt
        have HOW := Lib.hid (HO.out.kept HC.out (by simp))
        obtain ⟨c0, z0⟩ := HOW.out.cell rfl (i := q + k) (by omega)
        rw [ints_get, hx2] at c0
        simp only [Option.map_some] at c0
        have hl2 : (partBytes ((partRows T part).take k)).length = 2 * k := by rw [partBytes_length, List.length_take, HM.out, Nat.min_eq_left (by omega)]
        have HTW := Lib.hid (root_two (xs := partBytes ((partRows T part).take k)) (by rw [hl2]; exact HO1.out) (max x (-1) + 1) (by omega) (by omega) (by rw [hl2]; omega))
        have HS : Hid (partBytes ((partRows T part).take k) ++ two (max x (-1) + 1) = partBytes ((partRows T part).take (k + 1))) := Lib.hid (by rw [← partBytes_snoc, List.take_add_one, hx1]; rfl)
        rw [HS.out] at HTW
        have hl3 : (partBytes ((partRows T part).take (k + 1))).length = 2 * (k + 1) := by rw [partBytes_length, List.length_take, HM.out, Nat.min_eq_left (by omega)]
        rw [hl3] at HTW
        have hltI : (k : Int) < (m : Int) := by omega
        have b1 : decide (1023 < x) = false := by simp; omega
        clear hx1 hx2 z0 hl2 hl3 hk
        by_cases hx0 : ¬ -1 ≤ x
        · have e0 : max x (-1) + 1 = 0 := by omega
          rw [e0] at HTW
          clear e0
          go_wp2_with (go_at_call 158; (with_reducible refine HTW.out.mono ?_); rintro e w' ⟨v', rfl, ho, hc, hg⟩)
          go_roundw
          case rel => exact ⟨k + 1, by omega, by go_num, ho, HC.out.trans hc (fun b hb => .inr (HNW.out b hb)), fun b hb => by rcases hg b hb with h | h; exact HNW.out b h; exact Nat.le_trans HC.out.size h⟩
          case measure => simp [intOf]; omega
        · have hx0 : -1 ≤ x := by omega
          have e0 : max x (-1) + 1 = x + 1 := by omega
          rw [e0] at HTW
          have e1 : IntKind.i64.wrap (x + 1) = x + 1 := IntWalk.i64_in _ (by omega)
          clear e0
          go_wp2_with (go_at_call 158; (with_reducible refine HTW.out.mono ?_); rintro e w' ⟨v', rfl, ho, hc, hg⟩)
          go_roundw
          case rel => exact ⟨k + 1, by omega, by go_num, ho, HC.out.trans hc (fun b hb => .inr (HNW.out b hb)), fun b hb => by rcases hg b hb with h | h; exact HNW.out b h; exact Nat.le_trans HC.out.size h⟩
          case measure => simp [intOf]; omega
      · obtain rfl : k = m := by omega
        have e1 : (partRows T part).take k = partRows T part := List.take_of_length_le (by rw [HM.out]; omega)
        rw [e1] at HO1
        have hl2 : (partBytes (partRows T part)).length = 2 * k := by rw [partBytes_length, HM.out]
        have HO2 := Lib.hid (show Own wr 5 1 (.slice vad (2 * k) vc) (partBytes (partRows T part)).length (byts (partBytes (partRows T part))) by rw [hl2]; exact HO1.out)
        clear hk hlt e1 hl2
        go_wp2_with (refine wpList_own_str rfl (.tmp 41) 141 9 5 rfl Tryz.underlying141 Tryz.underlying5 Tryz.underlying9 _ (partBytes (partRows T part)) 5 rfl HO2.out ?_)
        go_ret2
        exact ⟨rfl, HC.out⟩
  · have f7 : T.length - 116 * part = m := by omega
    have f9 : ¬ c = 116 * part := by omega
    have f10 : 116 * part ≤ T.length := by omega
    clear hm2
    generalize 116 * part = q at *

    go_enter Tryz.func166, Tryz.ntmps166
    go_wp2_with (go_at_call 102; (with_reducible refine HN.out.mono ?_); rintro e w' ⟨rfl, rfl⟩)
    go_loopw [6, 29] (fun v i wr => ∃ k : Nat, k ≤ m ∧ i = .int .i64 k ∧ Own wr 5 1 v (2 * k) (byts (partBytes ((partRows T part).take k))) ∧ Chg [] w wr ∧ ∀ b ∈ ownBlk v, w.heap.size ≤ b) (fun _ i _ => m - (intOf i).toNat)
    case atStart => exact ⟨0, Nat.zero_le _, rfl, Own.nil _ _ _, Chg.refl _ _, by simp [ownBlk]⟩
    case round =>
      obtain ⟨k, hk, rfl, hown, hc, hnew⟩ := hrel
      have HO1 := Lib.hid hown
      have HC := Lib.hid hc
      have HNW := Lib.hid hnew
      obtain ⟨vad, vc, rfl, hv1, hv2⟩ := hown.shape
      clear hown hc hnew
      by_cases hlt : k < m
      · obtain ⟨x, hx1, hx2, hx3⟩ := HCELL.out k hlt
        have HOW := Lib.hid (HO.out.kept HC.out (by simp))
        obtain ⟨c0, z0⟩ := HOW.out.cell rfl (i := q + k) (by omega)
        rw [ints_get, hx2] at c0
        simp only [Option.map_some] at c0
        have hl2 : (partBytes ((partRows T part).take k)).length = 2 * k := by rw [partBytes_length, List.length_take, HM.out, Nat.min_eq_left (by omega)]
        have HTW := Lib.hid (root_two (xs := partBytes ((partRows T part).take k)) (by rw [hl2]; exact HO1.out) (max x (-1) + 1) (by omega) (by omega) (by rw [hl2]; omega))
        have HS : Hid (partBytes ((partRows T part).take k) ++ two (max x (-1) + 1) = partBytes ((partRows T part).take (k + 1))) := Lib.hid (by rw [← partBytes_snoc, List.take_add_one, hx1]; rfl)
        rw [HS.out] at HTW
        have hl3 : (partBytes ((partRows T part).take (k + 1))).length = 2 * (k + 1) := by rw [partBytes_length, List.length_take, HM.out, Nat.min_eq_left (by omega)]
        rw [hl3] at HTW
        have hltI : (k : Int) < (m : Int) := by omega
        have b1 : decide (1023 < x) = false := by simp; omega
        clear hx1 hx2 z0 hl2 hl3 hk
        by_cases hx0 : ¬ -1 ≤ x
        · have e0 : max x (-1) + 1 = 0 := by omega
          rw [e0] at HTW
          clear e0
          go_wp2_with (go_at_call 158; (with_reducible refine HTW.out.mono ?_); rintro e w' ⟨v', rfl, ho, hc, hg⟩)
          go_roundw
          case rel => exact ⟨k + 1, by omega, by go_num, ho, HC.out.trans hc (fun b hb => .inr (HNW.out b hb)), fun b hb => by rcases hg b hb with h | h; exact HNW.out b h; exact Nat.le_trans HC.out.size h⟩
          case measure => simp [intOf]; omega
        · have hx0 : -1 ≤ x := by omega
          have e0 : max x (-1) + 1 = x + 1 := by omega
          rw [e0] at HTW
          have e1 : IntKind.i64.wrap (x + 1) = x + 1 := IntWalk.i64_in _ (by omega)
          clear e0
          go_wp2_with (go_at_call 158; (with_reducible refine HTW.out.mono ?_); rintro e w' ⟨v', rfl, ho, hc, hg⟩)
          go_roundw
          case rel => exact ⟨k + 1, by omega, by go_num, ho, HC.out.trans hc (fun b hb => .inr (HNW.out b hb)), fun b hb => by rcases hg b hb with h | h; exact HNW.out b h; exact Nat.le_trans HC.out.size h⟩
          case measure => simp [intOf]; omega
      · obtain rfl : k = m := by omega
        have e1 : (partRows T part).take k = partRows T part := List.take_of_length_le (by rw [HM.out]; omega)
        rw [e1] at HO1
        have hl2 : (partBytes (partRows T part)).length = 2 * k := by rw [partBytes_length, HM.out]
        have HO2 := Lib.hid (show Own wr 5 1 (.slice vad (2 * k) vc) (partBytes (partRows T part)).length (byts (partBytes (partRows T part))) by rw [hl2]; exact HO1.out)
        clear hk hlt e1 hl2
        go_wp2_with (refine wpList_own_str rfl (.tmp 41) 141 9 5 rfl Tryz.underlying141 Tryz.underlying5 Tryz.underlying9 _ (partBytes (partRows T part)) 5 rfl HO2.out ?_)
        go_ret2
        exact ⟨rfl, HC.out⟩

end Go.Proofs.YtjbpdgknhbnfgaaGreat

namespace Go.Proofs.YtjbpdgknhbnfgaaGreat
open Go.RowKit

theorem cut2_c {a : Act} {w : World} {x : Operand} {dst type pos after guard} (h : InStr2 (a.eval x) (.int .i64 16) (.int .i64 20)) :
    (execOp a.eval { dst := dst, op := .slice 9 x (some (.const (.int .i64 16))) (some (.const (.int .i64 20))) none, type := type, pos := pos, after := after, guard := guard }).run Tryz.prog w = .ok (.value (cut2 (a.eval x) (.int .i64 16) (.int .i64 20))) w :=
  exec_cut2 Tryz.underlying9 h
theorem cutLo20 {a : Act} {w : World} {x : Operand} {dst type pos after guard} (h : InStr (a.eval x) (.int .i64 20)) :
    (execOp a.eval { dst := dst, op := .slice 9 x (some (.const (.int .i64 20))) none none, type := type, pos := pos, after := after, guard := guard }).run Tryz.prog w = .ok (.value (cutLo (a.eval x) (.int .i64 20))) w :=
  exec_cutLo Tryz.underlying9 h
def zero4 (s : Bytes) : Bytes := [0, 0, 0, 0] ++ s
theorem add_zero4 {a : Act} {w : World} {y : Operand} {dst t t' type pos after guard} (h : IsStr (a.eval y)) :
    (execOp a.eval { dst := dst, op := .binOp .add t (.const (.string ⟨#[0, 0, 0, 0]⟩)) y t', type := type, pos := pos, after := after, guard := guard }).run Tryz.prog w = .ok (.value (strV (zero4 (strOf (a.eval y))))) w :=
  exec_add_str (x := .const (.string ⟨#[0, 0, 0, 0]⟩)) (IsStr.mk' (l := [0, 0, 0, 0]) (by simp)) h
theorem conv_u64_int {ρ : Operand → Value} {w : World} {x : Operand} {dst type pos after guard} (h : IsU64 (ρ x)) :
    (execOp ρ { dst := dst, op := .convert 173 3 x, type := type, pos := pos, after := after, guard := guard }).run Tryz.prog w = .ok (.value (.int .i64 (u64Of (ρ x)).toInt)) w :=
  exec_conv_u64_i64 Tryz.underlying173 Tryz.underlying3 h

attribute [local go_sem ↓] cut2_c cutLo20 add_zero4 conv_u64_int
attribute [local go_sem] u64Of_u64V isU64_u64V cutLo_str cut2_str strOf_strV

theorem drop_take_drop (l : Bytes) (a b : Nat) : (((l.drop 4).take b).drop a) = (l.drop (4 + a)).take (b - a) := by
  rw [List.drop_take, List.drop_drop]

theorem get64_zero4 (s : Bytes) (h : s.length = 4) : (get64 ((zero4 s).take 8)).toInt = (unbe s : Int) := by
  have h8 : (zero4 s).take 8 = zero4 s := List.take_of_length_le (by simp [zero4, h])
  have e : (get64 (zero4 s)).toNat = unbe s := by
    rw [get64_eq _ (by simp [zero4, h])]
    simp [zero4, unbe]
  have hlt := unbe_lt s
  rw [h] at hlt
  have : (256 : Nat) ^ 4 = 4294967296 := by decide
  rw [h8, BitVec.toInt_eq_toNat_cond, e]
  split
  · rfl
  · omega

theorem readI_0 (l : Bytes) (w : World) (hl : l.length = 252) :
    Calls Tryz.prog 195 #[strV l, .int .i64 0] w fun e w' => e = .returned (.tuple #[intV (unpackI (l.take 8)), intV 8, intV 0]) ∧ w = w' := pack_readI l 0 w (by omega) (by omega)
theorem readI_8 (l : Bytes) (w : World) (hl : l.length = 252) :
    Calls Tryz.prog 195 #[strV l, .int .i64 8] w fun e w' => e = .returned (.tuple #[intV (unpackI ((l.drop 8).take 8)), intV 16, intV 0]) ∧ w = w' := pack_readI l 8 w (by omega) (by omega)
theorem readU_0 (s : Bytes) (w : World) (hl : s.length = 4) :
    Calls Tryz.prog 196 #[strV (zero4 s), .int .i64 0] w fun e w' => e = .returned (.tuple #[u64V (get64 ((zero4 s).take 8)), intV 8, intV 0]) ∧ w = w' := pack_readU (zero4 s) 0 w (by simp [zero4]; omega) (by simp [zero4]; omega)

set_option maxHeartbeats 1000000 in
set_option maxRecDepth 100000 in
theorem page_get (l : Bytes) (w : World) (hl : l.length = 256) :
    Calls Tryz.prog 153 #[strV l] w fun e w' => e = .returned (.tuple #[pageV (pageGet l).1, intV (pageGet l).2]) ∧ Chg [] w w' := by
  unfold pageGet
  rw [if_neg (by simp [hl])]
  by_cases hok : crcOk l = true
  · rw [if_neg (by simp [hok])]
    have hc : crcCut l = (l.drop 4, 0) := by unfold crcCut; rw [if_neg (by omega), if_neg (by simp [hok])]
    have hcall := crc_cut l
    rw [hc] at hcall
    have HC := Lib.hid hcall
    have hl' : ((l.length : Nat) : Int) = 256 := by omega
    clear hc hcall hok
    obtain ⟨b, hb⟩ : ∃ b, b = l.drop 4 := ⟨_, rfl⟩
    have hbl : b.length = 252 := by subst hb; simp; omega
    have hpg : pageOf l = ⟨unpackI (b.take 8), unpackI ((b.drop 8).take 8), unbe ((b.take 20).drop 16), b.drop 20⟩ := by
      subst hb
      simp [pageOf, List.drop_take]
    rw [hpg]
    have HC' : Hid (∀ w : World, Calls Tryz.prog 194 #[strV l] w fun e w' => e = .returned (.tuple #[strV b, intV 0]) ∧ Chg [] w w') := Lib.hid (fun w => by subst hb; exact HC.out w (by omega) (by omega))
    have hk4 : ((b.take 20).drop 16).length = 4 := by simp; omega
    have i1 : InStr2 (strV b) (.int .i64 16) (.int .i64 20) := InStr2.mk' (n := 16) (m := 20) (by omega) (by omega)
    have i2 : InStr (strV b) (.int .i64 20) := InStr.mk' (n := 20) (by omega)
    have i3 : IsStr (strV ((b.take 20).drop 16)) := IsStr.mk' (by omega)
    have HK := Lib.hid hk4
    have hU := get64_zero4 _ hk4
    have hI1 := fun w => readI_0 b w hbl
    have hI2 := fun w => readI_8 b w hbl
    obtain ⟨x1, hx1⟩ : ∃ x, x = unpackI (b.take 8) := ⟨_, rfl⟩
    obtain ⟨x2, hx2⟩ : ∃ x, x = unpackI ((b.drop 8).take 8) := ⟨_, rfl⟩
    obtain ⟨x3, hx3⟩ : ∃ x : Int, x = (unbe ((b.take 20).drop 16) : Int) := ⟨_, rfl⟩
    obtain ⟨x4, hx4⟩ : ∃ x, x = b.drop 20 := ⟨_, rfl⟩
    rw [← hx1, ← hx2, ← hx3, ← hx4]
    rw [← hx3] at hU
    simp only [← hx1] at hI1
    simp only [← hx2] at hI2
    have HI1 := Lib.hid hI1
    have HI2 := Lib.hid hI2
    have hd4 : b.drop 20 = x4 := hx4.symm
    clear hpg HC hb hbl hk4 hx1 hx2 hx3 hx4 hI1 hI2
    have hpr := fun w => page_right x1 x2 x3 x4 w
    obtain ⟨rb, hrb⟩ : ∃ rb, rb = Page.right ⟨x1, x2, x3, x4⟩ := ⟨_, rfl⟩
    rw [← hrb]
    simp only [← hrb] at hpr
    have HPR := Lib.hid hpr
    clear hpr hrb
    have hR : Blk (w.alloc (.cells #[intV 0, intV 0, intV 0, .string ⟨#[]⟩] 55)) w.heap.size 55 [intV 0, intV 0, intV 0, .string ⟨#[]⟩] := Blk.new w _ _
    have HR := Lib.hid hR
    clear hR
    go_enter Tryz.func153, Tryz.ntmps153
    go_wp2_with fail
    refine (HC'.out _).mono ?_
    rintro e w1 ⟨rfl, hc1⟩
    have HR1 := Lib.hid (HR.out.kept hc1 (by simp))
    go_wp2_with fail
    refine (HI1.out _).mono ?_
    rintro e w' ⟨rfl, rfl⟩
    go_wp2_with fail
    refine (HI2.out _).mono ?_
    rintro e w' ⟨rfl, rfl⟩
    go_wp2_with fail
    refine (readU_0 _ _ HK.out).mono ?_
    rintro e w' ⟨rfl, rfl⟩
    have HRb := Lib.hid (HR1.out.alloc (.cells #[intV x1, intV x2, intV x3, strV x4] 55))
    have HBb := Lib.hid (Blk.new w1 55 [intV x1, intV x2, intV x3, strV x4])
    go_wp2_with fail
    refine (HPR.out _).mono ?_
    rintro e w2 ⟨rfl, hc2⟩
    have HR2 := Lib.hid (HRb.out.kept hc2 (by simp))
    have HB2 := Lib.hid (HBb.out.kept hc2 (by simp))
    obtain ⟨⟨q0, q1, q2, q3⟩, ⟨p0, p1, p2, p3⟩⟩ := HR2.out.four
    obtain ⟨⟨r0, r1, r2, r3⟩, -⟩ := HB2.out.four
    cases rb with
    | true =>
      go_wp2_with fail
      exact bodyPost_ret (v := .tuple #[.agg #[intV x1, intV x2, intV x3, strV x4], intV 0]) (by simp [results, Tryz.results153, go_sem, q0, q1, q2, q3]) rfl
        ⟨rfl, (((((((Chg.refl [] w).alloc _).trans0 hc1).alloc _).trans0 hc2).setCell _ _ (.inr (Nat.le_refl _))).setCell _ _ (.inr (Nat.le_refl _))).setCell _ _ (.inr (Nat.le_refl _)) |>.setCell _ _ (.inr (Nat.le_refl _))⟩
    | false =>
      go_wp2_with fail
      exact bodyPost_ret (v := .tuple #[.agg #[intV 0, intV 0, intV 0, strV []], intV 14]) (by simp [results, Tryz.results153, go_sem, q0, q1, q2, q3]) rfl
        ⟨rfl, (((((((Chg.refl [] w).alloc _).trans0 hc1).alloc _).trans0 hc2).setCell _ _ (.inr (Nat.le_refl _))).setCell _ _ (.inr (Nat.le_refl _))).setCell _ _ (.inr (Nat.le_refl _)) |>.setCell _ _ (.inr (Nat.le_refl _))⟩
  · rw [if_pos (by simpa using hok)]
    have hc : crcCut l = ([], 14) := by unfold crcCut; rw [if_neg (by omega), if_pos (by simpa using hok)]
    have hcall := crc_cut l
    rw [hc] at hcall
    have HC := Lib.hid hcall
    have hl' : ((l.length : Nat) : Int) = 256 := by omega
    clear hc hcall hok
    have hR : Blk (w.alloc (.cells #[intV 0, intV 0, intV 0, .string ⟨#[]⟩] 55)) w.heap.size 55 [intV 0, intV 0, intV 0, .string ⟨#[]⟩] := Blk.new w _ _
    have HR := Lib.hid hR
    clear hR
    go_enter Tryz.func153, Tryz.ntmps153
    go_wp2_with fail
    refine (HC.out _ (by omega) (by omega)).mono ?_
    rintro e w1 ⟨rfl, hc1⟩
    have HR1 := Lib.hid (HR.out.kept hc1 (by simp))
    obtain ⟨⟨q0, q1, q2, q3⟩, ⟨p0, p1, p2, p3⟩⟩ := HR1.out.four
    go_wp2_with fail
    exact bodyPost_ret (v := .tuple #[.agg #[intV 0, intV 0, intV 0, strV []], intV 14]) (by simp [results, Tryz.results153, go_sem, q0, q1, q2, q3]) rfl
      ⟨rfl, ((((((Chg.refl [] w).alloc _).trans0 hc1).setCell _ _ (.inr (Nat.le_refl _))).setCell _ _ (.inr (Nat.le_refl _))).setCell _ _ (.inr (Nat.le_refl _))).setCell _ _ (.inr (Nat.le_refl _))⟩

end Go.Proofs.YtjbpdgknhbnfgaaGreat

namespace Go.Proofs.YtjbpdgknhbnfgaaGreat
open Go.RowKit

attribute [local go_sem ↓] cut2_any
attribute [local go_sem] cut2_str

theorem writes_zero (D : Disk) (a : Int) (s : Bytes) : D.writes a s 0 = (0, D) := rfl
theorem writes_succ (D : Disk) (a : Int) (s : Bytes) (k : Nat) :
    D.writes a s (k + 1) = if (D.write a (s.take 64)).1 ≠ 0 then D.write a (s.take 64) else (D.write a (s.take 64)).2.writes (a + 1) (s.drop 64) k := rfl
theorem DiskAt.drewN {w : World} {b : DiskB} {D : Disk} (h : DiskAt w b D) (n : Nat) : DiskAt (w.drewN n) b D := ⟨h.ok, h.nodup, h.st, h.now, h.old, h.loose⟩

set_option maxHeartbeats 2000000 in
set_option maxRecDepth 100000 in
theorem page_write_ok {w : World} {b : DiskB} {D : Disk} (h : DiskAt w b D) (n : Nat) (ep kd : Int) (pl : Bytes) (hr : Page.right ⟨n, ep, kd, pl⟩ = true) (hl : pl.length ≤ 232) (hn : n < D.many) :
    Calls Tryz.prog 162 #[ptrV b.d, .agg #[intV n, intV ep, intV kd, strV pl]] w fun e w' =>
      e = .returned (intV (D.writes (2 + (n : Int) * 4) (Page.bytes ⟨n, ep, kd, pl⟩) 4).1) ∧ DiskAt w' b (D.writes (2 + (n : Int) * 4) (Page.bytes ⟨n, ep, kd, pl⟩) 4).2 ∧ Chg b.set w w' := by
  have hput := fun w => page_put_ok ⟨n, ep, kd, pl⟩ w hr hl
  have hn1 : n ≤ 1024 := by have := h.ok.few; unfold Disk.many Disk.sectors at hn; omega
  obtain ⟨s, hs⟩ : ∃ s, s = Page.bytes ⟨n, ep, kd, pl⟩ := ⟨_, rfl⟩
  have hsl : s.length = 256 := by subst hs; simp [Page.bytes, crcLay, crcFour, packI_length, be_length]; omega
  rw [← hs]
  simp only [← hs] at hput
  have HPUT := Lib.hid hput
  have hsec := page_sectors n
  have HSEC := Lib.hid hsec
  have hlt : (n : Int) < D.many := by omega
  have hn2 : (n : Int) ≤ 1024 := by omega
  have HH := Lib.hid h
  have HSL := Lib.hid hsl
  clear hput hs hsec hr hl hn h hsl
  go_enter Tryz.func162, Tryz.ntmps162
  go_wp2_with fail
  refine (HPUT.out _).mono ?_
  rintro e w1 ⟨rfl, hc1⟩
  have HB1 := Lib.hid ((Blk.new w 55 [intV n, intV ep, intV kd, strV pl]).kept hc1 (by simp))
  obtain ⟨⟨q0, -⟩, -⟩ := HB1.out.four
  have H1 := Lib.hid (HH.out.kept (((Chg.refl [] w).alloc (.cells #[intV n, intV ep, intV kd, strV pl] 55)).trans0 hc1) (by simp))
  go_wp2_with fail
  go_quiet ((go_at_call 151; exact quiet_kept (page_many (H1.out.drewN _))))
  go_wp2_with fail
  refine (HSEC.out _ (by omega)).mono ?_
  rintro e w2 ⟨rfl, hc2⟩
  have H2 := Lib.hid ((H1.out.drewN nq).kept hc2 (by simp))
  have C2 := Lib.hid ((((((Chg.refl b.set w).alloc (.cells #[intV n, intV ep, intV kd, strV pl] 55)).trans0 hc1)).drewN nq).trans0 hc2)
  go_wp2_with fail
  go_loopg [30] 4 (fun k i wr => ∃ j : Nat, k + j = 4 ∧ i = .int .i64 j ∧ ∃ Dj, DiskAt wr b Dj ∧ Chg b.set w wr ∧ Hid (D.writes (2 + (n : Int) * 4) s 4 = Dj.writes (2 + (n : Int) * 4 + j) (s.drop (64 * j)) k))
  case atStart => exact ⟨0, by omega, rfl, D, H2.out, C2.out, Lib.hid (by simp)⟩
  case round =>
    obtain ⟨j, hj, rfl, Dj, hd, hcw, HR⟩ := hrel
    have hj5 : j = 0 ∨ j = 1 ∨ j = 2 ∨ j = 3 ∨ j = 4 := by omega
    clear H2 C2 H1 HH HPUT HSEC HB1 q0
    rcases hj5 with rfl | rfl | rfl | rfl | rfl
    · obtain rfl : gk = 3 + 1 := by omega
      have hrun := HR.out
      rw [show (2 + (n : Int) * 4 + ((0 : Nat) : Int)) = 2 + (n : Int) * 4 by omega, show 64 * 0 = 0 from rfl] at hrun
      rw [writes_succ Dj] at hrun
      have hw := disk_write hd (2 + (n : Int) * 4) ((s.take 64).drop 0)
      have hcut : (s.drop 0).take 64 = (s.take 64).drop 0 := by rw [List.drop_take]
      rw [hcut, List.drop_drop, show (2 + (n : Int) * 4 + 1 : Int) = 2 + (n : Int) * 4 + ((1 : Nat) : Int) by omega] at hrun
      clear hcut
      generalize Dj.write (2 + (n : Int) * 4) ((s.take 64).drop 0) = r at *
      obtain ⟨re, rD⟩ := r
      have HW := Lib.hid hw
      have i1 : InStr2 (strV s) (.int .i64 0) (.int .i64 64) := InStr2.mk' (n := 0) (m := 64) (by omega) (by have := HSL.out; omega)
      have hidx : ∀ w, (Instr.index 176 (.agg #[intV (2 + (n : Int) * 4), intV (2 + (n : Int) * 4 + 1), intV (2 + (n : Int) * 4 + 2), intV (2 + (n : Int) * 4 + 3)]) (.int .i64 0)).run Tryz.prog w = .ok (intV (2 + (n : Int) * 4)) w := fun _ => by kernel_rfl
      clear hw
      by_cases hre : re = 0
      · subst hre
        have hrun' : D.writes (2 + (n : Int) * 4) s 4 = rD.writes (2 + (n : Int) * 4 + ((1 : Nat) : Int)) (s.drop (64 * 1)) 3 := hrun
        have HR2 := Lib.hid hrun'
        clear hrun hrun'
        go_wp2_with (go_at_call 37; refine HW.out.mono ?_; rintro e w3 ⟨rfl, hd3, hc3⟩)
        go_roundg 3
        case measure => omega
        case rel => exact ⟨1, by omega, by first | rfl | go_num, rD, hd3, hcw.trans1 hc3, HR2⟩
      · have hb1 : (re == 0) = false := by simpa using hre
        have hb2 : (re != 0) = true := by simpa using hre
        rw [if_pos hre] at hrun
        have HR2 := Lib.hid hrun
        clear hrun hre
        go_wp2_with (go_at_call 37; refine HW.out.mono ?_; rintro e w3 ⟨rfl, hd3, hc3⟩)
        go_ret
        rw [HR2.out]
        exact ⟨rfl, hd3, hcw.trans1 hc3⟩
    · obtain rfl : gk = 2 + 1 := by omega
      have hrun := HR.out
      rw [show (2 + (n : Int) * 4 + ((1 : Nat) : Int)) = 2 + (n : Int) * 4 + 1 by omega, show 64 * 1 = 64 from rfl] at hrun
      rw [writes_succ Dj] at hrun
      have hw := disk_write hd (2 + (n : Int) * 4 + 1) ((s.take 128).drop 64)
      have hcut : (s.drop 64).take 64 = (s.take 128).drop 64 := by rw [List.drop_take]
      rw [hcut, List.drop_drop, show (2 + (n : Int) * 4 + 1 + 1 : Int) = 2 + (n : Int) * 4 + ((2 : Nat) : Int) by omega] at hrun
      clear hcut
      generalize Dj.write (2 + (n : Int) * 4 + 1) ((s.take 128).drop 64) = r at *
      obtain ⟨re, rD⟩ := r
      have HW := Lib.hid hw
      have i1 : InStr2 (strV s) (.int .i64 64) (.int .i64 128) := InStr2.mk' (n := 64) (m := 128) (by omega) (by have := HSL.out; omega)
      have hidx : ∀ w, (Instr.index 176 (.agg #[intV (2 + (n : Int) * 4), intV (2 + (n : Int) * 4 + 1), intV (2 + (n : Int) * 4 + 2), intV (2 + (n : Int) * 4 + 3)]) (.int .i64 1)).run Tryz.prog w = .ok (intV (2 + (n : Int) * 4 + 1)) w := fun _ => by kernel_rfl
      clear hw
      by_cases hre : re = 0
      · subst hre
        have hrun' : D.writes (2 + (n : Int) * 4) s 4 = rD.writes (2 + (n : Int) * 4 + ((2 : Nat) : Int)) (s.drop (64 * 2)) 2 := hrun
        have HR2 := Lib.hid hrun'
        clear hrun hrun'
        go_wp2_with (go_at_call 37; refine HW.out.mono ?_; rintro e w3 ⟨rfl, hd3, hc3⟩)
        go_roundg 2
        case measure => omega
        case rel => exact ⟨2, by omega, by first | rfl | go_num, rD, hd3, hcw.trans1 hc3, HR2⟩
      · have hb1 : (re == 0) = false := by simpa using hre
        have hb2 : (re != 0) = true := by simpa using hre
        rw [if_pos hre] at hrun
        have HR2 := Lib.hid hrun
        clear hrun hre
        go_wp2_with (go_at_call 37; refine HW.out.mono ?_; rintro e w3 ⟨rfl, hd3, hc3⟩)
        go_ret
        rw [HR2.out]
        exact ⟨rfl, hd3, hcw.trans1 hc3⟩
    · obtain rfl : gk = 1 + 1 := by omega
      have hrun := HR.out
      rw [show (2 + (n : Int) * 4 + ((2 : Nat) : Int)) = 2 + (n : Int) * 4 + 2 by omega, show 64 * 2 = 128 from rfl] at hrun
      rw [writes_succ Dj] at hrun
      have hw := disk_write hd (2 + (n : Int) * 4 + 2) ((s.take 192).drop 128)
      have hcut : (s.drop 128).take 64 = (s.take 192).drop 128 := by rw [List.drop_take]
      rw [hcut, List.drop_drop, show (2 + (n : Int) * 4 + 2 + 1 : Int) = 2 + (n : Int) * 4 + ((3 : Nat) : Int) by omega] at hrun
      clear hcut
      generalize Dj.write (2 + (n : Int) * 4 + 2) ((s.take 192).drop 128) = r at *
      obtain ⟨re, rD⟩ := r
      have HW := Lib.hid hw
      have i1 : InStr2 (strV s) (.int .i64 128) (.int .i64 192) := InStr2.mk' (n := 128) (m := 192) (by omega) (by have := HSL.out; omega)
      have hidx : ∀ w, (Instr.index 176 (.agg #[intV (2 + (n : Int) * 4), intV (2 + (n : Int) * 4 + 1), intV (2 + (n : Int) * 4 + 2), intV (2 + (n : Int) * 4 + 3)]) (.int .i64 2)).run Tryz.prog w = .ok (intV (2 + (n : Int) * 4 + 2)) w := fun _ => by kernel_rfl
      clear hw
      by_cases hre : re = 0
      · subst hre
        have hrun' : D.writes (2 + (n : Int) * 4) s 4 = rD.writes (2 + (n : Int) * 4 + ((3 : Nat) : Int)) (s.drop (64 * 3)) 1 := hrun
        have HR2 := Lib.hid hrun'
        clear hrun hrun'
        go_wp2_with (go_at_call 37; refine HW.out.mono ?_; rintro e w3 ⟨rfl, hd3, hc3⟩)
        go_roundg 1
        case measure => omega
        case rel => exact ⟨3, by omega, by first | rfl | go_num, rD, hd3, hcw.trans1 hc3, HR2⟩
      · have hb1 : (re == 0) = false := by simpa using hre
        have hb2 : (re != 0) = true := by simpa using hre
        rw [if_pos hre] at hrun
        have HR2 := Lib.hid hrun
        clear hrun hre
        go_wp2_with (go_at_call 37; refine HW.out.mono ?_; rintro e w3 ⟨rfl, hd3, hc3⟩)
        go_ret
        rw [HR2.out]
        exact ⟨rfl, hd3, hcw.trans1 hc3⟩
    · obtain rfl : gk = 0 + 1 := by omega
      have hrun := HR.out
      rw [show (2 + (n : Int) * 4 + ((3 : Nat) : Int)) = 2 + (n : Int) * 4 + 3 by omega, show 64 * 3 = 192 from rfl] at hrun
      rw [writes_succ Dj] at hrun
      have hw := disk_write hd (2 + (n : Int) * 4 + 3) ((s.take 256).drop 192)
      have hcut : (s.drop 192).take 64 = (s.take 256).drop 192 := by rw [List.drop_take]
      rw [hcut, List.drop_drop, show (2 + (n : Int) * 4 + 3 + 1 : Int) = 2 + (n : Int) * 4 + ((4 : Nat) : Int) by omega] at hrun
      clear hcut
      generalize Dj.write (2 + (n : Int) * 4 + 3) ((s.take 256).drop 192) = r at *
      obtain ⟨re, rD⟩ := r
      have HW := Lib.hid hw
      have i1 : InStr2 (strV s) (.int .i64 192) (.int .i64 256) := InStr2.mk' (n := 192) (m := 256) (by omega) (by have := HSL.out; omega)
      have hidx : ∀ w, (Instr.index 176 (.agg #[intV (2 + (n : Int) * 4), intV (2 + (n : Int) * 4 + 1), intV (2 + (n : Int) * 4 + 2), intV (2 + (n : Int) * 4 + 3)]) (.int .i64 3)).run Tryz.prog w = .ok (intV (2 + (n : Int) * 4 + 3)) w := fun _ => by kernel_rfl
      clear hw
      by_cases hre : re = 0
      · subst hre
        have hrun' : D.writes (2 + (n : Int) * 4) s 4 = rD.writes (2 + (n : Int) * 4 + ((4 : Nat) : Int)) (s.drop (64 * 4)) 0 := hrun
        have HR2 := Lib.hid hrun'
        clear hrun hrun'
        go_wp2_with (go_at_call 37; refine HW.out.mono ?_; rintro e w3 ⟨rfl, hd3, hc3⟩)
        go_roundg 0
        case measure => omega
        case rel => exact ⟨4, by omega, by first | rfl | go_num, rD, hd3, hcw.trans1 hc3, HR2⟩
      · have hb1 : (re == 0) = false := by simpa using hre
        have hb2 : (re != 0) = true := by simpa using hre
        rw [if_pos hre] at hrun
        have HR2 := Lib.hid hrun
        clear hrun hre
        go_wp2_with (go_at_call 37; refine HW.out.mono ?_; rintro e w3 ⟨rfl, hd3, hc3⟩)
        go_ret
        rw [HR2.out]
        exact ⟨rfl, hd3, hcw.trans1 hc3⟩
    · obtain rfl : gk = 0 := by omega
      have hrun := HR.out
      rw [writes_zero Dj] at hrun
      have HR2 := Lib.hid hrun
      clear hrun
      go_wp2
      go_ret
      rw [HR2.out]
      exact ⟨rfl, hd, hcw⟩

end Go.Proofs.YtjbpdgknhbnfgaaGreat

namespace Go.Proofs.YtjbpdgknhbnfgaaGreat
open Go.RowKit

theorem Disk.read_ok {D : Disk} (hd : D.down = false) {i : Nat} (hi : i < D.loose.length) (x : Int) (hx : x = i) : D.read x = (Disk.sector D.now i, 0) := by
  subst hx
  unfold Disk.read Disk.at_
  simp [hd]
  omega
theorem Disk.read_down {D : Disk} (hd : D.down = true) (x : Int) : D.read x = ([], 13) := by
  unfold Disk.read Disk.at_
  simp [hd]

set_option maxHeartbeats 2000000 in
set_option maxRecDepth 100000 in
theorem page_read_down {w : World} {b : DiskB} {D : Disk} (h : DiskAt w b D) (n : Nat) (hn : n < D.many) (hdn : D.down = true) :
    Calls Tryz.prog 90 #[ptrV b.d, intV n] w fun e w' => e = .returned (.tuple #[pageV (pageRead D n).1, intV (pageRead D n).2]) ∧ Chg [] w w' := by
  have hn1 : n ≤ 1024 := by have := h.ok.few; unfold Disk.many Disk.sectors at hn; omega
  have hpr : pageRead D n = (.none, 13) := by unfold pageRead; rw [if_neg (by omega), if_pos hdn]
  rw [hpr]
  have HSEC := Lib.hid (page_sectors n)
  have hlt : (n : Int) < D.many := by omega
  have hn2 : (n : Int) ≤ 1024 := by omega
  have HRD := Lib.hid (fun x => Disk.read_down hdn x)
  have HH := Lib.hid h
  clear hpr hn h hdn
  go_enter Tryz.func90, Tryz.ntmps90
  go_wp2_with fail
  have H1 := Lib.hid (HH.out.kept ((Chg.refl [] w).alloc (.cells #[intV 0, intV 0, intV 0, .string ⟨#[]⟩] 55)) (by simp))
  refine (page_many H1.out).mono ?_
  rintro e w' ⟨rfl, rfl⟩
  go_wp2_with fail
  refine (HSEC.out _ (by omega)).mono ?_
  rintro e w2 ⟨rfl, hc2⟩
  have H2 := Lib.hid (H1.out.kept hc2 (by simp))
  have HR2 := Lib.hid ((Blk.new w 55 [intV 0, intV 0, intV 0, .string ⟨#[]⟩]).kept hc2 (by simp))
  obtain ⟨⟨q0, q1, q2, q3⟩, ⟨p0, p1, p2, p3⟩⟩ := HR2.out.four
  have hidx : ∀ w, (Instr.index 176 (.agg #[intV (2 + (n : Int) * 4), intV (2 + (n : Int) * 4 + 1), intV (2 + (n : Int) * 4 + 2), intV (2 + (n : Int) * 4 + 3)]) (.int .i64 0)).run Tryz.prog w = .ok (intV (2 + (n : Int) * 4)) w := fun _ => by kernel_rfl
  have hw := disk_read H2.out (2 + (n : Int) * 4)
  rw [HRD.out] at hw
  have HW := Lib.hid hw
  clear hw
  go_wp2_with fail
  refine wp_loop_rounds 1 ?_
  rw [rounds_succ]
  go_wp2_with (go_at_call 85; refine HW.out.mono ?_; rintro e w' ⟨rfl, rfl⟩)
  exact bodyPost_ret (v := .tuple #[.agg #[intV 0, intV 0, intV 0, strV []], intV 13]) (by simp [results, Tryz.results90, go_sem, q0, q1, q2, q3]) rfl
      ⟨rfl, ((((((Chg.refl [] w).alloc _).trans0 hc2).setCell _ _ (.inr (Nat.le_refl _))).setCell _ _ (.inr (Nat.le_refl _))).setCell _ _ (.inr (Nat.le_refl _))).setCell _ _ (.inr (Nat.le_refl _))⟩

theorem sector_next (l : Bytes) (n j : Nat) : (l.drop (64 * (2 + 4 * n))).take (64 * (j + 1)) = (l.drop (64 * (2 + 4 * n))).take (64 * j) ++ Disk.sector l (2 + 4 * n + j) := by
  unfold Disk.sector
  rw [show 64 * (j + 1) = 64 * j + 64 by omega, List.take_add, List.drop_drop, show 64 * (2 + 4 * n) + 64 * j = 64 * (2 + 4 * n + j) by omega]

set_option maxHeartbeats 1000000 in
set_option maxRecDepth 100000 in
theorem page_read_up {w : World} {b : DiskB} {D : Disk} (h : DiskAt w b D) (n : Nat) (hn : n < D.many) (hdn : D.down = false) :
    Calls Tryz.prog 90 #[ptrV b.d, intV n] w fun e w' => e = .returned (.tuple #[pageV (pageRead D n).1, intV (pageRead D n).2]) ∧ Chg [] w w' := by
  have hf := h.ok.few
  have hnow := h.ok.now
  have hn1 : n ≤ 1024 := by unfold Disk.many Disk.sectors at hn; omega
  have hn4 : 2 + 4 * n + 4 ≤ D.loose.length := by unfold Disk.many Disk.sectors at hn; omega
  obtain ⟨T, hT⟩ : ∃ T, T = D.now.drop (64 * (2 + 4 * n)) := ⟨_, rfl⟩
  have hTl : 256 ≤ T.length := by subst hT; simp; omega
  have hget := page_get (T.take 256)
  have hpr : pageRead D n = if (pageGet (T.take 256)).2 ≠ 0 then (.none, (pageGet (T.take 256)).2) else if (pageGet (T.take 256)).1.id ≠ n then (.none, 14) else ((pageGet (T.take 256)).1, 0) := by
    unfold pageRead
    rw [if_neg (by omega), if_neg (by simp [hdn])]
    subst hT
    rfl
  obtain ⟨⟨pid, pep, pkd, ppl⟩, pe, hpp⟩ : ∃ pg pe, pageGet (T.take 256) = (pg, pe) := ⟨_, _, rfl⟩
  rw [hpp] at hpr hget
  rw [hpr]
  clear hpp
  simp only []
  have HRD : Hid (∀ j : Nat, j < 4 → ∀ x : Int, x = 2 + (n : Int) * 4 + j → D.read x = (Disk.sector D.now (2 + 4 * n + j), 0)) := Lib.hid (fun j hj x hx => Disk.read_ok hdn (by omega) x (by omega))
  have HSE : Hid (∀ j : Nat, j < 4 → (Disk.sector D.now (2 + 4 * n + j)).length = 64) := Lib.hid (fun j hj => sector_length hnow (by omega))
  have HAP : Hid (∀ j : Nat, j < 4 → T.take (64 * (j + 1)) = T.take (64 * j) ++ Disk.sector D.now (2 + 4 * n + j)) := Lib.hid (fun j _ => by rw [hT]; exact sector_next _ _ _)
  have HG : Hid (∀ w : World, Calls Tryz.prog 153 #[strV (T.take 256)] w fun e w' => e = .returned (.tuple #[.agg #[intV pid, intV pep, intV pkd, strV ppl], intV pe]) ∧ Chg [] w w') := Lib.hid (fun w => hget w (by simp; omega))
  have HTL : Hid ((T.take 256).length = 256) := Lib.hid (by simp; omega)
  have HSEC := Lib.hid (page_sectors n)
  have hlt : (n : Int) < D.many := by omega
  have hn2 : (n : Int) ≤ 1024 := by omega
  have HH := Lib.hid h
  clear hpr hn h hdn hT hTl hget hf hnow hn4
  go_enter Tryz.func90, Tryz.ntmps90
  go_wp2_with fail
  have H1 := Lib.hid (HH.out.kept ((Chg.refl [] w).alloc (.cells #[intV 0, intV 0, intV 0, .string ⟨#[]⟩] 55)) (by simp))
  refine (page_many H1.out).mono ?_
  rintro e w' ⟨rfl, rfl⟩
  go_wp2_with fail
  refine (HSEC.out _ (by omega)).mono ?_
  rintro e w2 ⟨rfl, hc2⟩
  have H2 := Lib.hid (H1.out.kept hc2 (by simp))
  have HR2 := Lib.hid ((Blk.new w 55 [intV 0, intV 0, intV 0, .string ⟨#[]⟩]).kept hc2 (by simp))
  have HDB : Hid (∀ k ∈ b.set, w2.heap.size ≤ k → False) := Lib.hid (fun k hk hle => absurd (H2.out.lt k hk) (by omega))
  have HWP : Hid (w.heap.size < w2.heap.size) := Lib.hid HR2.out.lt
  have HWS : Hid (w.heap.size ≤ w2.heap.size) := Lib.hid (Nat.le_of_lt HWP.out)
  have HC2 : Hid (Chg [] w w2) := Lib.hid (((Chg.refl [] w).alloc _).trans0 hc2)
  clear hc2
  go_wp2_with fail
  go_loopg [6, 29] 4 (fun k v i wr => ∃ j : Nat, k + j = 4 ∧ i = .int .i64 j ∧ DiskAt wr b D ∧ Own wr 5 1 v (64 * j) (byts (T.take (64 * j))) ∧ Chg [] w wr ∧ (∀ k ∈ ownBlk v, w2.heap.size ≤ k) ∧
    Blk wr w.heap.size 55 [intV 0, intV 0, intV 0, .string ⟨#[]⟩] ∧ w2.heap.size ≤ wr.heap.size)
  case atStart => exact ⟨0, by omega, rfl, H2.out, by simpa [byts] using Own.nil _ _ _, HC2.out, by simp [ownBlk], HR2.out, Nat.le_refl _⟩
  case round =>
    obtain ⟨j, hj, rfl, hd, hown, hcw, hv, hR, hwr⟩ := hrel
    have hj5 : j = 0 ∨ j = 1 ∨ j = 2 ∨ j = 3 ∨ j = 4 := by omega
    clear H2 H1 HH HSEC HC2 HR2
    rcases hj5 with rfl | rfl | rfl | rfl | rfl
    · obtain rfl : gk = 3 + 1 := by omega
      have hown' : Own wr 5 1 u6 0 (byts (T.take 0)) := hown
      obtain ⟨ad, c, rfl, hnc, hcm⟩ := hown'.shape
      have HO := Lib.hid hown'
      have HV := Lib.hid hv
      have HWR := Lib.hid hwr
      have hw := disk_read hd (2 + (n : Int) * 4)
      rw [HRD.out 0 (by omega) (2 + (n : Int) * 4) (by omega)] at hw
      have hidx : ∀ w, (Instr.index 176 (.agg #[intV (2 + (n : Int) * 4), intV (2 + (n : Int) * 4 + 1), intV (2 + (n : Int) * 4 + 2), intV (2 + (n : Int) * 4 + 3)]) (.int .i64 0)).run Tryz.prog w = .ok (intV (2 + (n : Int) * 4)) w := fun _ => by kernel_rfl
      have hsec := HSE.out 0 (by omega)
      have hap : T.take 64 = T.take 0 ++ Disk.sector D.now (2 + 4 * n + 0) := HAP.out 0 (by omega)
      generalize Disk.sector D.now (2 + 4 * n + 0) = sec at *
      have HW2 := Lib.hid hw
      have HAP2 := Lib.hid hap
      have HSEC := Lib.hid hsec
      have HD := Lib.hid hd
      have HCW := Lib.hid hcw
      have HRB := Lib.hid hR
      clear hw hap hsec hown hown' hv hwr hd hcw hR
      go_wp2_with (first
        | (go_at_call 85; refine HW2.out.mono ?_; rintro e w' ⟨rfl, rfl⟩)
        | (refine wpList_append rfl (.tmp 42) (.tmp 43) 141 9 rfl 5 1 1 (bytV 0) Tryz.underlying141 info_u8 rfl (by omega) (.slice ad 0 c) 0 sec.length _ _ rfl HO.out (Src.ofString _ Tryz.underlying9 ⟨sec.toArray⟩) (by rw [HSEC.out]; omega) (by rw [HSEC.out]; unfold maxLen; omega) ?_; rw [HSEC.out]; intro ad' c' w3 hown3 hc3 hge3 hcm3 hkc3))
      go_roundg 3
      case measure => omega
      case rel =>
        refine ⟨1, by omega, by first | rfl | go_num, HD.out.kept hc3 (fun k hk hm => HDB.out k hk (HV.out k hm)), ?_, HCW.out.trans hc3 (fun k hk => .inr (Nat.le_trans HWS.out (HV.out k hk))), ?_, HRB.out.kept hc3 (fun hm => absurd (HV.out _ hm) (by have := HWP.out; omega)), Nat.le_trans HWR.out hc3.size⟩
        · show Own w3 5 1 (.slice ad' 64 c') 64 (byts (T.take 64))
          rw [HAP2.out]
          simpa [byts, byteCells] using hown3
        · intro k hk
          rcases hge3 k hk with h | h
          · exact HV.out k h
          · have := HWR.out
            omega
    · obtain rfl : gk = 2 + 1 := by omega
      have hown' : Own wr 5 1 u6 64 (byts (T.take 64)) := hown
      obtain ⟨ad, c, rfl, hnc, hcm⟩ := hown'.shape
      have HO := Lib.hid hown'
      have HV := Lib.hid hv
      have HWR := Lib.hid hwr
      have hw := disk_read hd (2 + (n : Int) * 4 + 1)
      rw [HRD.out 1 (by omega) (2 + (n : Int) * 4 + 1) (by omega)] at hw
      have hidx : ∀ w, (Instr.index 176 (.agg #[intV (2 + (n : Int) * 4), intV (2 + (n : Int) * 4 + 1), intV (2 + (n : Int) * 4 + 2), intV (2 + (n : Int) * 4 + 3)]) (.int .i64 1)).run Tryz.prog w = .ok (intV (2 + (n : Int) * 4 + 1)) w := fun _ => by kernel_rfl
      have hsec := HSE.out 1 (by omega)
      have hap : T.take 128 = T.take 64 ++ Disk.sector D.now (2 + 4 * n + 1) := HAP.out 1 (by omega)
      generalize Disk.sector D.now (2 + 4 * n + 1) = sec at *
      have HW2 := Lib.hid hw
      have HAP2 := Lib.hid hap
      have HSEC := Lib.hid hsec
      have HD := Lib.hid hd
      have HCW := Lib.hid hcw
      have HRB := Lib.hid hR
      clear hw hap hsec hown hown' hv hwr hd hcw hR
      go_wp2_with (first
        | (go_at_call 85; refine HW2.out.mono ?_; rintro e w' ⟨rfl, rfl⟩)
        | (refine wpList_append rfl (.tmp 42) (.tmp 43) 141 9 rfl 5 1 1 (bytV 0) Tryz.underlying141 info_u8 rfl (by omega) (.slice ad 64 c) 64 sec.length _ _ rfl HO.out (Src.ofString _ Tryz.underlying9 ⟨sec.toArray⟩) (by rw [HSEC.out]; omega) (by rw [HSEC.out]; unfold maxLen; omega) ?_; rw [HSEC.out]; intro ad' c' w3 hown3 hc3 hge3 hcm3 hkc3))
      go_roundg 2
      case measure => omega
      case rel =>
        refine ⟨2, by omega, by first | rfl | go_num, HD.out.kept hc3 (fun k hk hm => HDB.out k hk (HV.out k hm)), ?_, HCW.out.trans hc3 (fun k hk => .inr (Nat.le_trans HWS.out (HV.out k hk))), ?_, HRB.out.kept hc3 (fun hm => absurd (HV.out _ hm) (by have := HWP.out; omega)), Nat.le_trans HWR.out hc3.size⟩
        · show Own w3 5 1 (.slice ad' 128 c') 128 (byts (T.take 128))
          rw [HAP2.out]
          simpa [byts, byteCells] using hown3
        · intro k hk
          rcases hge3 k hk with h | h
          · exact HV.out k h
          · have := HWR.out
            omega
    · obtain rfl : gk = 1 + 1 := by omega
      have hown' : Own wr 5 1 u6 128 (byts (T.take 128)) := hown
      obtain ⟨ad, c, rfl, hnc, hcm⟩ := hown'.shape
      have HO := Lib.hid hown'
      have HV := Lib.hid hv
      have HWR := Lib.hid hwr
      have hw := disk_read hd (2 + (n : Int) * 4 + 2)
      rw [HRD.out 2 (by omega) (2 + (n : Int) * 4 + 2) (by omega)] at hw
      have hidx : ∀ w, (Instr.index 176 (.agg #[intV (2 + (n : Int) * 4), intV (2 + (n : Int) * 4 + 1), intV (2 + (n : Int) * 4 + 2), intV (2 + (n : Int) * 4 + 3)]) (.int .i64 2)).run Tryz.prog w = .ok (intV (2 + (n : Int) * 4 + 2)) w := fun _ => by kernel_rfl
      have hsec := HSE.out 2 (by omega)
      have hap : T.take 192 = T.take 128 ++ Disk.sector D.now (2 + 4 * n + 2) := HAP.out 2 (by omega)
      generalize Disk.sector D.now (2 + 4 * n + 2) = sec at *
      have HW2 := Lib.hid hw
      have HAP2 := Lib.hid hap
      have HSEC := Lib.hid hsec
      have HD := Lib.hid hd
      have HCW := Lib.hid hcw
      have HRB := Lib.hid hR
      clear hw hap hsec hown hown' hv hwr hd hcw hR
      go_wp2_with (first
        | (go_at_call 85; refine HW2.out.mono ?_; rintro e w' ⟨rfl, rfl⟩)
        | (refine wpList_append rfl (.tmp 42) (.tmp 43) 141 9 rfl 5 1 1 (bytV 0) Tryz.underlying141 info_u8 rfl (by omega) (.slice ad 128 c) 128 sec.length _ _ rfl HO.out (Src.ofString _ Tryz.underlying9 ⟨sec.toArray⟩) (by rw [HSEC.out]; omega) (by rw [HSEC.out]; unfold maxLen; omega) ?_; rw [HSEC.out]; intro ad' c' w3 hown3 hc3 hge3 hcm3 hkc3))
      go_roundg 1
      case measure => omega
      case rel =>
        refine ⟨3, by omega, by first | rfl | go_num, HD.out.kept hc3 (fun k hk hm => HDB.out k hk (HV.out k hm)), ?_, HCW.out.trans hc3 (fun k hk => .inr (Nat.le_trans HWS.out (HV.out k hk))), ?_, HRB.out.kept hc3 (fun hm => absurd (HV.out _ hm) (by have := HWP.out; omega)), Nat.le_trans HWR.out hc3.size⟩
        · show Own w3 5 1 (.slice ad' 192 c') 192 (byts (T.take 192))
          rw [HAP2.out]
          simpa [byts, byteCells] using hown3
        · intro k hk
          rcases hge3 k hk with h | h
          · exact HV.out k h
          · have := HWR.out
            omega
    · obtain rfl : gk = 0 + 1 := by omega
      have hown' : Own wr 5 1 u6 192 (byts (T.take 192)) := hown
      obtain ⟨ad, c, rfl, hnc, hcm⟩ := hown'.shape
      have HO := Lib.hid hown'
      have HV := Lib.hid hv
      have HWR := Lib.hid hwr
      have hw := disk_read hd (2 + (n : Int) * 4 + 3)
      rw [HRD.out 3 (by omega) (2 + (n : Int) * 4 + 3) (by omega)] at hw
      have hidx : ∀ w, (Instr.index 176 (.agg #[intV (2 + (n : Int) * 4), intV (2 + (n : Int) * 4 + 1), intV (2 + (n : Int) * 4 + 2), intV (2 + (n : Int) * 4 + 3)]) (.int .i64 3)).run Tryz.prog w = .ok (intV (2 + (n : Int) * 4 + 3)) w := fun _ => by kernel_rfl
      have hsec := HSE.out 3 (by omega)
      have hap : T.take 256 = T.take 192 ++ Disk.sector D.now (2 + 4 * n + 3) := HAP.out 3 (by omega)
      generalize Disk.sector D.now (2 + 4 * n + 3) = sec at *
      have HW2 := Lib.hid hw
      have HAP2 := Lib.hid hap
      have HSEC := Lib.hid hsec
      have HD := Lib.hid hd
      have HCW := Lib.hid hcw
      have HRB := Lib.hid hR
      clear hw hap hsec hown hown' hv hwr hd hcw hR
      go_wp2_with (first
        | (go_at_call 85; refine HW2.out.mono ?_; rintro e w' ⟨rfl, rfl⟩)
        | (refine wpList_append rfl (.tmp 42) (.tmp 43) 141 9 rfl 5 1 1 (bytV 0) Tryz.underlying141 info_u8 rfl (by omega) (.slice ad 192 c) 192 sec.length _ _ rfl HO.out (Src.ofString _ Tryz.underlying9 ⟨sec.toArray⟩) (by rw [HSEC.out]; omega) (by rw [HSEC.out]; unfold maxLen; omega) ?_; rw [HSEC.out]; intro ad' c' w3 hown3 hc3 hge3 hcm3 hkc3))
      go_roundg 0
      case measure => omega
      case rel =>
        refine ⟨4, by omega, by first | rfl | go_num, HD.out.kept hc3 (fun k hk hm => HDB.out k hk (HV.out k hm)), ?_, HCW.out.trans hc3 (fun k hk => .inr (Nat.le_trans HWS.out (HV.out k hk))), ?_, HRB.out.kept hc3 (fun hm => absurd (HV.out _ hm) (by have := HWP.out; omega)), Nat.le_trans HWR.out hc3.size⟩
        · show Own w3 5 1 (.slice ad' 256 c') 256 (byts (T.take 256))
          rw [HAP2.out]
          simpa [byts, byteCells] using hown3
        · intro k hk
          rcases hge3 k hk with h | h
          · exact HV.out k h
          · have := HWR.out
            omega
    · obtain rfl : gk = 0 := by omega
      have hown' : Own wr 5 1 u6 (T.take 256).length (byts (T.take 256)) := by rw [HTL.out]; exact hown
      have HO := Lib.hid hown'
      have HV := Lib.hid hv
      have HCW := Lib.hid hcw
      have HRB := Lib.hid hR
      clear hown hown' hv hcw hR hwr hd
      go_wp2_with (refine wpList_own_str rfl (.tmp 47) 141 9 5 rfl Tryz.underlying141 Tryz.underlying5 Tryz.underlying9 u6 (T.take 256) 5 rfl HO.out ?_)
      refine (HG.out _).mono ?_
      rintro e w5 ⟨rfl, hc5⟩
      have HR5 := Lib.hid (HRB.out.kept hc5 (by simp))
      have HP5 := Lib.hid (Blk.new w5 55 [intV pid, intV pep, intV pkd, strV ppl])
      have HRa := Lib.hid (HR5.out.alloc (.cells #[intV pid, intV pep, intV pkd, strV ppl] 55))
      obtain ⟨⟨q0, q1, q2, q3⟩, ⟨p0, p1, p2, p3⟩⟩ := HRa.out.four
      obtain ⟨⟨r0, r1, r2, r3⟩, -⟩ := HP5.out.four
      have HCE := Lib.hid ((HCW.out.trans0 hc5).alloc (.cells #[intV pid, intV pep, intV pkd, strV ppl] 55))
      clear HR5 HP5 HO HV HCW HRB hc5
      by_cases hpe : pe = 0
      · subst hpe
        by_cases hid : pid = n
        · subst hid
          go_wp2_with fail
          refine bodyPost_ret (v := .tuple #[.agg #[intV n, intV pep, intV pkd, strV ppl], intV 0]) (by simp [results, Tryz.results90, go_sem, q0, q1, q2, q3]) rfl ⟨?_, ?_⟩
          · rfl
          · exact ((((HCE.out.setCell _ _ (.inr (Nat.le_refl _))).setCell _ _ (.inr (Nat.le_refl _))).setCell _ _ (.inr (Nat.le_refl _))).setCell _ _ (.inr (Nat.le_refl _)))
        · have hb1 : (pid == (n : Int)) = false := by simpa using hid
          have hb2 : (pid != (n : Int)) = true := by simpa using hid
          go_wp2_with fail
          refine bodyPost_ret (v := .tuple #[.agg #[intV 0, intV 0, intV 0, strV []], intV 14]) (by simp [results, Tryz.results90, go_sem, q0, q1, q2, q3]) rfl ⟨?_, ?_⟩
          · rfl
          · exact ((((HCE.out.setCell _ _ (.inr (Nat.le_refl _))).setCell _ _ (.inr (Nat.le_refl _))).setCell _ _ (.inr (Nat.le_refl _))).setCell _ _ (.inr (Nat.le_refl _)))
      · have hb1 : (pe == 0) = false := by simpa using hpe
        have hb2 : (pe != 0) = true := by simpa using hpe
        go_wp2_with fail
        refine bodyPost_ret (v := .tuple #[.agg #[intV 0, intV 0, intV 0, strV []], intV pe]) (by simp [results, Tryz.results90, go_sem, q0, q1, q2, q3]) rfl ⟨?_, ?_⟩
        · rfl
        · exact ((((HCE.out.setCell _ _ (.inr (Nat.le_refl _))).setCell _ _ (.inr (Nat.le_refl _))).setCell _ _ (.inr (Nat.le_refl _))).setCell _ _ (.inr (Nat.le_refl _)))

theorem page_read {w : World} {b : DiskB} {D : Disk} (h : DiskAt w b D) (n : Nat) (hn : n < D.many) :
    Calls Tryz.prog 90 #[ptrV b.d, intV n] w fun e w' => e = .returned (.tuple #[pageV (pageRead D n).1, intV (pageRead D n).2]) ∧ Chg [] w w' := by
  cases hd : D.down
  · exact page_read_up h n hn hd
  · exact page_read_down h n hn hd

end Go.Proofs.YtjbpdgknhbnfgaaGreat
