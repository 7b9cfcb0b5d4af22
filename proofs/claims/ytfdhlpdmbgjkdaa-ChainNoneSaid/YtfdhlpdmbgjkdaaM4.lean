/- A part of the walks of the program's functions, each a contract that its caller uses; no condition but what each theorem names. The walk of page.Get. The walk of page.Write. The walk of page.Read. The walks of package root: two, Need, right, Put. The walk of root.Put at a root without parts. -/
import Derived.Test.YtfdhlpdmbgjkdaaM3
import Derived.Deep.RegionHeld3

namespace Go.Proofs.Ytfdhlpdmbgjkdaa
open Go.RowKit

theorem cut2_c {a : Act} {w : World} {x : Operand} {dst type pos after guard} (h : InStr2 (a.eval x) (.int .i64 16) (.int .i64 20)) :
    (execOp a.eval { dst := dst, op := .slice 9 x (some (.const (.int .i64 16))) (some (.const (.int .i64 20))) none, type := type, pos := pos, after := after, guard := guard }).run Try.prog w = .ok (.value (cut2 (a.eval x) (.int .i64 16) (.int .i64 20))) w :=
  exec_cut2 Try.underlying9 h
theorem cutLo20 {a : Act} {w : World} {x : Operand} {dst type pos after guard} (h : InStr (a.eval x) (.int .i64 20)) :
    (execOp a.eval { dst := dst, op := .slice 9 x (some (.const (.int .i64 20))) none none, type := type, pos := pos, after := after, guard := guard }).run Try.prog w = .ok (.value (cutLo (a.eval x) (.int .i64 20))) w :=
  exec_cutLo Try.underlying9 h
def zero4 (s : Bytes) : Bytes := [0, 0, 0, 0] ++ s
theorem add_zero4 {a : Act} {w : World} {y : Operand} {dst t t' type pos after guard} (h : IsStr (a.eval y)) :
    (execOp a.eval { dst := dst, op := .binOp .add t (.const (.string ⟨#[0, 0, 0, 0]⟩)) y t', type := type, pos := pos, after := after, guard := guard }).run Try.prog w = .ok (.value (strV (zero4 (strOf (a.eval y))))) w :=
  exec_add_str (x := .const (.string ⟨#[0, 0, 0, 0]⟩)) (IsStr.mk' (l := [0, 0, 0, 0]) (by simp)) h
theorem conv_u64_int {ρ : Operand → Value} {w : World} {x : Operand} {dst type pos after guard} (h : IsU64 (ρ x)) :
    (execOp ρ { dst := dst, op := .convert 118 3 x, type := type, pos := pos, after := after, guard := guard }).run Try.prog w = .ok (.value (.int .i64 (u64Of (ρ x)).toInt)) w :=
  exec_conv_u64_i64 Try.underlying118 Try.underlying3 h

attribute [local go_sem ↓] cut2_c cutLo20 add_zero4 conv_u64_int
attribute [local go_sem] u64Of_u64V isU64_u64V cutLo_str cut2_str strOf_strV

theorem drop_take_drop (l : Bytes) (a b : Nat) : (((l.drop 4).take b).drop a) = (l.drop (4 + a)).take (b - a) := by
  rw [List.drop_take, List.drop_drop]

theorem get64_zero4 (s : Bytes) (h : s.length = 4) : (get64 ((zero4 s).take 8)).toInt = (unbe s : Int) := by
  have h8 : (zero4 s).take 8 = zero4 s := List.take_of_length_le (by simp [zero4, h])
  have e : (get64 (zero4 s)).toNat = unbe s := by
    rw [get64_eq _ (by simp [zero4, h])]
    simp [zero4, unbe]
  have hlt := unbe_lt s
  rw [h] at hlt
  have : (256 : Nat) ^ 4 = 4294967296 := by decide
  rw [h8, BitVec.toInt_eq_toNat_cond, e]
  split
  · rfl
  · omega

theorem readI_0 (l : Bytes) (w : World) (hl : l.length = 252) :
    Calls Try.prog 94 #[strV l, .int .i64 0] w fun e w' => e = .returned (.tuple #[intV (unpackI (l.take 8)), intV 8, intV 0]) ∧ w = w' := pack_readI l 0 w (by omega) (by omega)
theorem readI_8 (l : Bytes) (w : World) (hl : l.length = 252) :
    Calls Try.prog 94 #[strV l, .int .i64 8] w fun e w' => e = .returned (.tuple #[intV (unpackI ((l.drop 8).take 8)), intV 16, intV 0]) ∧ w = w' := pack_readI l 8 w (by omega) (by omega)
theorem readU_0 (s : Bytes) (w : World) (hl : s.length = 4) :
    Calls Try.prog 95 #[strV (zero4 s), .int .i64 0] w fun e w' => e = .returned (.tuple #[u64V (get64 ((zero4 s).take 8)), intV 8, intV 0]) ∧ w = w' := pack_readU (zero4 s) 0 w (by simp [zero4]; omega) (by simp [zero4]; omega)

set_option maxHeartbeats 1000000 in
set_option maxRecDepth 100000 in
theorem page_get (l : Bytes) (w : World) (hl : l.length = 256) :
    Calls Try.prog 91 #[strV l] w fun e w' => e = .returned (.tuple #[pageV (pageGet l).1, intV (pageGet l).2]) ∧ Chg [] w w' := by
  unfold pageGet
  rw [if_neg (by simp [hl])]
  by_cases hok : crcOk l = true
  · rw [if_neg (by simp [hok])]
    have hc : crcCut l = (l.drop 4, 0) := by unfold crcCut; rw [if_neg (by omega), if_neg (by simp [hok])]
    have hcall := crc_cut l
    rw [hc] at hcall
    have HC := Lib.hid hcall
    have hl' : ((l.length : Nat) : Int) = 256 := by omega
    clear hc hcall hok
    obtain ⟨b, hb⟩ : ∃ b, b = l.drop 4 := ⟨_, rfl⟩
    have hbl : b.length = 252 := by subst hb; simp; omega
    have hpg : pageOf l = ⟨unpackI (b.take 8), unpackI ((b.drop 8).take 8), unbe ((b.take 20).drop 16), b.drop 20⟩ := by
      subst hb
      simp [pageOf, List.drop_take]
    rw [hpg]
    have HC' : Hid (∀ w : World, Calls Try.prog 93 #[strV l] w fun e w' => e = .returned (.tuple #[strV b, intV 0]) ∧ Chg [] w w') := Lib.hid (fun w => by subst hb; exact HC.out w (by omega) (by omega))
    have hk4 : ((b.take 20).drop 16).length = 4 := by simp; omega
    have i1 : InStr2 (strV b) (.int .i64 16) (.int .i64 20) := InStr2.mk' (n := 16) (m := 20) (by omega) (by omega)
    have i2 : InStr (strV b) (.int .i64 20) := InStr.mk' (n := 20) (by omega)
    have i3 : IsStr (strV ((b.take 20).drop 16)) := IsStr.mk' (by omega)
    have HK := Lib.hid hk4
    have hU := get64_zero4 _ hk4
    have hI1 := fun w => readI_0 b w hbl
    have hI2 := fun w => readI_8 b w hbl
    obtain ⟨x1, hx1⟩ : ∃ x, x = unpackI (b.take 8) := ⟨_, rfl⟩
    obtain ⟨x2, hx2⟩ : ∃ x, x = unpackI ((b.drop 8).take 8) := ⟨_, rfl⟩
    obtain ⟨x3, hx3⟩ : ∃ x : Int, x = (unbe ((b.take 20).drop 16) : Int) := ⟨_, rfl⟩
    obtain ⟨x4, hx4⟩ : ∃ x, x = b.drop 20 := ⟨_, rfl⟩
    rw [← hx1, ← hx2, ← hx3, ← hx4]
    rw [← hx3] at hU
    simp only [← hx1] at hI1
    simp only [← hx2] at hI2
    have HI1 := Lib.hid hI1
    have HI2 := Lib.hid hI2
    have hd4 : b.drop 20 = x4 := hx4.symm
    clear hpg HC hb hbl hk4 hx1 hx2 hx3 hx4 hI1 hI2
    have hpr := fun w => page_right x1 x2 x3 x4 w
    obtain ⟨rb, hrb⟩ : ∃ rb, rb = Page.right ⟨x1, x2, x3, x4⟩ := ⟨_, rfl⟩
    rw [← hrb]
    simp only [← hrb] at hpr
    have HPR := Lib.hid hpr
    clear hpr hrb
    have hR : Blk (w.alloc (.cells #[intV 0, intV 0, intV 0, .string ⟨#[]⟩] 126)) w.heap.size 126 [intV 0, intV 0, intV 0, .string ⟨#[]⟩] := Blk.new w _ _
    have HR := Lib.hid hR
    clear hR
    go_enter Try.func91, Try.ntmps91
    go_wp2_with fail
    refine (HC'.out _).mono ?_
    rintro e w1 ⟨rfl, hc1⟩
    have HR1 := Lib.hid (HR.out.kept hc1 (by simp))
    go_wp2_with fail
    refine (HI1.out _).mono ?_
    rintro e w' ⟨rfl, rfl⟩
    go_wp2_with fail
    refine (HI2.out _).mono ?_
    rintro e w' ⟨rfl, rfl⟩
    go_wp2_with fail
    refine (readU_0 _ _ HK.out).mono ?_
    rintro e w' ⟨rfl, rfl⟩
    have HRb := Lib.hid (HR1.out.alloc (.cells #[intV x1, intV x2, intV x3, strV x4] 126))
    have HBb := Lib.hid (Blk.new w1 126 [intV x1, intV x2, intV x3, strV x4])
    go_wp2_with fail
    refine (HPR.out _).mono ?_
    rintro e w2 ⟨rfl, hc2⟩
    have HR2 := Lib.hid (HRb.out.kept hc2 (by simp))
    have HB2 := Lib.hid (HBb.out.kept hc2 (by simp))
    obtain ⟨⟨q0, q1, q2, q3⟩, ⟨p0, p1, p2, p3⟩⟩ := HR2.out.four
    obtain ⟨⟨r0, r1, r2, r3⟩, -⟩ := HB2.out.four
    cases rb with
    | true =>
      go_wp2_with fail
      exact bodyPost_ret (v := .tuple #[.agg #[intV x1, intV x2, intV x3, strV x4], intV 0]) (by simp [results, Try.results91, go_sem, q0, q1, q2, q3]) rfl
        ⟨rfl, (((((((Chg.refl [] w).alloc _).trans0 hc1).alloc _).trans0 hc2).setCell _ _ (.inr (Nat.le_refl _))).setCell _ _ (.inr (Nat.le_refl _))).setCell _ _ (.inr (Nat.le_refl _)) |>.setCell _ _ (.inr (Nat.le_refl _))⟩
    | false =>
      go_wp2_with fail
      exact bodyPost_ret (v := .tuple #[.agg #[intV 0, intV 0, intV 0, strV []], intV 14]) (by simp [results, Try.results91, go_sem, q0, q1, q2, q3]) rfl
        ⟨rfl, (((((((Chg.refl [] w).alloc _).trans0 hc1).alloc _).trans0 hc2).setCell _ _ (.inr (Nat.le_refl _))).setCell _ _ (.inr (Nat.le_refl _))).setCell _ _ (.inr (Nat.le_refl _)) |>.setCell _ _ (.inr (Nat.le_refl _))⟩
  · rw [if_pos (by simpa using hok)]
    have hc : crcCut l = ([], 14) := by unfold crcCut; rw [if_neg (by omega), if_pos (by simpa using hok)]
    have hcall := crc_cut l
    rw [hc] at hcall
    have HC := Lib.hid hcall
    have hl' : ((l.length : Nat) : Int) = 256 := by omega
    clear hc hcall hok
    have hR : Blk (w.alloc (.cells #[intV 0, intV 0, intV 0, .string ⟨#[]⟩] 126)) w.heap.size 126 [intV 0, intV 0, intV 0, .string ⟨#[]⟩] := Blk.new w _ _
    have HR := Lib.hid hR
    clear hR
    go_enter Try.func91, Try.ntmps91
    go_wp2_with fail
    refine (HC.out _ (by omega) (by omega)).mono ?_
    rintro e w1 ⟨rfl, hc1⟩
    have HR1 := Lib.hid (HR.out.kept hc1 (by simp))
    obtain ⟨⟨q0, q1, q2, q3⟩, ⟨p0, p1, p2, p3⟩⟩ := HR1.out.four
    go_wp2_with fail
    exact bodyPost_ret (v := .tuple #[.agg #[intV 0, intV 0, intV 0, strV []], intV 14]) (by simp [results, Try.results91, go_sem, q0, q1, q2, q3]) rfl
      ⟨rfl, ((((((Chg.refl [] w).alloc _).trans0 hc1).setCell _ _ (.inr (Nat.le_refl _))).setCell _ _ (.inr (Nat.le_refl _))).setCell _ _ (.inr (Nat.le_refl _))).setCell _ _ (.inr (Nat.le_refl _))⟩

end Go.Proofs.Ytfdhlpdmbgjkdaa

namespace Go.Proofs.Ytfdhlpdmbgjkdaa
open Go.RowKit

attribute [local go_sem ↓] cut2_any
attribute [local go_sem] cut2_str

theorem writes_zero (D : Disk) (a : Int) (s : Bytes) : D.writes a s 0 = (0, D) := rfl
theorem writes_succ (D : Disk) (a : Int) (s : Bytes) (k : Nat) :
    D.writes a s (k + 1) = if (D.write a (s.take 64)).1 ≠ 0 then D.write a (s.take 64) else (D.write a (s.take 64)).2.writes (a + 1) (s.drop 64) k := rfl
theorem DiskAt.drewN {w : World} {b : DiskB} {D : Disk} (h : DiskAt w b D) (n : Nat) : DiskAt (w.drewN n) b D := ⟨h.ok, h.nodup, h.st, h.now, h.old, h.loose⟩

set_option maxHeartbeats 2000000 in
set_option maxRecDepth 100000 in
theorem page_write_ok {w : World} {b : DiskB} {D : Disk} (h : DiskAt w b D) (n : Nat) (ep kd : Int) (pl : Bytes) (hr : Page.right ⟨n, ep, kd, pl⟩ = true) (hl : pl.length ≤ 232) (hn : n < D.many) :
    Calls Try.prog 70 #[ptrV b.d, .agg #[intV n, intV ep, intV kd, strV pl]] w fun e w' =>
      e = .returned (intV (D.writes (2 + (n : Int) * 4) (Page.bytes ⟨n, ep, kd, pl⟩) 4).1) ∧ DiskAt w' b (D.writes (2 + (n : Int) * 4) (Page.bytes ⟨n, ep, kd, pl⟩) 4).2 ∧ Chg b.set w w' := by
  have hput := fun w => page_put_ok ⟨n, ep, kd, pl⟩ w hr hl
  have hn1 : n ≤ 1024 := by have := h.ok.few; unfold Disk.many Disk.sectors at hn; omega
  obtain ⟨s, hs⟩ : ∃ s, s = Page.bytes ⟨n, ep, kd, pl⟩ := ⟨_, rfl⟩
  have hsl : s.length = 256 := by subst hs; simp [Page.bytes, crcLay, crcFour, packI_length, be_length]; omega
  rw [← hs]
  simp only [← hs] at hput
  have HPUT := Lib.hid hput
  have hsec := page_sectors n
  have HSEC := Lib.hid hsec
  have hlt : (n : Int) < D.many := by omega
  have hn2 : (n : Int) ≤ 1024 := by omega
  have HH := Lib.hid h
  have HSL := Lib.hid hsl
  clear hput hs hsec hr hl hn h hsl
  go_enter Try.func70, Try.ntmps70
  go_wp2_with fail
  refine (HPUT.out _).mono ?_
  rintro e w1 ⟨rfl, hc1⟩
  have HB1 := Lib.hid ((Blk.new w 126 [intV n, intV ep, intV kd, strV pl]).kept hc1 (by simp))
  obtain ⟨⟨q0, -⟩, -⟩ := HB1.out.four
  have H1 := Lib.hid (HH.out.kept (((Chg.refl [] w).alloc (.cells #[intV n, intV ep, intV kd, strV pl] 126)).trans0 hc1) (by simp))
  go_wp2_with fail
  go_quiet ((go_at_call 41; exact quiet_kept (page_many (H1.out.drewN _))))
  go_wp2_with fail
  refine (HSEC.out _ (by omega)).mono ?_
  rintro e w2 ⟨rfl, hc2⟩
  have H2 := Lib.hid ((H1.out.drewN nq).kept hc2 (by simp))
  have C2 := Lib.hid ((((((Chg.refl b.set w).alloc (.cells #[intV n, intV ep, intV kd, strV pl] 126)).trans0 hc1)).drewN nq).trans0 hc2)
  go_wp2_with fail
  go_loopg [30] 4 (fun k i wr => ∃ j : Nat, k + j = 4 ∧ i = .int .i64 j ∧ ∃ Dj, DiskAt wr b Dj ∧ Chg b.set w wr ∧ Hid (D.writes (2 + (n : Int) * 4) s 4 = Dj.writes (2 + (n : Int) * 4 + j) (s.drop (64 * j)) k))
  case atStart => exact ⟨0, by omega, rfl, D, H2.out, C2.out, Lib.hid (by simp)⟩
  case round =>
    obtain ⟨j, hj, rfl, Dj, hd, hcw, HR⟩ := hrel
    have hj5 : j = 0 ∨ j = 1 ∨ j = 2 ∨ j = 3 ∨ j = 4 := by omega
    clear H2 C2 H1 HH HPUT HSEC HB1 q0
    rcases hj5 with rfl | rfl | rfl | rfl | rfl
    · obtain rfl : gk = 3 + 1 := by omega
      have hrun := HR.out
      rw [show (2 + (n : Int) * 4 + ((0 : Nat) : Int)) = 2 + (n : Int) * 4 by omega, show 64 * 0 = 0 from rfl] at hrun
      rw [writes_succ Dj] at hrun
      have hw := disk_write hd (2 + (n : Int) * 4) ((s.take 64).drop 0)
      have hcut : (s.drop 0).take 64 = (s.take 64).drop 0 := by rw [List.drop_take]
      rw [hcut, List.drop_drop, show (2 + (n : Int) * 4 + 1 : Int) = 2 + (n : Int) * 4 + ((1 : Nat) : Int) by omega] at hrun
      clear hcut
      generalize Dj.write (2 + (n : Int) * 4) ((s.take 64).drop 0) = r at *
      obtain ⟨re, rD⟩ := r
      have HW := Lib.hid hw
      have i1 : InStr2 (strV s) (.int .i64 0) (.int .i64 64) := InStr2.mk' (n := 0) (m := 64) (by omega) (by have := HSL.out; omega)
      have hidx : ∀ w, (Instr.index 129 (.agg #[intV (2 + (n : Int) * 4), intV (2 + (n : Int) * 4 + 1), intV (2 + (n : Int) * 4 + 2), intV (2 + (n : Int) * 4 + 3)]) (.int .i64 0)).run Try.prog w = .ok (intV (2 + (n : Int) * 4)) w := fun _ => by kernel_rfl
      clear hw
      by_cases hre : re = 0
      · subst hre
        have hrun' : D.writes (2 + (n : Int) * 4) s 4 = rD.writes (2 + (n : Int) * 4 + ((1 : Nat) : Int)) (s.drop (64 * 1)) 3 := hrun
        have HR2 := Lib.hid hrun'
        clear hrun hrun'
        go_wp2_with (go_at_call 32; refine HW.out.mono ?_; rintro e w3 ⟨rfl, hd3, hc3⟩)
        go_roundg 3
        case measure => omega
        case rel => exact ⟨1, by omega, by first | rfl | go_num, rD, hd3, hcw.trans1 hc3, HR2⟩
      · have hb1 : (re == 0) = false := by simpa using hre
        have hb2 : (re != 0) = true := by simpa using hre
        rw [if_pos hre] at hrun
        have HR2 := Lib.hid hrun
        clear hrun hre
        go_wp2_with (go_at_call 32; refine HW.out.mono ?_; rintro e w3 ⟨rfl, hd3, hc3⟩)
        go_ret
        rw [HR2.out]
        exact ⟨rfl, hd3, hcw.trans1 hc3⟩
    · obtain rfl : gk = 2 + 1 := by omega
      have hrun := HR.out
      rw [show (2 + (n : Int) * 4 + ((1 : Nat) : Int)) = 2 + (n : Int) * 4 + 1 by omega, show 64 * 1 = 64 from rfl] at hrun
      rw [writes_succ Dj] at hrun
      have hw := disk_write hd (2 + (n : Int) * 4 + 1) ((s.take 128).drop 64)
      have hcut : (s.drop 64).take 64 = (s.take 128).drop 64 := by rw [List.drop_take]
      rw [hcut, List.drop_drop, show (2 + (n : Int) * 4 + 1 + 1 : Int) = 2 + (n : Int) * 4 + ((2 : Nat) : Int) by omega] at hrun
      clear hcut
      generalize Dj.write (2 + (n : Int) * 4 + 1) ((s.take 128).drop 64) = r at *
      obtain ⟨re, rD⟩ := r
      have HW := Lib.hid hw
      have i1 : InStr2 (strV s) (.int .i64 64) (.int .i64 128) := InStr2.mk' (n := 64) (m := 128) (by omega) (by have := HSL.out; omega)
      have hidx : ∀ w, (Instr.index 129 (.agg #[intV (2 + (n : Int) * 4), intV (2 + (n : Int) * 4 + 1), intV (2 + (n : Int) * 4 + 2), intV (2 + (n : Int) * 4 + 3)]) (.int .i64 1)).run Try.prog w = .ok (intV (2 + (n : Int) * 4 + 1)) w := fun _ => by kernel_rfl
      clear hw
      by_cases hre : re = 0
      · subst hre
        have hrun' : D.writes (2 + (n : Int) * 4) s 4 = rD.writes (2 + (n : Int) * 4 + ((2 : Nat) : Int)) (s.drop (64 * 2)) 2 := hrun
        have HR2 := Lib.hid hrun'
        clear hrun hrun'
        go_wp2_with (go_at_call 32; refine HW.out.mono ?_; rintro e w3 ⟨rfl, hd3, hc3⟩)
        go_roundg 2
        case measure => omega
        case rel => exact ⟨2, by omega, by first | rfl | go_num, rD, hd3, hcw.trans1 hc3, HR2⟩
      · have hb1 : (re == 0) = false := by simpa using hre
        have hb2 : (re != 0) = true := by simpa using hre
        rw [if_pos hre] at hrun
        have HR2 := Lib.hid hrun
        clear hrun hre
        go_wp2_with (go_at_call 32; refine HW.out.mono ?_; rintro e w3 ⟨rfl, hd3, hc3⟩)
        go_ret
        rw [HR2.out]
        exact ⟨rfl, hd3, hcw.trans1 hc3⟩
    · obtain rfl : gk = 1 + 1 := by omega
      have hrun := HR.out
      rw [show (2 + (n : Int) * 4 + ((2 : Nat) : Int)) = 2 + (n : Int) * 4 + 2 by omega, show 64 * 2 = 128 from rfl] at hrun
      rw [writes_succ Dj] at hrun
      have hw := disk_write hd (2 + (n : Int) * 4 + 2) ((s.take 192).drop 128)
      have hcut : (s.drop 128).take 64 = (s.take 192).drop 128 := by rw [List.drop_take]
      rw [hcut, List.drop_drop, show (2 + (n : Int) * 4 + 2 + 1 : Int) = 2 + (n : Int) * 4 + ((3 : Nat) : Int) by omega] at hrun
      clear hcut
      generalize Dj.write (2 + (n : Int) * 4 + 2) ((s.take 192).drop 128) = r at *
      obtain ⟨re, rD⟩ := r
      have HW := Lib.hid hw
      have i1 : InStr2 (strV s) (.int .i64 128) (.int .i64 192) := InStr2.mk' (n := 128) (m := 192) (by omega) (by have := HSL.out; omega)
      have hidx : ∀ w, (Instr.index 129 (.agg #[intV (2 + (n : Int) * 4), intV (2 + (n : Int) * 4 + 1), intV (2 + (n : Int) * 4 + 2), intV (2 + (n : Int) * 4 + 3)]) (.int .i64 2)).run Try.prog w = .ok (intV (2 + (n : Int) * 4 + 2)) w := fun _ => by kernel_rfl
      clear hw
      by_cases hre : re = 0
      · subst hre
        have hrun' : D.writes (2 + (n : Int) * 4) s 4 = rD.writes (2 + (n : Int) * 4 + ((3 : Nat) : Int)) (s.drop (64 * 3)) 1 := hrun
        have HR2 := Lib.hid hrun'
        clear hrun hrun'
        go_wp2_with (go_at_call 32; refine HW.out.mono ?_; rintro e w3 ⟨rfl, hd3, hc3⟩)
        go_roundg 1
        case measure => omega
        case rel => exact ⟨3, by omega, by first | rfl | go_num, rD, hd3, hcw.trans1 hc3, HR2⟩
      · have hb1 : (re == 0) = false := by simpa using hre
        have hb2 : (re != 0) = true := by simpa using hre
        rw [if_pos hre] at hrun
        have HR2 := Lib.hid hrun
        clear hrun hre
        go_wp2_with (go_at_call 32; refine HW.out.mono ?_; rintro e w3 ⟨rfl, hd3, hc3⟩)
        go_ret
        rw [HR2.out]
        exact ⟨rfl, hd3, hcw.trans1 hc3⟩
    · obtain rfl : gk = 0 + 1 := by omega
      have hrun := HR.out
      rw [show (2 + (n : Int) * 4 + ((3 : Nat) : Int)) = 2 + (n : Int) * 4 + 3 by omega, show 64 * 3 = 192 from rfl] at hrun
      rw [writes_succ Dj] at hrun
      have hw := disk_write hd (2 + (n : Int) * 4 + 3) ((s.take 256).drop 192)
      have hcut : (s.drop 192).take 64 = (s.take 256).drop 192 := by rw [List.drop_take]
      rw [hcut, List.drop_drop, show (2 + (n : Int) * 4 + 3 + 1 : Int) = 2 + (n : Int) * 4 + ((4 : Nat) : Int) by omega] at hrun
      clear hcut
      generalize Dj.write (2 + (n : Int) * 4 + 3) ((s.take 256).drop 192) = r at *
      obtain ⟨re, rD⟩ := r
      have HW := Lib.hid hw
      have i1 : InStr2 (strV s) (.int .i64 192) (.int .i64 256) := InStr2.mk' (n := 192) (m := 256) (by omega) (by have := HSL.out; omega)
      have hidx : ∀ w, (Instr.index 129 (.agg #[intV (2 + (n : Int) * 4), intV (2 + (n : Int) * 4 + 1), intV (2 + (n : Int) * 4 + 2), intV (2 + (n : Int) * 4 + 3)]) (.int .i64 3)).run Try.prog w = .ok (intV (2 + (n : Int) * 4 + 3)) w := fun _ => by kernel_rfl
      clear hw
      by_cases hre : re = 0
      · subst hre
        have hrun' : D.writes (2 + (n : Int) * 4) s 4 = rD.writes (2 + (n : Int) * 4 + ((4 : Nat) : Int)) (s.drop (64 * 4)) 0 := hrun
        have HR2 := Lib.hid hrun'
        clear hrun hrun'
        go_wp2_with (go_at_call 32; refine HW.out.mono ?_; rintro e w3 ⟨rfl, hd3, hc3⟩)
        go_roundg 0
        case measure => omega
        case rel => exact ⟨4, by omega, by first | rfl | go_num, rD, hd3, hcw.trans1 hc3, HR2⟩
      · have hb1 : (re == 0) = false := by simpa using hre
        have hb2 : (re != 0) = true := by simpa using hre
        rw [if_pos hre] at hrun
        have HR2 := Lib.hid hrun
        clear hrun hre
        go_wp2_with (go_at_call 32; refine HW.out.mono ?_; rintro e w3 ⟨rfl, hd3, hc3⟩)
        go_ret
        rw [HR2.out]
        exact ⟨rfl, hd3, hcw.trans1 hc3⟩
    · obtain rfl : gk = 0 := by omega
      have hrun := HR.out
      rw [writes_zero Dj] at hrun
      have HR2 := Lib.hid hrun
      clear hrun
      go_wp2
      go_ret
      rw [HR2.out]
      exact ⟨rfl, hd, hcw⟩

end Go.Proofs.Ytfdhlpdmbgjkdaa

namespace Go.Proofs.Ytfdhlpdmbgjkdaa
open Go.RowKit

theorem Disk.read_ok {D : Disk} (hd : D.down = false) {i : Nat} (hi : i < D.loose.length) (x : Int) (hx : x = i) : D.read x = (Disk.sector D.now i, 0) := by
  subst hx
  unfold Disk.read Disk.at_
  simp [hd]
  omega
theorem Disk.read_down {D : Disk} (hd : D.down = true) (x : Int) : D.read x = ([], 13) := by
  unfold Disk.read Disk.at_
  simp [hd]

set_option maxHeartbeats 2000000 in
set_option maxRecDepth 100000 in
theorem page_read_down {w : World} {b : DiskB} {D : Disk} (h : DiskAt w b D) (n : Nat) (hn : n < D.many) (hdn : D.down = true) :
    Calls Try.prog 83 #[ptrV b.d, intV n] w fun e w' => e = .returned (.tuple #[pageV (pageRead D n).1, intV (pageRead D n).2]) ∧ Chg [] w w' := by
  have hn1 : n ≤ 1024 := by have := h.ok.few; unfold Disk.many Disk.sectors at hn; omega
  have hpr : pageRead D n = (.none, 13) := by unfold pageRead; rw [if_neg (by omega), if_pos hdn]
  rw [hpr]
  have HSEC := Lib.hid (page_sectors n)
  have hlt : (n : Int) < D.many := by omega
  have hn2 : (n : Int) ≤ 1024 := by omega
  have HRD := Lib.hid (fun x => Disk.read_down hdn x)
  have HH := Lib.hid h
  clear hpr hn h hdn
  go_enter Try.func83, Try.ntmps83
  go_wp2_with fail
  have H1 := Lib.hid (HH.out.kept ((Chg.refl [] w).alloc (.cells #[intV 0, intV 0, intV 0, .string ⟨#[]⟩] 126)) (by simp))
  refine (page_many H1.out).mono ?_
  rintro e w' ⟨rfl, rfl⟩
  go_wp2_with fail
  refine (HSEC.out _ (by omega)).mono ?_
  rintro e w2 ⟨rfl, hc2⟩
  have H2 := Lib.hid (H1.out.kept hc2 (by simp))
  have HR2 := Lib.hid ((Blk.new w 126 [intV 0, intV 0, intV 0, .string ⟨#[]⟩]).kept hc2 (by simp))
  obtain ⟨⟨q0, q1, q2, q3⟩, ⟨p0, p1, p2, p3⟩⟩ := HR2.out.four
  have hidx : ∀ w, (Instr.index 129 (.agg #[intV (2 + (n : Int) * 4), intV (2 + (n : Int) * 4 + 1), intV (2 + (n : Int) * 4 + 2), intV (2 + (n : Int) * 4 + 3)]) (.int .i64 0)).run Try.prog w = .ok (intV (2 + (n : Int) * 4)) w := fun _ => by kernel_rfl
  have hw := disk_read H2.out (2 + (n : Int) * 4)
  rw [HRD.out] at hw
  have HW := Lib.hid hw
  clear hw
  go_wp2_with fail
  refine wp_loop_rounds 1 ?_
  rw [rounds_succ]
  go_wp2_with (go_at_call 90; refine HW.out.mono ?_; rintro e w' ⟨rfl, rfl⟩)
  exact bodyPost_ret (v := .tuple #[.agg #[intV 0, intV 0, intV 0, strV []], intV 13]) (by simp [results, Try.results83, go_sem, q0, q1, q2, q3]) rfl
      ⟨rfl, ((((((Chg.refl [] w).alloc _).trans0 hc2).setCell _ _ (.inr (Nat.le_refl _))).setCell _ _ (.inr (Nat.le_refl _))).setCell _ _ (.inr (Nat.le_refl _))).setCell _ _ (.inr (Nat.le_refl _))⟩

theorem sector_next (l : Bytes) (n j : Nat) : (l.drop (64 * (2 + 4 * n))).take (64 * (j + 1)) = (l.drop (64 * (2 + 4 * n))).take (64 * j) ++ Disk.sector l (2 + 4 * n + j) := by
  unfold Disk.sector
  rw [show 64 * (j + 1) = 64 * j + 64 by omega, List.take_add, List.drop_drop, show 64 * (2 + 4 * n) + 64 * j = 64 * (2 + 4 * n + j) by omega]

set_option maxHeartbeats 1000000 in
set_option maxRecDepth 100000 in
theorem page_read_up {w : World} {b : DiskB} {D : Disk} (h : DiskAt w b D) (n : Nat) (hn : n < D.many) (hdn : D.down = false) :
    Calls Try.prog 83 #[ptrV b.d, intV n] w fun e w' => e = .returned (.tuple #[pageV (pageRead D n).1, intV (pageRead D n).2]) ∧ Chg [] w w' := by
  have hf := h.ok.few
  have hnow := h.ok.now
  have hn1 : n ≤ 1024 := by unfold Disk.many Disk.sectors at hn; omega
  have hn4 : 2 + 4 * n + 4 ≤ D.loose.length := by unfold Disk.many Disk.sectors at hn; omega
  obtain ⟨T, hT⟩ : ∃ T, T = D.now.drop (64 * (2 + 4 * n)) := ⟨_, rfl⟩
  have hTl : 256 ≤ T.length := by subst hT; simp; omega
  have hget := page_get (T.take 256)
  have hpr : pageRead D n = if (pageGet (T.take 256)).2 ≠ 0 then (.none, (pageGet (T.take 256)).2) else if (pageGet (T.take 256)).1.id ≠ n then (.none, 14) else ((pageGet (T.take 256)).1, 0) := by
    unfold pageRead
    rw [if_neg (by omega), if_neg (by simp [hdn])]
    subst hT
    rfl
  obtain ⟨⟨pid, pep, pkd, ppl⟩, pe, hpp⟩ : ∃ pg pe, pageGet (T.take 256) = (pg, pe) := ⟨_, _, rfl⟩
  rw [hpp] at hpr hget
  rw [hpr]
  clear hpp
  simp only []
  have HRD : Hid (∀ j : Nat, j < 4 → ∀ x : Int, x = 2 + (n : Int) * 4 + j → D.read x = (Disk.sector D.now (2 + 4 * n + j), 0)) := Lib.hid (fun j hj x hx => Disk.read_ok hdn (by omega) x (by omega))
  have HSE : Hid (∀ j : Nat, j < 4 → (Disk.sector D.now (2 + 4 * n + j)).length = 64) := Lib.hid (fun j hj => sector_length hnow (by omega))
  have HAP : Hid (∀ j : Nat, j < 4 → T.take (64 * (j + 1)) = T.take (64 * j) ++ Disk.sector D.now (2 + 4 * n + j)) := Lib.hid (fun j _ => by rw [hT]; exact sector_next _ _ _)
  have HG : Hid (∀ w : World, Calls Try.prog 91 #[strV (T.take 256)] w fun e w' => e = .returned (.tuple #[.agg #[intV pid, intV pep, intV pkd, strV ppl], intV pe]) ∧ Chg [] w w') := Lib.hid (fun w => hget w (by simp; omega))
  have HTL : Hid ((T.take 256).length = 256) := Lib.hid (by simp; omega)
  have HSEC := Lib.hid (page_sectors n)
  have hlt : (n : Int) < D.many := by omega
  have hn2 : (n : Int) ≤ 1024 := by omega
  have HH := Lib.hid h
  clear hpr hn h hdn hT hTl hget hf hnow hn4
  go_enter Try.func83, Try.ntmps83
  go_wp2_with fail
  have H1 := Lib.hid (HH.out.kept ((Chg.refl [] w).alloc (.cells #[intV 0, intV 0, intV 0, .string ⟨#[]⟩] 126)) (by simp))
  refine (page_many H1.out).mono ?_
  rintro e w' ⟨rfl, rfl⟩
  go_wp2_with fail
  refine (HSEC.out _ (by omega)).mono ?_
  rintro e w2 ⟨rfl, hc2⟩
  have H2 := Lib.hid (H1.out.kept hc2 (by simp))
  have HR2 := Lib.hid ((Blk.new w 126 [intV 0, intV 0, intV 0, .string ⟨#[]⟩]).kept hc2 (by simp))
  have HDB : Hid (∀ k ∈ b.set, w2.heap.size ≤ k → False) := Lib.hid (fun k hk hle => absurd (H2.out.lt k hk) (by omega))
  have HWP : Hid (w.heap.size < w2.heap.size) := Lib.hid HR2.out.lt
  have HWS : Hid (w.heap.size ≤ w2.heap.size) := Lib.hid (Nat.le_of_lt HWP.out)
  have HC2 : Hid (Chg [] w w2) := Lib.hid (((Chg.refl [] w).alloc _).trans0 hc2)
  clear hc2
  go_wp2_with fail
  go_loopg [6, 29] 4 (fun k v i wr => ∃ j : Nat, k + j = 4 ∧ i = .int .i64 j ∧ DiskAt wr b D ∧ Own wr 5 1 v (64 * j) (byts (T.take (64 * j))) ∧ Chg [] w wr ∧ (∀ k ∈ ownBlk v, w2.heap.size ≤ k) ∧
    Blk wr w.heap.size 126 [intV 0, intV 0, intV 0, .string ⟨#[]⟩] ∧ w2.heap.size ≤ wr.heap.size)
  case atStart => exact ⟨0, by omega, rfl, H2.out, by simpa [byts] using Own.nil _ _ _, HC2.out, by simp [ownBlk], HR2.out, Nat.le_refl _⟩
  case round =>
    obtain ⟨j, hj, rfl, hd, hown, hcw, hv, hR, hwr⟩ := hrel
    have hj5 : j = 0 ∨ j = 1 ∨ j = 2 ∨ j = 3 ∨ j = 4 := by omega
    clear H2 H1 HH HSEC HC2 HR2
    rcases hj5 with rfl | rfl | rfl | rfl | rfl
    · obtain rfl : gk = 3 + 1 := by omega
      have hown' : Own wr 5 1 u6 0 (byts (T.take 0)) := hown
      obtain ⟨ad, c, rfl, hnc, hcm⟩ := hown'.shape
      have HO := Lib.hid hown'
      have HV := Lib.hid hv
      have HWR := Lib.hid hwr
      have hw := disk_read hd (2 + (n : Int) * 4)
      rw [HRD.out 0 (by omega) (2 + (n : Int) * 4) (by omega)] at hw
      have hidx : ∀ w, (Instr.index 129 (.agg #[intV (2 + (n : Int) * 4), intV (2 + (n : Int) * 4 + 1), intV (2 + (n : Int) * 4 + 2), intV (2 + (n : Int) * 4 + 3)]) (.int .i64 0)).run Try.prog w = .ok (intV (2 + (n : Int) * 4)) w := fun _ => by kernel_rfl
      have hsec := HSE.out 0 (by omega)
      have hap : T.take 64 = T.take 0 ++ Disk.sector D.now (2 + 4 * n + 0) := HAP.out 0 (by omega)
      generalize Disk.sector D.now (2 + 4 * n + 0) = sec at *
      have HW2 := Lib.hid hw
      have HAP2 := Lib.hid hap
      have HSEC := Lib.hid hsec
      have HD := Lib.hid hd
      have HCW := Lib.hid hcw
      have HRB := Lib.hid hR
      clear hw hap hsec hown hown' hv hwr hd hcw hR
      go_wp2_with (first
        | (go_at_call 90; refine HW2.out.mono ?_; rintro e w' ⟨rfl, rfl⟩)
        | (refine wpList_append rfl (.tmp 42) (.tmp 43) 65 9 rfl 5 1 1 (bytV 0) Try.underlying65 info_u8 rfl (by omega) (.slice ad 0 c) 0 sec.length _ _ rfl HO.out (Src.ofString _ Try.underlying9 ⟨sec.toArray⟩) (by rw [HSEC.out]; omega) (by rw [HSEC.out]; unfold maxLen; omega) ?_; rw [HSEC.out]; intro ad' c' w3 hown3 hc3 hge3 hcm3 hkc3))
      go_roundg 3
      case measure => omega
      case rel =>
        refine ⟨1, by omega, by first | rfl | go_num, HD.out.kept hc3 (fun k hk hm => HDB.out k hk (HV.out k hm)), ?_, HCW.out.trans hc3 (fun k hk => .inr (Nat.le_trans HWS.out (HV.out k hk))), ?_, HRB.out.kept hc3 (fun hm => absurd (HV.out _ hm) (by have := HWP.out; omega)), Nat.le_trans HWR.out hc3.size⟩
        · show Own w3 5 1 (.slice ad' 64 c') 64 (byts (T.take 64))
          rw [HAP2.out]
          simpa [byts, byteCells] using hown3
        · intro k hk
          rcases hge3 k hk with h | h
          · exact HV.out k h
          · have := HWR.out
            omega
    · obtain rfl : gk = 2 + 1 := by omega
      have hown' : Own wr 5 1 u6 64 (byts (T.take 64)) := hown
      obtain ⟨ad, c, rfl, hnc, hcm⟩ := hown'.shape
      have HO := Lib.hid hown'
      have HV := Lib.hid hv
      have HWR := Lib.hid hwr
      have hw := disk_read hd (2 + (n : Int) * 4 + 1)
      rw [HRD.out 1 (by omega) (2 + (n : Int) * 4 + 1) (by omega)] at hw
      have hidx : ∀ w, (Instr.index 129 (.agg #[intV (2 + (n : Int) * 4), intV (2 + (n : Int) * 4 + 1), intV (2 + (n : Int) * 4 + 2), intV (2 + (n : Int) * 4 + 3)]) (.int .i64 1)).run Try.prog w = .ok (intV (2 + (n : Int) * 4 + 1)) w := fun _ => by kernel_rfl
      have hsec := HSE.out 1 (by omega)
      have hap : T.take 128 = T.take 64 ++ Disk.sector D.now (2 + 4 * n + 1) := HAP.out 1 (by omega)
      generalize Disk.sector D.now (2 + 4 * n + 1) = sec at *
      have HW2 := Lib.hid hw
      have HAP2 := Lib.hid hap
      have HSEC := Lib.hid hsec
      have HD := Lib.hid hd
      have HCW := Lib.hid hcw
      have HRB := Lib.hid hR
      clear hw hap hsec hown hown' hv hwr hd hcw hR
      go_wp2_with (first
        | (go_at_call 90; refine HW2.out.mono ?_; rintro e w' ⟨rfl, rfl⟩)
        | (refine wpList_append rfl (.tmp 42) (.tmp 43) 65 9 rfl 5 1 1 (bytV 0) Try.underlying65 info_u8 rfl (by omega) (.slice ad 64 c) 64 sec.length _ _ rfl HO.out (Src.ofString _ Try.underlying9 ⟨sec.toArray⟩) (by rw [HSEC.out]; omega) (by rw [HSEC.out]; unfold maxLen; omega) ?_; rw [HSEC.out]; intro ad' c' w3 hown3 hc3 hge3 hcm3 hkc3))
      go_roundg 2
      case measure => omega
      case rel =>
        refine ⟨2, by omega, by first | rfl | go_num, HD.out.kept hc3 (fun k hk hm => HDB.out k hk (HV.out k hm)), ?_, HCW.out.trans hc3 (fun k hk => .inr (Nat.le_trans HWS.out (HV.out k hk))), ?_, HRB.out.kept hc3 (fun hm => absurd (HV.out _ hm) (by have := HWP.out; omega)), Nat.le_trans HWR.out hc3.size⟩
        · show Own w3 5 1 (.slice ad' 128 c') 128 (byts (T.take 128))
          rw [HAP2.out]
          simpa [byts, byteCells] using hown3
        · intro k hk
          rcases hge3 k hk with h | h
          · exact HV.out k h
          · have := HWR.out
            omega
    · obtain rfl : gk = 1 + 1 := by omega
      have hown' : Own wr 5 1 u6 128 (byts (T.take 128)) := hown
      obtain ⟨ad, c, rfl, hnc, hcm⟩ := hown'.shape
      have HO := Lib.hid hown'
      have HV := Lib.hid hv
      have HWR := Lib.hid hwr
      have hw := disk_read hd (2 + (n : Int) * 4 + 2)
      rw [HRD.out 2 (by omega) (2 + (n : Int) * 4 + 2) (by omega)] at hw
      have hidx : ∀ w, (Instr.index 129 (.agg #[intV (2 + (n : Int) * 4), intV (2 + (n : Int) * 4 + 1), intV (2 + (n : Int) * 4 + 2), intV (2 + (n : Int) * 4 + 3)]) (.int .i64 2)).run Try.prog w = .ok (intV (2 + (n : Int) * 4 + 2)) w := fun _ => by kernel_rfl
      have hsec := HSE.out 2 (by omega)
      have hap : T.take 192 = T.take 128 ++ Disk.sector D.now (2 + 4 * n + 2) := HAP.out 2 (by omega)
      generalize Disk.sector D.now (2 + 4 * n + 2) = sec at *
      have HW2 := Lib.hid hw
      have HAP2 := Lib.hid hap
      have HSEC := Lib.hid hsec
      have HD := Lib.hid hd
      have HCW := Lib.hid hcw
      have HRB := Lib.hid hR
      clear hw hap hsec hown hown' hv hwr hd hcw hR
      go_wp2_with (first
        | (go_at_call 90; refine HW2.out.mono ?_; rintro e w' ⟨rfl, rfl⟩)
        | (refine wpList_append rfl (.tmp 42) (.tmp 43) 65 9 rfl 5 1 1 (bytV 0) Try.underlying65 info_u8 rfl (by omega) (.slice ad 128 c) 128 sec.length _ _ rfl HO.out (Src.ofString _ Try.underlying9 ⟨sec.toArray⟩) (by rw [HSEC.out]; omega) (by rw [HSEC.out]; unfold maxLen; omega) ?_; rw [HSEC.out]; intro ad' c' w3 hown3 hc3 hge3 hcm3 hkc3))
      go_roundg 1
      case measure => omega
      case rel =>
        refine ⟨3, by omega, by first | rfl | go_num, HD.out.kept hc3 (fun k hk hm => HDB.out k hk (HV.out k hm)), ?_, HCW.out.trans hc3 (fun k hk => .inr (Nat.le_trans HWS.out (HV.out k hk))), ?_, HRB.out.kept hc3 (fun hm => absurd (HV.out _ hm) (by have := HWP.out; omega)), Nat.le_trans HWR.out hc3.size⟩
        · show Own w3 5 1 (.slice ad' 192 c') 192 (byts (T.take 192))
          rw [HAP2.out]
          simpa [byts, byteCells] using hown3
        · intro k hk
          rcases hge3 k hk with h | h
          · exact HV.out k h
          · have := HWR.out
            omega
    · obtain rfl : gk = 0 + 1 := by omega
      have hown' : Own wr 5 1 u6 192 (byts (T.take 192)) := hown
      obtain ⟨ad, c, rfl, hnc, hcm⟩ := hown'.shape
      have HO := Lib.hid hown'
      have HV := Lib.hid hv
      have HWR := Lib.hid hwr
      have hw := disk_read hd (2 + (n : Int) * 4 + 3)
      rw [HRD.out 3 (by omega) (2 + (n : Int) * 4 + 3) (by omega)] at hw
      have hidx : ∀ w, (Instr.index 129 (.agg #[intV (2 + (n : Int) * 4), intV (2 + (n : Int) * 4 + 1), intV (2 + (n : Int) * 4 + 2), intV (2 + (n : Int) * 4 + 3)]) (.int .i64 3)).run Try.prog w = .ok (intV (2 + (n : Int) * 4 + 3)) w := fun _ => by kernel_rfl
      have hsec := HSE.out 3 (by omega)
      have hap : T.take 256 = T.take 192 ++ Disk.sector D.now (2 + 4 * n + 3) := HAP.out 3 (by omega)
      generalize Disk.sector D.now (2 + 4 * n + 3) = sec at *
      have HW2 := Lib.hid hw
      have HAP2 := Lib.hid hap
      have HSEC := Lib.hid hsec
      have HD := Lib.hid hd
      have HCW := Lib.hid hcw
      have HRB := Lib.hid hR
      clear hw hap hsec hown hown' hv hwr hd hcw hR
      go_wp2_with (first
        | (go_at_call 90; refine HW2.out.mono ?_; rintro e w' ⟨rfl, rfl⟩)
        | (refine wpList_append rfl (.tmp 42) (.tmp 43) 65 9 rfl 5 1 1 (bytV 0) Try.underlying65 info_u8 rfl (by omega) (.slice ad 192 c) 192 sec.length _ _ rfl HO.out (Src.ofString _ Try.underlying9 ⟨sec.toArray⟩) (by rw [HSEC.out]; omega) (by rw [HSEC.out]; unfold maxLen; omega) ?_; rw [HSEC.out]; intro ad' c' w3 hown3 hc3 hge3 hcm3 hkc3))
      go_roundg 0
      case measure => omega
      case rel =>
        refine ⟨4, by omega, by first | rfl | go_num, HD.out.kept hc3 (fun k hk hm => HDB.out k hk (HV.out k hm)), ?_, HCW.out.trans hc3 (fun k hk => .inr (Nat.le_trans HWS.out (HV.out k hk))), ?_, HRB.out.kept hc3 (fun hm => absurd (HV.out _ hm) (by have := HWP.out; omega)), Nat.le_trans HWR.out hc3.size⟩
        · show Own w3 5 1 (.slice ad' 256 c') 256 (byts (T.take 256))
          rw [HAP2.out]
          simpa [byts, byteCells] using hown3
        · intro k hk
          rcases hge3 k hk with h | h
          · exact HV.out k h
          · have := HWR.out
            omega
    · obtain rfl : gk = 0 := by omega
      have hown' : Own wr 5 1 u6 (T.take 256).length (byts (T.take 256)) := by rw [HTL.out]; exact hown
      have HO := Lib.hid hown'
      have HV := Lib.hid hv
      have HCW := Lib.hid hcw
      have HRB := Lib.hid hR
      clear hown hown' hv hcw hR hwr hd
      go_wp2_with (refine wpList_own_str rfl (.tmp 47) 65 9 5 rfl Try.underlying65 Try.underlying5 Try.underlying9 u6 (T.take 256) 5 rfl HO.out ?_)
      refine (HG.out _).mono ?_
      rintro e w5 ⟨rfl, hc5⟩
      have HR5 := Lib.hid (HRB.out.kept hc5 (by simp))
      have HP5 := Lib.hid (Blk.new w5 126 [intV pid, intV pep, intV pkd, strV ppl])
      have HRa := Lib.hid (HR5.out.alloc (.cells #[intV pid, intV pep, intV pkd, strV ppl] 126))
      obtain ⟨⟨q0, q1, q2, q3⟩, ⟨p0, p1, p2, p3⟩⟩ := HRa.out.four
      obtain ⟨⟨r0, r1, r2, r3⟩, -⟩ := HP5.out.four
      have HCE := Lib.hid ((HCW.out.trans0 hc5).alloc (.cells #[intV pid, intV pep, intV pkd, strV ppl] 126))
      clear HR5 HP5 HO HV HCW HRB hc5
      by_cases hpe : pe = 0
      · subst hpe
        by_cases hid : pid = n
        · subst hid
          go_wp2_with fail
          refine bodyPost_ret (v := .tuple #[.agg #[intV n, intV pep, intV pkd, strV ppl], intV 0]) (by simp [results, Try.results83, go_sem, q0, q1, q2, q3]) rfl ⟨?_, ?_⟩
          · rfl
          · exact ((((HCE.out.setCell _ _ (.inr (Nat.le_refl _))).setCell _ _ (.inr (Nat.le_refl _))).setCell _ _ (.inr (Nat.le_refl _))).setCell _ _ (.inr (Nat.le_refl _)))
        · have hb1 : (pid == (n : Int)) = false := by simpa using hid
          have hb2 : (pid != (n : Int)) = true := by simpa using hid
          go_wp2_with fail
          refine bodyPost_ret (v := .tuple #[.agg #[intV 0, intV 0, intV 0, strV []], intV 14]) (by simp [results, Try.results83, go_sem, q0, q1, q2, q3]) rfl ⟨?_, ?_⟩
          · rfl
          · exact ((((HCE.out.setCell _ _ (.inr (Nat.le_refl _))).setCell _ _ (.inr (Nat.le_refl _))).setCell _ _ (.inr (Nat.le_refl _))).setCell _ _ (.inr (Nat.le_refl _)))
      · have hb1 : (pe == 0) = false := by simpa using hpe
        have hb2 : (pe != 0) = true := by simpa using hpe
        go_wp2_with fail
        refine bodyPost_ret (v := .tuple #[.agg #[intV 0, intV 0, intV 0, strV []], intV pe]) (by simp [results, Try.results83, go_sem, q0, q1, q2, q3]) rfl ⟨?_, ?_⟩
        · rfl
        · exact ((((HCE.out.setCell _ _ (.inr (Nat.le_refl _))).setCell _ _ (.inr (Nat.le_refl _))).setCell _ _ (.inr (Nat.le_refl _))).setCell _ _ (.inr (Nat.le_refl _)))

theorem page_read {w : World} {b : DiskB} {D : Disk} (h : DiskAt w b D) (n : Nat) (hn : n < D.many) :
    Calls Try.prog 83 #[ptrV b.d, intV n] w fun e w' => e = .returned (.tuple #[pageV (pageRead D n).1, intV (pageRead D n).2]) ∧ Chg [] w w' := by
  cases hd : D.down
  · exact page_read_up h n hn hd
  · exact page_read_down h n hn hd

end Go.Proofs.Ytfdhlpdmbgjkdaa

namespace Go.Proofs.Ytfdhlpdmbgjkdaa
open Go.RowKit

theorem byt_mod (n : Int) : bytV (UInt8.ofNat (n % 256).toNat) = .int .u8 (n % 256) := by
  have h1 : (UInt8.ofNat (n % 256).toNat).toNat = (n % 256).toNat := by
    simp
    omega
  show Value.int .u8 ((UInt8.ofNat (n % 256).toNat).toNat : Int) = _
  rw [h1]
  congr 1
  omega

theorem src_two {P : Program} {tx e' : TypeId} (hk : P.underlying tx = some (.slice e')) (w : World) (x y : Value) (hx : x.oneCell' = true) (hy : y.oneCell' = true) (T : TypeId) :
    Src P 1 tx (.slice (some ⟨w.heap.size, 0, none⟩) 2 2) 2 [x, y] (w.alloc (.cells #[x, y] T)) := by
  refine Src.ofSlice (w.alloc (.cells #[x, y] T)) hk ⟨w.heap.size, 0, none⟩ 2 2 [x, y] (by simp) ?_ (by intro u hu; simp at hu; rcases hu with rfl | rfl <;> assumption)
  intro j u hu
  rw [add_spot, (Blk.new w T [x, y]).cell, Nat.zero_add]
  exact hu

theorem root_two {w : World} {v : Value} {xs : Bytes} (h : Own w 5 1 v xs.length (byts xs)) (n : Int) (h0 : 0 ≤ n) (h1 : n ≤ 65535) (hl : xs.length ≤ 60000) :
    Calls Try.prog 43 #[v, intV n] w fun e w' => ∃ v', e = .returned v' ∧ Own w' 5 1 v' (xs ++ two n).length (byts (xs ++ two n)) ∧ Chg (ownBlk v) w w' ∧ ∀ k ∈ ownBlk v', k ∈ ownBlk v ∨ w.heap.size ≤ k := by
  obtain ⟨ad, c, rfl, hnc, hcm⟩ := h.shape
  have HO := Lib.hid h
  clear h
  go_enter Try.func43, Try.ntmps43
  have hby : byts (xs ++ two n) = byts xs ++ [.int .u8 (n / 256), .int .u8 (n % 256)] := by
    have e1 := byt_mod (n / 256)
    have e2 := byt_mod n
    rw [show n / 256 % 256 = n / 256 by omega] at e1
    unfold byts
    rw [List.map_append]
    simp only [two, List.map_cons, List.map_nil]
    rw [show n / 256 % 256 = n / 256 by omega, e1, e2]
  have HB := Lib.hid hby
  clear hby
  go_wp2_with (refine wpList_append rfl (.tmp 5) (.tmp 11) 65 65 rfl 5 1 1 (bytV 0) Try.underlying65 info_u8 rfl (by omega) (.slice ad xs.length c) xs.length 2 _ _ rfl (HO.out.alloc _) (src_two Try.underlying65 w (.int .u8 (n / 256)) (.int .u8 (n % 256)) rfl rfl 5) (by omega) (by unfold maxLen; omega) ?_; intro ad' c' w2 hown2 hc2 hge2 hcm2 hkc2)
  go_ret
  refine ⟨_, rfl, ?_, ((Chg.refl _ _).alloc _).trans1 hc2, ?_⟩
  · rw [HB.out, List.length_append]
    exact hown2
  · intro k hk
    rcases hge2 k hk with h | h
    · exact .inl h
    · simp at h
      exact .inr (by omega)

theorem root_need (n : Int) (w : World) (h0 : 0 ≤ n) (h1 : n ≤ 60000) :
    Calls Try.prog 58 #[intV n] w fun e w' => e = .returned (intV (rootNeed n)) ∧ w = w' := by
  unfold rootNeed
  by_cases h : n < 1
  · rw [if_pos h]
    go_enter Try.func58, Try.ntmps58
    go_wp2
    go_ret
    exact ⟨rfl, rfl⟩
  · rw [if_neg h]
    go_enter Try.func58, Try.ntmps58
    go_wp2
    go_ret
    exact ⟨rfl, rfl⟩

set_option maxHeartbeats 1000000 in
theorem root_right_empty (e : Int) (w : World) (h0 : 1 ≤ e) (h1 : e ≤ 1099511627776) :
    Calls Try.prog 42 #[.agg #[intV e, intV 0, .slice none 0 0]] w fun e w' => e = .returned (.bool true) ∧ Chg [] w w' := by
  have hnd := fun w => root_need 0 w (by omega) (by omega)
  have HN := Lib.hid hnd
  clear hnd
  have f1 : decide (e < 1) = false := by simp; omega
  have f2 : decide (1099511627776 < e) = false := by simp; omega
  have f3 : ((0 : Int) != rootNeed 0) = false := by decide
  go_enter Try.func42, Try.ntmps42
  go_wp2_with fail
  go_quiet ((go_at_call 58; exact quiet_kept (HN.out _)))
  go_wp2_with fail
  try (refine wp_loop_rounds 1 ?_; rw [rounds_succ]; go_wp2_with fail)
  go_ret
  exact ⟨rfl, ((Chg.refl _ _).alloc _).drewN _⟩

end Go.Proofs.Ytfdhlpdmbgjkdaa

namespace Go.Proofs.Ytfdhlpdmbgjkdaa
open Go.RowKit

theorem own_new_not {v v0 : Value} {n b : Nat} (h : ∀ k ∈ ownBlk v, k ∈ ownBlk v0 ∨ n ≤ k) (h0 : b ∉ ownBlk v0) (hb : b < n) : b ∉ ownBlk v := by
  intro hk
  rcases h b hk with h1 | h1
  · exact h0 h1
  · omega

/-- the state while root.Put fills its body with zeros -/
structure ZSt (w w1 wr : World) (v : Value) (n : Nat) (ep : Int) : Prop where
  own : Own wr 5 1 v n (byts (List.replicate n 0))
  chg : Chg [] w wr
  new : ∀ k ∈ ownBlk v, w1.heap.size ≤ k
  blk : Blk wr w.heap.size 81 [intV ep, intV 0, .slice none 0 0]
  size : w1.heap.size ≤ wr.heap.size
  lt : w.heap.size < w1.heap.size

theorem ZSt.on {w w1 wr w2 : World} {v : Value} {n : Nat} {ep : Int} (h : ZSt w w1 wr v n ep) (hc : Chg [] wr w2) : ZSt w w1 w2 v n ep :=
  ⟨h.own.kept hc (by simp), h.chg.trans0 hc, h.new, h.blk.kept hc (by simp), Nat.le_trans h.size hc.size, h.lt⟩

theorem ZSt.step {w w1 wr w2 : World} {v v' : Value} {n m : Nat} {ep : Int} (h : ZSt w w1 wr v n ep) (hc : Chg (ownBlk v) wr w2)
    (ho : Own w2 5 1 v' m (byts (List.replicate m 0))) (hn : ∀ k ∈ ownBlk v', k ∈ ownBlk v ∨ wr.heap.size ≤ k) : ZSt w w1 w2 v' m ep :=
  ⟨ho, h.chg.trans hc (fun k hk => .inr (by have := h.new k hk; have := h.lt; omega)), fun k hk => by
      rcases hn k hk with h1 | h1
      · exact h.new k h1
      · have := h.size; omega,
    h.blk.kept hc (fun hk => by have := h.new _ hk; have := h.lt; omega), Nat.le_trans h.size hc.size, h.lt⟩

theorem zeros_two (n : Nat) : List.replicate n (0 : UInt8) ++ two 0 = List.replicate (n + 2) 0 := by
  have h : two 0 = List.replicate 2 0 := by decide
  rw [h, List.replicate_append_replicate]

theorem root_two_z {w w1 wr : World} {v : Value} {n : Nat} {ep : Int} (h : ZSt w w1 wr v n ep) (hn : n ≤ 50) :
    Calls Try.prog 43 #[v, intV 0] wr fun e w' => ∃ v', e = .returned v' ∧ ZSt w w1 w' v' (n + 2) ep := by
  have ho := h.own
  have h1 : Own wr 5 1 v (List.replicate n (0 : UInt8)).length (byts (List.replicate n 0)) := by simpa using ho
  refine (root_two h1 0 (by omega) (by omega) (by simp; omega)).mono ?_
  rintro e w' ⟨v', rfl, ho', hc, hg⟩
  rw [zeros_two, List.length_replicate] at ho'
  exact ⟨v', rfl, h.step hc ho' hg⟩

theorem add_str9 {ρ : Operand → Value} {w : World} {x y : Operand} {dst t t' type pos after guard} (h1 : IsStr (ρ x)) (h2 : IsStr (ρ y)) :
    (execOp ρ { dst := dst, op := .binOp .add t x y t', type := type, pos := pos, after := after, guard := guard }).run Try.prog w = .ok (.value (strV (strOf (ρ x) ++ strOf (ρ y)))) w :=
  exec_add_str h1 h2

theorem copy_nil (a : Addr) (w : World) : (Builtin.copy_ #[34, 34] 3 #[.slice (some a) 5 5, .slice none 0 0]).run Try.prog w = .ok (.int .i64 0) w := by
  kernel_rfl
attribute [local go_sem ↓] copy_nil add_str9
attribute [local go_sem] strOf_strV

theorem idx5 : ∀ (j : Nat) (_ : j < 5) (w : World), (Instr.index 103 (.agg #[.int .i64 0, .int .i64 0, .int .i64 0, .int .i64 0, .int .i64 0]) (.int .i64 (j : Int))).run Try.prog w = .ok (intV 0) w
  | 0, _, w => by kernel_rfl
  | 1, _, w => by kernel_rfl
  | 2, _, w => by kernel_rfl
  | 3, _, w => by kernel_rfl
  | 4, _, w => by kernel_rfl
  | _ + 5, h, _ => absurd h (by omega)

set_option maxHeartbeats 2000000 in
set_option maxRecDepth 100000 in
theorem root_put_empty (ep : Int) (w : World) (h0 : 1 ≤ ep) (h1 : ep ≤ 1099511627776) :
    Calls Try.prog 31 #[.agg #[intV ep, intV 0, .slice none 0 0]] w fun e w' => e = .returned (.tuple #[strV (Root.bytes ⟨ep, 0, []⟩), intV 0]) ∧ Chg [] w w' := by
  have hB0 : Blk (w.alloc (.cells #[intV ep, intV 0, .slice none 0 0] 81)) w.heap.size 81 [intV ep, intV 0, .slice none 0 0] := Blk.new w _ _
  have HB0 := Lib.hid hB0
  clear hB0
  have hbody : Root.body ⟨ep, 0, []⟩ = List.replicate 44 0 := by
    show two 0 ++ two ((0 : Nat) : Int) ++ twos ([] ++ List.replicate (5 - 0) 0) ++ List.replicate 30 0 = _
    decide
  have hby : Root.bytes ⟨ep, 0, []⟩ = (packI ep ++ crcLay (List.replicate 44 0)) ++ packI ep := by
    rw [← hbody]
    rfl
  rw [hby]
  clear hby hbody
  obtain ⟨cl, hcl⟩ : ∃ cl, cl = crcLay (List.replicate 44 0) := ⟨_, rfl⟩
  rw [← hcl]
  have HCL := Lib.hid hcl
  clear hcl
  go_enter Try.func31, Try.ntmps31
  go_wp2_with fail
  refine (root_right_empty ep _ h0 h1).mono ?_
  rintro e w1 ⟨rfl, hc1⟩
  have HB1 := Lib.hid (HB0.out.kept hc1 (by simp))
  have C1 := Lib.hid (((Chg.refl [] w).alloc (.cells #[intV ep, intV 0, .slice none 0 0] 81)).trans0 hc1)
  have Z1 : Hid (ZSt w w1 w1.drew (.slice none 0 0) 0 ep) := Lib.hid ⟨Own.nil _ _ _, C1.out.drew, by simp [ownBlk], HB1.out, Nat.le_refl _, HB1.out.lt⟩
  have q1 := HB1.out.cell 1
  have q2 := HB1.out.cell 2
  simp at q1 q2
  clear hc1
  go_wp2_with fail
  go_region_held3 (fun w' => w'.cell? ⟨w.heap.size, 1, none⟩ = some (intV 0) ∧ w'.cell? ⟨w.heap.size, 2, none⟩ = some (.slice none 0 0))
    (first | exact ⟨q1, q2⟩ | exact ⟨q3, q4⟩ | exact ⟨q5, q6⟩)
    (first
    | (go_at_call 43; refine (root_two_z Z2.out (by omega)).mono ?_; rintro e w3 ⟨v3, rfl, hz3⟩; have Z3 := Lib.hid hz3; have q5 := hz3.blk.cell 1; have q6 := hz3.blk.cell 2; simp at q5 q6; clear hz3)
    | (go_at_call 43; refine (root_two_z Z1.out (by omega)).mono ?_; rintro e w2 ⟨v2, rfl, hz2⟩; have Z2 := Lib.hid hz2; have q3 := hz2.blk.cell 1; have q4 := hz2.blk.cell 2; simp at q3 q4; clear hz2))
  clear q1 q2 q3 q4 q5 q6 Z1 Z2 HB1
  have Z4 := Lib.hid (Z3.out.on ((Chg.refl [] w3).alloc (.cells #[.int .i64 0, .int .i64 0, .int .i64 0, .int .i64 0, .int .i64 0] 103)))
  have q6 := Z4.out.blk.cell 2
  simp at q6
  go_wp2_with fail
  go_region
  have Z5 := Lib.hid (show ZSt w w1 (w3.alloc (.cells #[.int .i64 0, .int .i64 0, .int .i64 0, .int .i64 0, .int .i64 0] 103)).drew v3 4 ep from ⟨Z4.out.own, Z4.out.chg.drew, Z4.out.new, Z4.out.blk, Z4.out.size, Z4.out.lt⟩)
  clear q6 Z4 Z3
  go_wp2_with fail
  generalize (w3.alloc (.cells #[.int .i64 0, .int .i64 0, .int .i64 0, .int .i64 0, .int .i64 0] 103)).drew = w5 at *
  go_loopg [4, 24] 5 (fun k v i wr => ∃ j : Nat, k + j = 5 ∧ i = .int .i64 j ∧ ZSt w w1 wr v (4 + 2 * j) ep)
  case atStart => exact ⟨0, by omega, rfl, Z5.out⟩
  case round =>
    obtain ⟨j, hj, rfl, hz⟩ := hrel
    have HZ := Lib.hid hz
    have hidx := idx5 j
    clear hz
    by_cases hj5 : j = 5
    · obtain rfl : gk = 0 := by omega
      subst hj5
      clear hidx
      go_wp2_with fail
      have HZ' : Hid (ZSt w w1 wr u4 14 ep) := HZ
      clear HZ Z5
      go_loopg [4] 30 (fun k v wr => ∃ j : Nat, k + j = 30 ∧ ZSt w w1 wr v (14 + j) ep)
      case atStart => exact ⟨0, by omega, HZ'.out⟩
      case round =>
        obtain ⟨j, hj, hz⟩ := hrel
        obtain ⟨ad, c, rfl, hnc, hcm⟩ := hz.own.shape
        have HZ := Lib.hid hz
        clear hz HZ'
        by_cases hj30 : j = 30
        · obtain rfl : gk = 0 := by omega
          subst hj30
          have HO : Hid (Own wr 5 1 (.slice ad (14 + 30) c) (List.replicate 44 (0 : UInt8)).length (byts (List.replicate 44 0))) := Lib.hid (by rw [List.length_replicate]; exact HZ.out.own)
          go_wp2_with (first
            | (refine wpList_own_str rfl (.tmp 37) 65 9 5 rfl Try.underlying65 Try.underlying5 Try.underlying9 _ (List.replicate 44 0) 5 rfl HO.out ?_)
            | (go_at_call 44; refine (crc_lay (List.replicate 44 0) _ (by simp) (by simp)).mono ?_; rw [← HCL.out]; rintro e w7 ⟨rfl, hc7⟩; have Z7 := Lib.hid (HZ.out.on hc7); have r1 := Z7.out.blk.cell 0; simp at r1; clear hc7))
          have l1 : cl.length = 48 := by
            rw [HCL.out]
            decide
          have i1 : IsStr (strV cl) := IsStr.mk' (by omega)
          have i2 : IsStr (strV (packI ep)) := IsStr.mk' (by rw [packI_length]; omega)
          have i3 : IsStr (strV (packI ep ++ cl)) := IsStr.mk' (by rw [List.length_append, packI_length]; omega)
          clear l1
          go_region_held3 (fun w' => w'.cell? ⟨w.heap.size, 0, none⟩ = some (intV ep))
            (first | exact r1 | exact r2 | exact r3)
            (first
            | (go_at_call 45; refine (pack_i ep w8).mono ?_; rintro e w9 ⟨rfl, hc9⟩; have Z9 := Lib.hid (Z8.out.on hc9); have r3 := Z9.out.blk.cell 0; simp at r3; clear hc9)
            | (go_at_call 45; refine (pack_i ep _).mono ?_; rintro e w8 ⟨rfl, hc8⟩; have Z8 := Lib.hid (Z7.out.on (((Chg.refl [] w7).drew).trans0 hc8)); have r2 := Z8.out.blk.cell 0; simp at r2; clear hc8))
          go_wp2_with fail
          go_ret2
          exact ⟨rfl, Z9.out.chg⟩
        · obtain ⟨m, rfl⟩ : ∃ m, gk = m + 1 := ⟨gk - 1, by omega⟩
          have hjj : (14 : Int) + (j : Int) < 44 := by omega
          go_wp2_with (refine wpList_append rfl (.tmp 34) (.tmp 35) 65 65 rfl 5 1 1 (bytV 0) Try.underlying65 info_u8 rfl (by omega) (.slice ad (14 + j) c) (14 + j) 1 _ _ rfl (HZ.out.own.alloc _) (src_one Try.underlying65 wr (.int .u8 0) rfl 5) (by omega) (by unfold maxLen; omega) ?_; intro ad' c' w2 hown2 hc2 hge2 hcm2 hkc2)
          go_roundg m
          case measure => omega
          case rel =>
            refine ⟨j + 1, by omega, HZ.out.step (((Chg.refl _ _).alloc _).trans1 hc2) ?_ ?_⟩
            · have e : byts (List.replicate (14 + (j + 1)) 0) = byts (List.replicate (14 + j) 0) ++ [.int .u8 0] := by
                rw [show 14 + (j + 1) = (14 + j) + 1 by omega, List.replicate_succ']
                simp [byts]
              rw [e]
              exact hown2
            · intro k hk
              rcases hge2 k hk with h | h
              · exact .inl h
              · simp at h
                exact .inr (by omega)
    · obtain ⟨m, rfl⟩ : ∃ m, gk = m + 1 := ⟨gk - 1, by omega⟩
      have hjj : (j : Int) < 5 := by omega
      have hix := hidx (by omega)
      clear hidx
      go_wp2_with (go_at_call 43; refine (root_two_z HZ.out (by omega)).mono ?_; rintro e w6 ⟨v6, rfl, hz6⟩)
      go_roundg m
      case measure => omega
      case rel => exact ⟨j + 1, by omega, by first | rfl | go_num, by rw [show 4 + 2 * (j + 1) = 4 + 2 * j + 2 by omega]; exact hz6⟩

end Go.Proofs.Ytfdhlpdmbgjkdaa
