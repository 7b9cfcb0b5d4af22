/- A part of the walks of the program's functions, each a contract that its caller uses; no condition but what each theorem names. Lists of calls as they come in. The walk of the law ShadowDoes. Plain Lean: the crc bit by bit is the crc by halves of bytes. No Go. The walks of reference 03: bit, Sum, Lay. The walk of reference 03's Lay. The walks of reference 01's ReadU, ReadI, and of reference 11's Right. The walk of reference 11's Get, where the page passes. The walk of slices.Sort at integers, for at most twelve. -/
import Derived.Test.YtjbpdgknhbnfgaaGreatM20
import Derived.Deep.Slices
import Derived.Deep.Fields
import Derived.Deep.RegionHeld
import Derived.ChangeSame

namespace Go.Proofs.YtjbpdgknhbnfgaaGreat
open Go.RowKit Go.ChangeShapes Go.WideShapes
set_option maxRecDepth 100000

/-! a call read out of the list that came in -/
def actAt (w : World) (v : Value) : Value :=
  match v with
  | .pointer (some a) => .agg #[(w.cell? (a.add 0)).getD (.bool false), (w.cell? (a.add 1)).getD (.bool false), (w.cell? (a.add 2)).getD (.bool false)]
  | _ => .bool false
def ActRow (w : World) (v : Value) : Prop := ∃ a u0 u1 u2, v = .pointer (some a) ∧ w.cell? (a.add 0) = some u0 ∧ w.cell? (a.add 1) = some u1 ∧ w.cell? (a.add 2) = some u2
theorem info_act : (Tryz.prog.info? 31).map (·.size) = some 3 := by kernel_rfl
theorem load_act {ρ : Operand → Value} {w : World} {x : Operand} {dst type pos after guard} (h : ActRow w (ρ x)) :
    (execOp ρ { dst := dst, op := .load 31 x, type := type, pos := pos, after := after, guard := guard }).run Tryz.prog w = .ok (.value (actAt w (ρ x))) w := by
  obtain ⟨a, u0, u1, u2, hv, c0, c1, c2⟩ := h
  have hl : (loadCells a 3).run Tryz.prog w = .ok #[u0, u1, u2] w := by
    have := run_loadCells_list (P := Tryz.prog) w a [u0, u1, u2] (fun j v hv => by
      rcases j with _ | _ | _ | j
      · simp at hv; subst hv; exact c0
      · simp at hv; subst hv; exact c1
      · simp at hv; subst hv; exact c2
      · simp at hv)
    exact this
  have hlv : (loadVar 31 a).run Tryz.prog w = .ok (.agg #[u0, u1, u2]) w := by
    cases hq : Tryz.prog.info? 31 with
    | none => have := info_act; simp [hq] at this
    | some i =>
      have hs : i.size = 3 := by have := info_act; simpa [hq] using this
      have hagg : (isAgg 31).run Tryz.prog w = .ok true w := by
        unfold isAgg
        rw [Sem.run_bind, run_underlying Tryz.underlying31 w]
        simp
      simp [loadVar, Sem.run_bind, hagg, sizeOf, typeInfo, hq, hs, hl]
  simp only [execOp, hv, Instr.loadAt, Instr.sureAddr, Sem.run_bind, Sem.run_pure, Result.andThen_ok, hlv, actAt, c0, c1, c2, Option.getD_some]

/-- The list of calls as it came in. -/
structure ActsAt (w : World) (v : Value) (L : List Act14) : Prop where
  shape : v = .slice none 0 0 ∧ L = [] ∨ ∃ a cap, v = .slice (some a) L.length cap ∧ L.length ≤ cap ∧ cap ≤ maxLen ∧
    ∀ (i : Nat) (hi : i < L.length), w.cell? (a.add (i * 3 + 0)) = some (intV L[i].k) ∧ w.cell? (a.add (i * 3 + 1)) = some (intV L[i].l) ∧ w.cell? (a.add (i * 3 + 2)) = some (strV L[i].s)
theorem chg_cell {w w' : World} (h : Chg [] w w') {a : Addr} (ha : a.block < w.heap.size) : w'.cell? a = w.cell? a := World.cell?_of_block (w := w) (h.block a.block ha (by simp))
theorem addr_add_block (a : Addr) (j : Nat) : (a.add j).block = a.block := by unfold Addr.add; split <;> rfl
theorem ActsAt.kept {w w' : World} {v : Value} {L : List Act14} (h : ActsAt w v L) (hc : Chg [] w w') : ActsAt w' v L := by
  rcases h.shape with h0 | ⟨a, cap, h1, h2, h3, h5⟩
  · exact ⟨.inl h0⟩
  · refine ⟨.inr ⟨a, cap, h1, h2, h3, fun i hi => ?_⟩⟩
    obtain ⟨g0, g1, g2⟩ := h5 i hi
    have h4 : a.block < w.heap.size := by
      have := World.block_lt_of_cell? w _ g0
      rw [addr_add_block] at this
      exact this
    refine ⟨?_, ?_, ?_⟩
    · rw [chg_cell hc (by rw [addr_add_block]; exact h4)]; exact g0
    · rw [chg_cell hc (by rw [addr_add_block]; exact h4)]; exact g1
    · rw [chg_cell hc (by rw [addr_add_block]; exact h4)]; exact g2
theorem ActsAt.len {w : World} {v : Value} {L : List Act14} (h : ActsAt w v L) : ∃ a cap, v = .slice a L.length cap ∧ L.length ≤ cap ∧ cap ≤ maxLen := by
  rcases h.shape with ⟨h0, h1⟩ | ⟨a, cap, h1, h2, h3, -⟩
  · subst h1; exact ⟨none, 0, h0, Nat.le_refl _, by unfold maxLen; omega⟩
  · exact ⟨some a, cap, h1, h2, h3⟩
theorem ActsAt.row {w : World} {v : Value} {L : List Act14} (h : ActsAt w v L) (i : Nat) (hi : i < L.length) : ∃ a cap, v = .slice (some a) L.length cap ∧ L.length ≤ cap ∧ cap ≤ maxLen ∧ ActRow w (.pointer (some (a.add (i * 3)))) ∧ actAt w (.pointer (some (a.add (i * 3)))) = L[i].v := by
  rcases h.shape with ⟨h0, h1⟩ | ⟨a, cap, h1, h2, h3, h5⟩
  · subst h1; simp at hi
  · obtain ⟨g0, g1, g2⟩ := h5 i hi
    rw [← Go.Deep.add_add] at g0 g1 g2
    refine ⟨a, cap, h1, h2, h3, ⟨_, _, _, _, rfl, g0, g1, g2⟩, ?_⟩
    unfold actAt
    dsimp only
    rw [g0, g1, g2]
    rfl

/-! out of a reading -/
def textOf : Value → Bytes
  | .string s => s.data.toList
  | _ => []
def numOf : Value → Int
  | .int _ n => n
  | _ => 0
def actOf (w : World) (a : Addr) (i : Nat) : Act14 :=
  ⟨numOf ((w.cell? (a.add (i * 3 + 0))).getD (.bool false)), numOf ((w.cell? (a.add (i * 3 + 1))).getD (.bool false)), textOf ((w.cell? (a.add (i * 3 + 2))).getD (.bool false))⟩

theorem acts_of_trod {H : Type} {enc : TypeId × Value → H} {w : World} {base : Nat} {spare : Nat → Bool} {held : Bool} {fuel : Nat} {v : Value} {x : DataW H × List MemPlace}
    (h : DataW.trod enc Tryz.prog w base spare held fuel 22 [v] = some x) : ∃ L : List Act14, ActsAt w v L := by
  have hC : Tryz.prog.cellsOf 31 = 3 := by kernel_rfl
  rcases Go.Deep.open_slice Tryz.underlying22 h with ⟨h0, -⟩ | ⟨a, len, cap, m, n, D, Pl, hcs, -, hl, hcm, hmm, -, hi⟩
  · exact ⟨[], ⟨.inl ⟨by simpa using h0, rfl⟩⟩⟩
  have hlm : len ≤ m := by
    rw [hmm]
    split <;> omega
  refine ⟨(List.range len).map (actOf w a), ⟨.inr ⟨a, cap, by simpa using hcs, by simpa using hl, hcm, fun i hil => ?_⟩⟩⟩
  have hil' : i < len := by simpa using hil
  have hel : ((List.range len).map (actOf w a))[i] = actOf w a i := by simp
  rw [hel]
  obtain ⟨cs', hc, ht'⟩ := hi i (by omega)
  rw [hC] at hc
  obtain ⟨ys, n', -, -, hlen, hyl, hf⟩ := DataW.trod_struct Tryz.underlying31 ht'
  obtain ⟨-, hcl, hat⟩ := World.cells?_some hc
  obtain ⟨y0, y1, y2, rfl⟩ : ∃ y0 y1 y2, cs' = [y0, y1, y2] := by
    match cs', hcl with
    | [y0, y1, y2], _ => exact ⟨y0, y1, y2, rfl⟩
  have c0 := hat 0 (by omega)
  have c1 := hat 1 (by omega)
  have c2 := hat 2 (by omega)
  rw [Go.Deep.add_add] at c0 c1 c2
  have hk : Tryz.prog.cellsOf 3 = 1 := by kernel_rfl
  have hs : Tryz.prog.cellsOf 9 = 1 := by kernel_rfl
  obtain ⟨z0, z1, z2, rfl⟩ : ∃ z0 z1 z2, ys = [z0, z1, z2] := by
    match ys, hyl with
    | [z0, z1, z2], _ => exact ⟨z0, z1, z2, rfl⟩
  have f0 : DataW.trod enc Tryz.prog w base spare held n' 3 (List.take (Tryz.prog.cellsOf 3) [y0, y1, y2]) = some z0 := hf 0 _ rfl
  have f1 : DataW.trod enc Tryz.prog w base spare held n' 3 (List.take (Tryz.prog.cellsOf 3) [y1, y2]) = some z1 := hf 1 _ rfl
  have f2 : DataW.trod enc Tryz.prog w base spare held n' 9 (List.take (Tryz.prog.cellsOf 9) [y2]) = some z2 := hf 2 _ rfl
  rw [hk] at f0 f1
  rw [hs] at f2
  obtain ⟨k0, e0, -, -⟩ := DataW.trod_int Tryz.underlying3 f0
  obtain ⟨k1, e1, -, -⟩ := DataW.trod_int Tryz.underlying3 f1
  obtain ⟨k2, e2, -, -⟩ := DataW.trod_string Tryz.underlying9 f2
  simp at e0 e1 e2
  subst e0 e1 e2
  simp only [List.getElem?_cons_zero, List.getElem?_cons_succ] at c0 c1 c2
  unfold actOf
  rw [c0, c1, c2]
  refine ⟨rfl, rfl, ?_⟩
  simp [textOf, strV]

end Go.Proofs.YtjbpdgknhbnfgaaGreat

namespace Go.Proofs.YtjbpdgknhbnfgaaGreat
open Go.RowKit
set_option maxRecDepth 100000

attribute [local go_sem ↓] load_act

theorem Ref.act_epoch (r : Ref) (a : Act14) : (r.act a).epoch ≤ r.epoch + 1 := by
  unfold Ref.act
  split
  · rw [(r.new_old _).2]; omega
  · split
    · rw [(r.drop_old _).2]; omega
    · split
      · rcases r.commit_epoch with h | h <;> omega
      · split
        · show r.epoch ≤ _; omega
        · split
          · show r.epoch ≤ _; omega
          · rw [(r.write_old _ _).2]; omega

set_option maxHeartbeats 2000000 in
theorem law_does (pg : Nat) (hpg : pg ≤ 255) (v : Value) (L : List Act14) (w : World) (hv : ActsAt w v L) :
    Calls Tryz.prog 3 #[.int .u8 pg, v] w (YesOk w) := by
  have hb1 : Calls Tryz.prog 13 #[intV ((pg : Int) % 14 + 1)] w (Begun14 w (pg % 14 + 1)) := by
    have := law14_begun (pg % 14 + 1) w (by omega) (by omega)
    rw [show ((pg % 14 + 1 : Nat) : Int) = (pg : Int) % 14 + 1 by omega] at this
    exact this
  have HB := Lib.hid hb1
  have HV : Hid (∀ w', Chg [] w w' → ActsAt w' v L) := Lib.hid fun w' hc => hv.kept hc
  obtain ⟨va, vc, rfl, hl1, hl2⟩ := hv.len
  clear hb1 hv
  have hp1 : (pg : Int) ≤ 255 := by omega
  go_enter Tryz.func3, Tryz.ntmps3
  go_wp2_with (first
    | (go_at_call 13; (with_reducible refine HB.out.mono ?_); rintro e w2 ⟨b, rb, rfl, h2⟩; have HP := Lib.hid h2; clear h2)
    | (go_at_call 14; (with_reducible refine (law14_awake _).mono ?_); rintro e w3 ⟨rfl, hc⟩; have HP := Lib.hid (HP.out.on0 hc); clear hc))
  have HDO : Hid (∀ (wr : World) (b' : StoreB) (rb' : RefB) (r : Ref) (a : Act14), b'.d = b.d → rb'.p = rb.p → Two w wr b' rb' r r → a.s.length < 500 → r.epoch ≤ 41 → Calls Tryz.prog 16 #[ptrV b.d.d, ptrV b'.s, ptrV rb.p, a.v] wr fun e w' => ∃ b2 rb2, e = .returned (.tuple #[ptrV b2.s, .bool true]) ∧ b2.d = b.d ∧ rb2.p = rb.p ∧ Two w w' b2 rb2 (r.act a) (r.act a)) := Lib.hid fun wr b' rb' r a e1 e2 h h1 h2 => by
    rw [← e1, ← e2]
    exact law14_do h a (by omega) (by omega)
  have HSM : Hid (∀ (wr : World) (b' : StoreB) (rb' : RefB) (r : Ref), rb'.p = rb.p → Two w wr b' rb' r r → Calls Tryz.prog 17 #[ptrV b'.s, ptrV rb.p] wr fun e w' => e = .returned (.bool true) ∧ Chg [] wr w') := Lib.hid fun wr b' rb' r e2 h => by
    rw [← e2]
    exact law14_same h.s h.x
  go_loopw [7, 9] (fun s i wr => ∃ (k : Nat) (b' : StoreB) (rb' : RefB) (r : Ref), k ≤ L.length ∧ k ≤ 40 ∧ i = .int .i64 k ∧ s = ptrV b'.s ∧ b'.d = b.d ∧ rb'.p = rb.p ∧ r.epoch ≤ 1 + k ∧ Two w wr b' rb' r r) (fun _ i _ => L.length - (intOf i).toNat)
  case atStart => exact ⟨0, b, rb, _, Nat.zero_le _, by omega, rfl, rfl, rfl, rfl, by show (1 : Int) ≤ 1 + ((0 : Nat) : Int); omega, HP.out⟩
  case round =>
    obtain ⟨k, b', rb', r, hk, hk4, rfl, rfl, hbd, hrp, hre, htw⟩ := hrel
    have HT := Lib.hid htw
    have HBD := Lib.hid hbd
    have HRP := Lib.hid hrp
    clear htw hbd hrp
    by_cases hlt : k < L.length
    · have hkI : (k : Int) < (L.length : Int) := by omega
      by_cases h40 : k < 40
      · have h4I : (k : Int) < 40 := by omega
        obtain ⟨a, cap, hvv, -, -, -, -⟩ := (HV.out w (Chg.refl _ _)).row k hlt
        simp only [Value.slice.injEq] at hvv
        obtain ⟨rfl, -, rfl⟩ := hvv
        have HR : Hid (∀ w', Chg [] w w' → ActRow w' (.pointer (some (a.add (k * 3)))) ∧ actAt w' (.pointer (some (a.add (k * 3)))) = L[k].v) := Lib.hid fun w' hc => by
          obtain ⟨a', cap', hv', -, -, g1, g2⟩ := (HV.out w' hc).row k hlt
          simp only [Value.slice.injEq, Option.some.injEq] at hv'
          obtain ⟨rfl, -, rfl⟩ := hv'
          exact ⟨g1, g2⟩
        have hae := Ref.act_epoch r L[k]
        generalize L[k] = act at *
        obtain ⟨R', hR'⟩ : ∃ R', r.act act = R' := ⟨_, rfl⟩
        have HDO1 : Hid (∀ wr, Two w wr b' rb' r r → act.s.length < 500 → Calls Tryz.prog 16 #[ptrV b.d.d, ptrV b'.s, ptrV rb.p, act.v] wr fun e w' => ∃ b2 rb2, e = .returned (.tuple #[ptrV b2.s, .bool true]) ∧ b2.d = b.d ∧ rb2.p = rb.p ∧ Two w w' b2 rb2 R' R') := Lib.hid fun wr h h1 => by
          rw [← hR']
          exact HDO.out wr b' rb' r act HBD.out HRP.out h h1 (by omega)
        have HSM1 : Hid (∀ wr, Two w wr b' rb' r r → Calls Tryz.prog 17 #[ptrV b'.s, ptrV rb.p] wr fun e w' => e = .returned (.bool true) ∧ Chg [] wr w') := Lib.hid fun wr h => HSM.out wr b' rb' r HRP.out h
        have HAE : Hid (R'.epoch ≤ 1 + ((k + 1 : Nat) : Int)) := Lib.hid (by rw [← hR']; omega)
        have HAE0 : Hid (r.epoch ≤ 1 + ((k + 1 : Nat) : Int)) := Lib.hid (by omega)
        obtain ⟨r1, r2⟩ := HR.out wr HT.out.chg
        clear hae hR' hre
        by_cases hs : act.s.length < 500
        · have z1 : decide (act.s.length < 500) = true := by simpa using hs
          have HS := Lib.hid hs
          clear hs
          go_wp2_with (first
            | (go_at_call 15; (with_reducible refine (law14_short act _).mono ?_); rintro e w4 ⟨rfl, hc⟩; have HT4 := Lib.hid (HT.out.on0 hc); obtain ⟨r3, r4⟩ := HR.out _ HT4.out.chg; clear hc)
            | (go_at_call 16; (with_reducible refine (HDO1.out _ HT4.out HS.out).mono ?_); rintro e w5 ⟨b2, rb2, rfl, e2, e3, h5⟩; have HT5 := Lib.hid h5; have E2 := Lib.hid e2; have E3 := Lib.hid e3; clear h5 e2 e3)
            | (go_at_call 17; (with_reducible refine (HSM.out _ _ _ _ E3.out HT5.out).mono ?_); rintro e w6 ⟨rfl, hc⟩; have HT6 := Lib.hid (HT5.out.on0 hc); clear hc))
          go_roundw
          case rel => exact ⟨k + 1, b2, rb2, R', by omega, by omega, by go_num, rfl, E2.out, E3.out, HAE.out, HT6.out⟩
          case measure => simp [intOf]; omega
        · have z1 : decide (act.s.length < 500) = false := by simpa using hs
          clear hs
          go_wp2_with (first
            | (go_at_call 15; (with_reducible refine (law14_short act _).mono ?_); rintro e w4 ⟨rfl, hc⟩; have HT4 := Lib.hid (HT.out.on0 hc); clear hc)
            | (go_at_call 17; (with_reducible refine (HSM1.out _ HT4.out).mono ?_); rintro e w6 ⟨rfl, hc⟩; have HT6 := Lib.hid (HT4.out.on0 hc); clear hc))
          go_roundw
          case rel => exact ⟨k + 1, b', rb', r, by omega, by omega, by go_num, rfl, HBD.out, HRP.out, HAE0.out, HT6.out⟩
          case measure => simp [intOf]; omega
      · have h4I : ¬ (k : Int) < 40 := by omega
        go_wp2_with fail
        go_ret
        exact ⟨rfl, HT.out.chg⟩
    · have hkI : ¬ (k : Int) < (L.length : Int) := by omega
      go_wp2_with fail
      go_ret
      exact ⟨rfl, HT.out.chg⟩

end Go.Proofs.YtjbpdgknhbnfgaaGreat

namespace Go.Proofs.YtjbpdgknhbnfgaaGreat
set_option maxRecDepth 100000

def poly : BitVec 32 := 2197175160#32
/-- one bit of the register, nothing taken in -/
def step1 (r : BitVec 32) : BitVec 32 := (r >>> 1) ^^^ (if r.getLsbD 0 then poly else 0#32)
/-- one bit taken in -/
def stepB (r : BitVec 32) (b : Bool) : BitVec 32 := (r >>> 1) ^^^ (if r.getLsbD 0 != b then poly else 0#32)
def bit1 (b : Bool) : BitVec 32 := if b then 1#32 else 0#32

theorem xor4 (a b c d : BitVec 32) : (a ^^^ b) ^^^ (c ^^^ d) = (a ^^^ c) ^^^ (b ^^^ d) := by
  rw [BitVec.xor_assoc, ← BitVec.xor_assoc b c d, BitVec.xor_comm b c, BitVec.xor_assoc c b d, ← BitVec.xor_assoc]
theorem step1_xor (x y : BitVec 32) : step1 (x ^^^ y) = step1 x ^^^ step1 y := by
  unfold step1
  rw [BitVec.ushiftRight_xor_distrib, BitVec.getLsbD_xor, xor4]
  congr 1
  cases x.getLsbD 0 <;> cases y.getLsbD 0 <;> simp
theorem stepB_eq (r : BitVec 32) (b : Bool) : stepB r b = step1 (r ^^^ bit1 b) := by
  rw [step1_xor]
  cases b
  · unfold stepB bit1
    simp [step1]
  · have h : step1 (bit1 true) = poly := by decide
    rw [h]
    unfold stepB step1
    cases r.getLsbD 0 <;> simp [BitVec.xor_assoc]
def step4 (r : BitVec 32) : BitVec 32 := step1 (step1 (step1 (step1 r)))
def step8 (r : BitVec 32) : BitVec 32 := step4 (step4 r)
theorem step4_xor (x y : BitVec 32) : step4 (x ^^^ y) = step4 x ^^^ step4 y := by unfold step4; rw [step1_xor, step1_xor, step1_xor, step1_xor]
theorem step8_xor (x y : BitVec 32) : step8 (x ^^^ y) = step8 x ^^^ step8 y := by unfold step8; rw [step4_xor, step4_xor]
theorem step1_even (y : BitVec 32) (h : y.getLsbD 0 = false) : step1 y = y >>> 1 := by unfold step1; rw [h]; simp
theorem step4_hi (y : BitVec 32) (h0 : y.getLsbD 0 = false) (h1 : y.getLsbD 1 = false) (h2 : y.getLsbD 2 = false) (h3 : y.getLsbD 3 = false) : step4 y = y >>> 4 := by
  unfold step4
  rw [step1_even y h0, step1_even (y >>> 1) (by simpa using h1), step1_even (y >>> 1 >>> 1) (by simpa using h2), step1_even (y >>> 1 >>> 1 >>> 1) (by simpa using h3)]
  simp only [← BitVec.shiftRight_add]
theorem tab_step : ∀ i : Fin 16, step4 (BitVec.ofNat 32 i.val) = crcTab i.val := by decide +kernel
theorem step4_eq (r : BitVec 32) : step4 r = crcStep r := by
  have e : r = (r &&& ~~~ 15#32) ^^^ (r &&& 15#32) := by
    apply BitVec.eq_of_getLsbD_eq
    intro i hi
    simp only [BitVec.getLsbD_xor, BitVec.getLsbD_and, BitVec.getLsbD_not, hi, decide_true, Bool.true_and]
    cases r.getLsbD i <;> cases (15#32).getLsbD i <;> rfl
  have hlo : (r &&& 15#32).toNat < 16 := by
    rw [BitVec.toNat_and]
    exact Nat.lt_of_le_of_lt (Nat.and_le_right (m := 15)) (by omega)
  have h1 : step4 (r &&& ~~~ 15#32) = (r &&& ~~~ 15#32) >>> 4 := step4_hi _ (by simp) (by simp) (by simp) (by simp)
  have h2 : step4 (r &&& 15#32) = crcTab (r &&& 15#32).toNat := by
    have := tab_step ⟨_, hlo⟩
    simpa using this
  have h3 : (r &&& ~~~ 15#32) >>> 4 = r >>> 4 := by
    apply BitVec.eq_of_getLsbD_eq
    intro i hi
    simp only [BitVec.getLsbD_ushiftRight, BitVec.getLsbD_and, BitVec.getLsbD_not]
    by_cases h : 4 + i < 32
    · have : (15#32).getLsbD (4 + i) = false := by
        rw [BitVec.getLsbD_ofNat]
        have : Nat.testBit 15 (4 + i) = false := Nat.testBit_lt_two_pow (by
          have : 2 ^ 4 ≤ 2 ^ (4 + i) := Nat.pow_le_pow_right (by omega) (by omega)
          omega)
        simp [this]
      rw [this]
      simp [h]
    · have : r.getLsbD (4 + i) = false := BitVec.getLsbD_of_ge _ _ (by omega)
      rw [this]
      rfl
  conv => lhs; rw [e]
  rw [step4_xor, h1, h2, h3]
  rfl
theorem step8_eq (r : BitVec 32) : step8 r = crcStep (crcStep r) := by unfold step8; rw [step4_eq, step4_eq]

/-- the bits of a byte taken in, the lowest first -/
def stepsB (r : BitVec 32) (f : Nat → Bool) : Nat → BitVec 32
  | 0 => r
  | k + 1 => stepB (stepsB r f k) (f k)
def bits8 (f : Nat → Bool) : BitVec 32 := bit1 (f 0) ^^^ (bit1 (f 1) <<< 1) ^^^ (bit1 (f 2) <<< 2) ^^^ (bit1 (f 3) <<< 3) ^^^ (bit1 (f 4) <<< 4) ^^^ (bit1 (f 5) <<< 5) ^^^ (bit1 (f 6) <<< 6) ^^^ (bit1 (f 7) <<< 7)
theorem steps8_lin (r : BitVec 32) (f : Nat → Bool) : stepsB r f 8 = step8 r ^^^ stepsB 0#32 f 8 := by
  simp only [stepsB, stepB_eq, step1_xor, step8, step4]
  have h0 : step1 0#32 = 0#32 := by decide
  simp only [h0, BitVec.zero_xor, BitVec.xor_assoc]
def byteBit (c : Nat) (i : Nat) : Bool := (c >>> i) % 2 == 1
theorem steps8_byte : ∀ c : Fin 256, stepsB 0#32 (byteBit c.val) 8 = step8 (BitVec.ofNat 32 c.val) := by decide +kernel
theorem steps8 (r : BitVec 32) (c : UInt8) : stepsB r (byteBit c.toNat) 8 = crcTake r c := by
  rw [steps8_lin, steps8_byte ⟨c.toNat, c.toNat_lt⟩, ← step8_xor, step8_eq]
  rfl

def bitOf (l : Bytes) (i : Nat) : Bool := byteBit (l.getD (i / 8) 0).toNat (i % 8)
def crcBits (l : Bytes) : Nat → BitVec 32
  | 0 => ~~~ 0#32
  | i + 1 => stepB (crcBits l i) (bitOf l i)
theorem crcBits_in (l : Bytes) (k : Nat) : ∀ j, j ≤ 8 → crcBits l (8 * k + j) = stepsB (crcBits l (8 * k)) (byteBit (l.getD k 0).toNat) j
  | 0, _ => rfl
  | j + 1, hj => by
    show stepB (crcBits l (8 * k + j)) (bitOf l (8 * k + j)) = stepB _ _
    rw [crcBits_in l k j (by omega)]
    unfold bitOf
    rw [show (8 * k + j) / 8 = k by omega, show (8 * k + j) % 8 = j by omega]
theorem crcBits_take (l : Bytes) : ∀ k, k ≤ l.length → crcBits l (8 * k) = (l.take k).foldl crcTake (~~~ 0#32)
  | 0, _ => rfl
  | k + 1, hk => by
    rw [show 8 * (k + 1) = 8 * k + 8 by omega, crcBits_in l k 8 (Nat.le_refl _), steps8, crcBits_take l k (by omega), List.take_succ_eq_append_getElem (show k < l.length by omega), List.foldl_append]
    have : l.getD k 0 = l[k] := by simp [List.getD, show k < l.length by omega]
    rw [this]
    rfl
theorem crcBits_sum (l : Bytes) : ~~~ (crcBits l (8 * l.length)) = crcSum l := by
  rw [crcBits_take l _ (Nat.le_refl _), List.take_length]
  rfl

end Go.Proofs.YtjbpdgknhbnfgaaGreat

namespace Go.Proofs.YtjbpdgknhbnfgaaGreat
open Go.RowKit
set_option maxRecDepth 100000

def bitN (b : Bool) : Int := if b then 1 else 0
theorem bitN_of (c j : Nat) : ((c / 2 ^ j : Nat) : Int) % 2 = bitN (byteBit c j) := by
  have e : bitN (byteBit c j) = ((c / 2 ^ j % 2 : Nat) : Int) := by
    unfold bitN byteBit
    rw [Nat.shiftRight_eq_div_pow]
    generalize c / 2 ^ j = x
    rcases Nat.mod_two_eq_zero_or_one x with h | h <;> rw [h] <;> rfl
  rw [e]
  omega
theorem get_str (l : Bytes) (k : Nat) (hk : k < l.length) (h : k < (⟨l.toArray⟩ : ByteArray).size) : (⟨l.toArray⟩ : ByteArray)[k] = l.getD k 0 := by
  show l.toArray[k]'_ = _
  simp [List.getD, hk]

set_option maxHeartbeats 1000000 in
theorem ref_bit (l : Bytes) (w : World) (i k j : Nat) (hk : k < l.length) (hi : i = 8 * k + j) (hj : j < 8) (hl : l.length ≤ 60000) :
    Calls Tryz.prog 193 #[strV l, intV i] w fun e w' => e = .returned (.int .u32 (bitN (byteBit (l.getD k 0).toNat j))) ∧ w = w' := by
  have h1 : (i : Int) / 8 = (k : Int) := by omega
  have h2 : (i : Int) % 8 = (j : Int) := by omega
  have h1t : Int.tdiv (i : Int) 8 = (k : Int) := by rw [Int.tdiv_eq_ediv_of_nonneg (by omega)]; exact h1
  have h2t : Int.tmod (i : Int) 8 = (j : Int) := by rw [Int.tmod_eq_emod_of_nonneg (by omega)]; exact h2
  have hkI : (k : Int) < (l.length : Int) := by omega
  have hj8 : (j : Int) < 8 := by omega
  clear hi
  go_enter Tryz.func193, Tryz.ntmps193
  go_wp2_with fail
  go_ret
  refine ⟨congrArg (fun z => Ending.returned (Value.int IntKind.u32 z)) ?_, rfl⟩
  rw [get_str l k hk]
  generalize (l.getD k 0) = c at *
  have hc := c.toNat_lt
  rw [← bitN_of]
  have e : ((c.toNat : Int) / 2 ^ j) = ((c.toNat / 2 ^ j : Nat) : Int) := by simp
  rw [e]
  have key : ∀ x : Nat, x ≤ 255 → ((x : Int) % 4294967296 % 2 = (x : Int) % 2) := fun x hx => by omega
  exact key (c.toNat / 2 ^ j) (Nat.le_trans (Nat.div_le_self _ _) (by omega))

theorem u32_half (r : BitVec 32) : ((r >>> 1).toNat : Int) = (r.toNat : Int) / 2 := by
  rw [BitVec.toNat_ushiftRight, Nat.shiftRight_eq_div_pow]
  omega
theorem u32_odd (r : BitVec 32) : (r.toNat : Int) % 2 = bitN (r.getLsbD 0) := by
  have e : bitN (r.getLsbD 0) = ((r.toNat % 2 : Nat) : Int) := by
    unfold bitN BitVec.getLsbD
    rw [Nat.testBit_zero]
    rcases Nat.mod_two_eq_zero_or_one r.toNat with h | h <;> rw [h] <;> rfl
  rw [e]
  omega
theorem bitN_ne (a b : Bool) : (bitN a != bitN b) = (a != b) := by cases a <;> cases b <;> rfl

theorem bits_poly (r : BitVec 32) : bits .xor .u32 (r.toNat : Int) 2197175160 = ((r ^^^ poly).toNat : Int) := by
  show IntKind.u32.wrap ((BitVec.ofInt 32 (r.toNat : Int) ^^^ BitVec.ofInt 32 2197175160).toNat : Int) = _
  rw [ofInt_toNat, show BitVec.ofInt 32 2197175160 = poly by decide, wrap_u32_bv]
theorem u32_not (r : BitVec 32) : u32V (~~~ r) = .int .u32 (4294967295 - r.toNat) := by
  unfold u32V
  rw [BitVec.toNat_not]
  have := r.isLt
  congr 1
  omega

set_option maxHeartbeats 2000000 in
theorem ref_sum (l : Bytes) (w : World) (hl : l.length ≤ 60000) :
    Calls Tryz.prog 149 #[strV l] w fun e w' => e = .returned (u32V (crcSum l)) ∧ w = w' := by
  rw [← crcBits_sum]
  go_enter Tryz.func149, Tryz.ntmps149
  go_wp2_with fail
  go_loop [3, 4] (fun r i => ∃ k : Nat, k ≤ 8 * l.length ∧ i = .int .i64 k ∧ r = .int .u32 (crcBits l k).toNat) (fun _ i => 8 * l.length - (intOf i).toNat)
  case atStart => exact ⟨0, Nat.zero_le _, rfl, rfl⟩
  case round =>
    obtain ⟨k, hk, rfl, rfl⟩ := hrel
    by_cases hlt : k < 8 * l.length
    · have hkI : (k : Int) < 8 * (l.length : Int) := by omega
      have HB := Lib.hid (ref_bit l w k (k / 8) (k % 8) (by omega) (by omega) (by omega) hl)
      have HS : Hid (crcBits l (k + 1) = stepB (crcBits l k) (byteBit (l.getD (k / 8) 0).toNat (k % 8))) := Lib.hid rfl
      generalize byteBit (l.getD (k / 8) 0).toNat (k % 8) = bb at *
      generalize crcBits l k = r at *
      have o1 := u32_odd r
      have HH := Lib.hid (u32_half r)
      unfold stepB at HS
      generalize r.getLsbD 0 = ob at *
      have u1 := isU32_u32V (r >>> 1)
      cases ob <;> cases bb
      all_goals
        simp only [bitN, if_true, if_false, Bool.false_eq_true] at o1 HB
        go_wp2_with (go_at_call 193; (with_reducible refine HB.out.mono ?_); rintro e w' ⟨rfl, rfl⟩)
        go_round
        case rel =>
          refine ⟨k + 1, by omega, by go_num, ?_⟩
          rw [HS.out, ← HH.out]
          first | (rw [bits_poly]; rfl) | simp
        case measure => simp [intOf]; omega
    · obtain rfl : k = 8 * l.length := by omega
      have hkI : ¬ ((8 * l.length : Nat) : Int) < 8 * (l.length : Int) := by omega
      have HN := Lib.hid (u32_not (crcBits l (8 * l.length)))
      have hb := (crcBits l (8 * l.length)).isLt
      go_wp2_with fail
      go_ret
      exact ⟨by rw [HN.out]; rfl, rfl⟩

end Go.Proofs.YtjbpdgknhbnfgaaGreat

namespace Go.Proofs.YtjbpdgknhbnfgaaGreat
open Go.RowKit
set_option maxRecDepth 100000

theorem byts_four (r : BitVec 32) : byts (crcFour r) = [Value.int IntKind.u8 ((r.toNat : Int) % 256), Value.int IntKind.u8 ((r.toNat : Int) / 256 % 256), Value.int IntKind.u8 ((r.toNat : Int) / 65536 % 256), Value.int IntKind.u8 ((r.toNat : Int) / 16777216)] := by
  have hr := r.isLt
  simp [byts, crcFour]
  omega
theorem str_app (a b : Bytes) : (⟨a.toArray⟩ : ByteArray) ++ ⟨b.toArray⟩ = ⟨(a ++ b).toArray⟩ := by
  apply ByteArray.ext
  simp
theorem ownZ_new (w : World) (T : TypeId) (cs : List Value) (h : 0 < cs.length) (hm : cs.length ≤ maxLen) : OwnZ (w.alloc (.cells cs.toArray T)) T (.slice (some ⟨w.heap.size, 0, none⟩) cs.length cs.length) cs.length cs :=
  ⟨rfl, .inr ⟨w.heap.size, cs.length, cs, rfl, ⟨(0, 0), Blk.new w T cs, .inl rfl⟩, Nat.le_refl _, h, hm, rfl, by simp⟩⟩

set_option maxHeartbeats 1000000 in
theorem ref_lay (l : Bytes) (w : World) (hl : l.length ≤ 60000) :
    Calls Tryz.prog 82 #[strV l] w fun e w' => e = .returned (strV (crcLay l)) ∧ Chg [] w w' := by
  have HS := Lib.hid (ref_sum l w hl)
  unfold crcLay
  generalize crcSum l = r at *
  have hr := r.isLt
  unfold u32V at HS
  have hrI : (r.toNat : Int) < 4294967296 := by omega
  go_enter Tryz.func82, Tryz.ntmps82
  have HZ : Hid (OwnZ (w.alloc (.cells #[Value.int IntKind.u8 ((r.toNat : Int) % 256), Value.int IntKind.u8 ((r.toNat : Int) / 256 % 256), Value.int IntKind.u8 ((r.toNat : Int) / 65536 % 256), Value.int IntKind.u8 ((r.toNat : Int) / 16777216)] 5)) 5 (.slice (some ⟨w.heap.size, 0, none⟩) 4 4) (crcFour r).length (byts (crcFour r))) := Lib.hid (by
    rw [byts_four]
    exact ownZ_new w 5 [Value.int IntKind.u8 ((r.toNat : Int) % 256), Value.int IntKind.u8 ((r.toNat : Int) / 256 % 256), Value.int IntKind.u8 ((r.toNat : Int) / 65536 % 256), Value.int IntKind.u8 ((r.toNat : Int) / 16777216)] (by simp) (by unfold maxLen; simp))
  have h4 : (crcFour r).length = 4 := rfl
  go_wp2_with (first | (go_at_call 149; (with_reducible refine HS.out.mono ?_); rintro e w' ⟨rfl, rfl⟩) | (refine wpList_z_str rfl (.tmp 20) 141 9 5 rfl Tryz.underlying141 Tryz.underlying5 Tryz.underlying9 (.slice (some ⟨w.heap.size, 0, none⟩) 4 4) (crcFour r) 5 rfl HZ.out ?_))
  go_ret
  refine ⟨?_, (Chg.refl _ _).alloc _⟩
  simp [str_app]

end Go.Proofs.YtjbpdgknhbnfgaaGreat

namespace Go.Proofs.YtjbpdgknhbnfgaaGreat
open Go.RowKit
set_option maxRecDepth 100000

/-- the first k of eight bytes, as a number -/
def be8 (s : Bytes) (a k : Nat) : Nat := unbe ((s.drop a).take k)
theorem be8_succ (s : Bytes) (a k : Nat) (h : a + k < s.length) : be8 s a (k + 1) = be8 s a k * 256 + (s.getD (a + k) 0).toNat := by
  unfold be8 unbe
  have e : (s.drop a).take (k + 1) = (s.drop a).take k ++ [s.getD (a + k) 0] := by
    rw [List.take_add_one, List.getElem?_drop, List.getElem?_eq_getElem h]
    simp [List.getD, h]
  rw [e, List.foldl_append]
  rfl
theorem be8_lt (s : Bytes) (a : Nat) : ∀ k, a + k ≤ s.length → be8 s a k < 256 ^ k
  | 0, _ => by simp [be8, unbe]
  | k + 1, h => by
    have h1 := be8_lt s a k (by omega)
    have h2 := (s.getD (a + k) 0).toNat_lt
    rw [be8_succ s a k (by omega), Nat.pow_succ]
    omega

set_option maxHeartbeats 1000000 in
theorem ref_readU (s : Bytes) (a : Nat) (w : World) (ha : a + 8 ≤ s.length) (hl : s.length ≤ 60000) :
    Calls Tryz.prog 150 #[strV s, intV a] w fun e w' => e = .returned (.tuple #[.int .u64 (be8 s a 8), intV ((a : Int) + 8), intV 0]) ∧ w = w' := by
  have h1 : ¬ (a : Int) < 0 := by omega
  have h2 : ¬ (s.length : Int) < (a : Int) := by omega
  have h3 : ¬ (s.length : Int) - (a : Int) < 8 := by omega
  have h4 : (a : Int) ≤ 60000 := by omega
  have h5 : (s.length : Int) ≤ 60000 := by omega
  have haI : (a : Int) + 8 ≤ (s.length : Int) := by omega
  go_enter Tryz.func150, Tryz.ntmps150
  go_wp2_with fail
  go_loop [7, 8] (fun n i => ∃ k : Nat, k ≤ 8 ∧ i = .int .i64 k ∧ n = .int .u64 (be8 s a k)) (fun _ i => 8 - (intOf i).toNat)
  case atStart => exact ⟨0, Nat.zero_le _, rfl, rfl⟩
  case round =>
    obtain ⟨k, hk, rfl, rfl⟩ := hrel
    by_cases hlt : k < 8
    · have hkI : (k : Int) < 8 := by omega
      have hs := be8_succ s a k (by omega)
      have hb := be8_lt s a (k + 1) (by omega)
      have hp : 256 ^ (k + 1) ≤ 256 ^ 8 := Nat.pow_le_pow_right (by omega) (by omega)
      have h64 : be8 s a (k + 1) < 18446744073709551616 := by
        have : (256 : Nat) ^ 8 = 18446744073709551616 := by decide
        omega
      have hix : (a : Int) + (k : Int) < (s.length : Int) := by omega
      have hix2 : a + k < s.length := by omega
      have HC : Hid (∀ h : a + k < (⟨s.toArray⟩ : ByteArray).size, (⟨s.toArray⟩ : ByteArray)[a + k] = s.getD (a + k) 0) := Lib.hid fun h => get_str s (a + k) hix2 h
      have hcl := (s.getD (a + k) 0).toNat_lt
      have HS := Lib.hid hs
      obtain ⟨n2, hb2⟩ : ∃ n2, be8 s a (k + 1) = n2 := ⟨_, rfl⟩
      rw [hb2] at HS hs hb h64
      generalize be8 s a k = n1 at *
      obtain ⟨cc, hcc⟩ : ∃ cc, s.getD (a + k) 0 = cc := ⟨_, rfl⟩
      rw [hcc] at HS HC hcl
      have hn1 : (n1 : Int) * 256 < 18446744073709551616 := by omega
      have hn2 : (n1 : Int) * 256 + (cc.toNat : Int) < 18446744073709551616 := by have := HS.out; omega
      have HN1 := Lib.hid hn1
      have HN2 := Lib.hid hn2
      have e1 : IntKind.u64.wrap ((n1 : Int) * 256) = (n1 : Int) * 256 := IntWalk.u64_in _ (by omega)
      have e2 : IntKind.u64.wrap ((n1 : Int) * 256 + (cc.toNat : Int)) = (n1 : Int) * 256 + (cc.toNat : Int) := IntWalk.u64_in _ (by omega)
      clear hs hb hp h64 hcc hn1 hn2
      have HV : Hid (IntKind.u64.wrap (IntKind.u64.wrap ((n1 : Int) * 256) + IntKind.u64.wrap (cc.toNat : Int)) = (n2 : Int)) := Lib.hid (by
        have hcc : IntKind.u64.wrap (cc.toNat : Int) = (cc.toNat : Int) := IntWalk.u64_in _ (by omega)
        rw [hcc, e1, e2, HS.out]
        simp)
      have HB2 : Hid (be8 s a (k + 1) = n2) := Lib.hid hb2
      clear HN1 HN2 e1 e2 hcl hb2
      generalize (n1 : Int) = x at *
      go_wp2_with fail
      go_round
      case rel =>
        refine ⟨k + 1, by omega, by go_num, ?_⟩
        rw [HB2.out, HC.out, HV.out]
      case measure => simp [intOf]; omega
    · obtain rfl : k = 8 := by omega
      go_wp2_with fail
      go_ret3
      exact ⟨rfl, rfl⟩

theorem ref_readI (s : Bytes) (a : Nat) (w : World) (ha : a + 8 ≤ s.length) (hl : s.length ≤ 60000) :
    Calls Tryz.prog 83 #[strV s, intV a] w fun e w' => e = .returned (.tuple #[intV (unpackI ((s.drop a).take 8)), intV ((a : Int) + 8), intV 0]) ∧ w = w' := by
  have HU := Lib.hid (ref_readU s a w ha hl)
  have hb := be8_lt s a 8 ha
  have h64 : be8 s a 8 < 18446744073709551616 := by
    have : (256 : Nat) ^ 8 = 18446744073709551616 := by decide
    omega
  have HV : Hid (unpackI ((s.drop a).take 8) = (be8 s a 8 : Int) - 9223372036854775808) := Lib.hid rfl
  generalize unpackI ((s.drop a).take 8) = r at *
  generalize be8 s a 8 = n at *
  have HR : Hid (wrap64 (IntKind.u64.wrap ((n : Int) - 9223372036854775808)) = r) := Lib.hid (by
    unfold wrap64
    rw [HV.out]
    have : IntKind.u64.wrap ((n : Int) - 9223372036854775808) = ((n : Int) - 9223372036854775808) % 18446744073709551616 := by
      simp [IntKind.wrap, IntKind.bits, IntKind.signed]
    rw [this]
    omega)
  clear hb h64 HV
  go_enter Tryz.func83, Tryz.ntmps83
  go_wp2_with (go_at_call 150; (with_reducible refine HU.out.mono ?_); rintro e w' ⟨rfl, rfl⟩)
  go_ret3
  refine ⟨?_, rfl⟩
  rw [← HR.out]
  rfl

set_option maxHeartbeats 1000000 in
theorem ref_right (p : Page) (w : World) (h : p.right = true) :
    Calls Tryz.prog 84 #[.agg #[intV p.id, intV p.epoch, intV p.kind, strV p.payload]] w fun e w' => e = .returned (.bool true) ∧ Chg [] w w' := by
  obtain ⟨i, ep, k, b⟩ := p
  simp only [Page.right, decide_eq_true_eq] at h
  obtain ⟨h1, h2, h3, h4, h5⟩ := h
  have HB := Lib.hid (Blk.new w 55 [intV i, intV ep, intV k, strV b])
  have c0 := HB.out.cell 0
  have c1 := HB.out.cell 1
  have c2 := HB.out.cell 2
  go_enter Tryz.func84, Tryz.ntmps84
  go_wp2_with fail
  go_ret
  exact ⟨rfl, (Chg.refl _ _).alloc _⟩

end Go.Proofs.YtjbpdgknhbnfgaaGreat

namespace Go.Proofs.YtjbpdgknhbnfgaaGreat
open Go.RowKit
set_option maxRecDepth 100000

theorem pageGet_parts {s : Bytes} {p : Page} (h : pageGet s = (p, 0)) : s.length = 256 ∧ crcLay (s.drop 4) = s ∧ p = pageOf s ∧ p.right = true := by
  unfold pageGet at h
  by_cases h1 : s.length ≠ 256
  · rw [if_pos h1] at h; simp at h
  rw [if_neg h1] at h
  by_cases h2 : crcOk s = false
  · rw [if_pos h2] at h; simp at h
  rw [if_neg h2] at h
  by_cases h3 : (pageOf s).right = false
  · rw [if_pos h3] at h; simp at h
  rw [if_neg h3] at h
  have h4 : crcOk s = true := by simpa using h2
  unfold crcOk at h4
  have h5 : crcFour (crcSum (s.drop 4)) = s.take 4 := by simpa using h4
  have hp : pageOf s = p := by simpa using h
  refine ⟨by simpa using h1, ?_, hp.symm, by rw [← hp]; simpa using h3⟩
  unfold crcLay
  rw [h5, List.take_append_drop]
theorem kind_of (s : Bytes) (h : s.length = 256) : (unbe ((s.drop 20).take 4) : Int) = ((s.getD 20 0).toNat : Int) * 16777216 + ((s.getD 21 0).toNat : Int) * 65536 + ((s.getD 22 0).toNat : Int) * 256 + ((s.getD 23 0).toNat : Int) := by
  have e : unbe ((s.drop 20).take 4) = be8 s 20 4 := rfl
  have h0 : be8 s 20 0 = 0 := rfl
  rw [e, be8_succ s 20 3 (by omega), be8_succ s 20 2 (by omega), be8_succ s 20 1 (by omega), be8_succ s 20 0 (by omega), h0]
  simp only [Nat.add_zero, Nat.reduceAdd]
  omega

theorem str_drop (s : Bytes) (k : Nat) (h : s.length = 256) : (⟨s.toArray⟩ : ByteArray).extract k 256 = ⟨(s.drop k).toArray⟩ := by
  apply ByteArray.ext
  rw [ByteArray.data_extract]
  simp [List.take_of_length_le, h]
set_option maxHeartbeats 2000000 in
theorem r11_get (s : Bytes) (p : Page) (w : World) (h : pageGet s = (p, 0)) :
    Calls Tryz.prog 25 #[strV s] w fun e w' => e = .returned (.tuple #[pageV p, intV 0]) ∧ Chg [] w w' := by
  obtain ⟨h1, h2, h3, h4⟩ := pageGet_parts h
  have hk := kind_of s h1
  have HL := fun wr => ref_lay (s.drop 4) wr (by simp; omega)
  rw [h2] at HL
  have HLAY := Lib.hid HL
  have HI1 : Hid (∀ wr, Calls Tryz.prog 83 #[strV s, intV 4] wr fun e w' => e = .returned (.tuple #[intV (unpackI ((s.drop 4).take 8)), intV 12, intV 0]) ∧ wr = w') := Lib.hid (fun wr => ref_readI s 4 wr (by omega) (by omega))
  have HI2 : Hid (∀ wr, Calls Tryz.prog 83 #[strV s, intV 12] wr fun e w' => e = .returned (.tuple #[intV (unpackI ((s.drop 12).take 8)), intV 20, intV 0]) ∧ wr = w') := Lib.hid (fun wr => ref_readI s 12 wr (by omega) (by omega))
  have hid : p.id = unpackI ((s.drop 4).take 8) := by rw [h3]; rfl
  have hep : p.epoch = unpackI ((s.drop 12).take 8) := by rw [h3]; rfl
  have hkd : p.kind = unbe ((s.drop 20).take 4) := by rw [h3]; rfl
  have hpl : p.payload = s.drop 24 := by rw [h3]; rfl
  have hR := fun wr => ref_right p wr h4
  rw [hkd, hk] at hR
  rw [hid, hep, hpl] at hR
  have HR := Lib.hid hR
  have HP : Hid (pageV p = .agg #[intV (unpackI ((s.drop 4).take 8)), intV (unpackI ((s.drop 12).take 8)), intV (((s.getD 20 0).toNat : Int) * 16777216 + ((s.getD 21 0).toNat : Int) * 65536 + ((s.getD 22 0).toNat : Int) * 256 + ((s.getD 23 0).toNat : Int)), strV (s.drop 24)]) := Lib.hid (by
    unfold pageV
    rw [hid, hep, hkd, hk, hpl])
  clear hR h h2 h3 h4 hk HL hid hep hkd hpl
  generalize unpackI ((s.drop 4).take 8) = vi at *
  generalize unpackI ((s.drop 12).take 8) = ve at *
  have g20 := get_str s 20 (by omega)
  have g21 := get_str s 21 (by omega)
  have g22 := get_str s 22 (by omega)
  have g23 := get_str s 23 (by omega)
  have b20 : (s.getD 20 0).toNat < 256 := (s.getD 20 0).toNat_lt
  have b21 : (s.getD 21 0).toNat < 256 := (s.getD 21 0).toNat_lt
  have b22 : (s.getD 22 0).toNat < 256 := (s.getD 22 0).toNat_lt
  have b23 : (s.getD 23 0).toNat < 256 := (s.getD 23 0).toNat_lt
  have hR0 : Blk (w.alloc (.cells #[intV 0, intV 0, intV 0, .string ⟨#[]⟩] 55)) w.heap.size 55 [intV 0, intV 0, intV 0, .string ⟨#[]⟩] := Blk.new w _ _
  have HR0 := Lib.hid hR0
  clear hR0
  have x4 : (⟨s.toArray⟩ : ByteArray).extract 4 256 = ⟨(s.drop 4).toArray⟩ := str_drop s 4 h1
  have x24 : (⟨s.toArray⟩ : ByteArray).extract 24 256 = ⟨(s.drop 24).toArray⟩ := str_drop s 24 h1
  go_enter Tryz.func25, Tryz.ntmps25
  go_wp2_with (first
    | (go_at_call 82; (with_reducible refine (HLAY.out _).mono ?_); rintro e w2 ⟨rfl, h2⟩; have C2 := Lib.hid (((Chg.refl [] w).alloc _).trans0 h2); have R2 := HR0.out.kept h2 (by simp); have RR2 := Lib.hid R2; obtain ⟨⟨r0, r1, r2, r3⟩, y0, y1, y2, y3⟩ := page_at R2; clear h2 R2)
    | (go_at_call 83; (first | (with_reducible refine (HI1.out _).mono ?_) | (with_reducible refine (HI2.out _).mono ?_)); rintro e w3 ⟨rfl, rfl⟩))
  generalize s.getD 20 0 = q0 at *
  generalize s.getD 21 0 = q1 at *
  generalize s.getD 22 0 = q2 at *
  generalize s.getD 23 0 = q3 at *
  have i0 : (q0.toNat : Int) < 256 := by omega
  have i1 : (q1.toNat : Int) < 256 := by omega
  have i2 : (q2.toNat : Int) < 256 := by omega
  have i3 : (q3.toNat : Int) < 256 := by omega
  go_quiet (fail)
  have hF : Blk ((w2.drewN nq).alloc (.cells #[intV 0, intV 0, intV 0, .string ⟨#[]⟩] 55)) w2.heap.size 55 [intV 0, intV 0, intV 0, .string ⟨#[]⟩] := Blk.new (w2.drewN nq) _ _
  obtain ⟨⟨f0, f1, f2, f3⟩, z0, z1, z2, z3⟩ := page_at hF
  have HB4 : Hid (Blk ((((((w2.drewN nq).alloc (.cells #[intV 0, intV 0, intV 0, .string ⟨#[]⟩] 55)).setCell ⟨w2.heap.size, 0, none⟩ (intV vi)).setCell ⟨w2.heap.size, 1, none⟩ (intV ve)).setCell ⟨w2.heap.size, 2, none⟩ (intV ((q0.toNat : Int) * 16777216 + (q1.toNat : Int) * 65536 + (q2.toNat : Int) * 256 + (q3.toNat : Int)))).setCell ⟨w2.heap.size, 3, none⟩ (strV (s.drop 24))) w2.heap.size 55 [intV vi, intV ve, (intV ((q0.toNat : Int) * 16777216 + (q1.toNat : Int) * 65536 + (q2.toNat : Int) * 256 + (q3.toNat : Int))), strV (s.drop 24)]) := Lib.hid ((((hF.set 0 _).set 1 _).set 2 _).set 3 _)
  have hne : w.heap.size ≠ w2.heap.size := by have := RR2.out.lt; omega
  have HR4 : Hid (Blk ((((((w2.drewN nq).alloc (.cells #[intV 0, intV 0, intV 0, .string ⟨#[]⟩] 55)).setCell ⟨w2.heap.size, 0, none⟩ (intV vi)).setCell ⟨w2.heap.size, 1, none⟩ (intV ve)).setCell ⟨w2.heap.size, 2, none⟩ (intV ((q0.toNat : Int) * 16777216 + (q1.toNat : Int) * 65536 + (q2.toNat : Int) * 256 + (q3.toNat : Int)))).setCell ⟨w2.heap.size, 3, none⟩ (strV (s.drop 24))) w.heap.size 55 [intV 0, intV 0, intV 0, .string ⟨#[]⟩]) := Lib.hid (((((RR2.out.drewN nq).alloc _).other _ _ hne).other _ _ hne).other _ _ hne |>.other _ _ hne)
  have HC4 : Hid (Chg [] w ((((((w2.drewN nq).alloc (.cells #[intV 0, intV 0, intV 0, .string ⟨#[]⟩] 55)).setCell ⟨w2.heap.size, 0, none⟩ (intV vi)).setCell ⟨w2.heap.size, 1, none⟩ (intV ve)).setCell ⟨w2.heap.size, 2, none⟩ (intV ((q0.toNat : Int) * 16777216 + (q1.toNat : Int) * 65536 + (q2.toNat : Int) * 256 + (q3.toNat : Int)))).setCell ⟨w2.heap.size, 3, none⟩ (strV (s.drop 24)))) := Lib.hid (chg_four ((C2.out.drewN nq).alloc _) _ C2.out.size _ _ _ _)
  clear hF hne
  go_wp2_with (go_at_call 84; (with_reducible refine (HR.out _).mono ?_); rintro e w5 ⟨rfl, h5⟩; obtain ⟨⟨a0, a1, a2, a3⟩, -⟩ := page_at (HB4.out.kept h5 (by simp)); have R5 := Lib.hid (HR4.out.kept h5 (by simp)); obtain ⟨⟨t0, t1, t2, t3⟩, u0, u1, u2, u3⟩ := page_at R5.out; have C5 := Lib.hid (HC4.out.trans0 h5); clear h5)
  exact bodyPost_ret (v := .tuple #[pageV p, intV 0]) (by rw [HP.out]; simp [results, Tryz.results25, go_sem, t0, t1, t2, t3]) rfl ⟨rfl, chg_four C5.out _ (Nat.le_refl _) _ _ _ _⟩

end Go.Proofs.YtjbpdgknhbnfgaaGreat

namespace Go.Proofs.YtjbpdgknhbnfgaaGreat
open Go.RowKit
set_option maxRecDepth 100000

theorem cmp_isNaN (x : Int) (w : World) : Calls Tryz.prog 209 #[intV x] w fun e w' => e = .returned (.bool false) ∧ w = w' := by
  go_enter Tryz.func209, Tryz.ntmps209
  go_wp2_with fail
  go_ret
  exact ⟨rfl, rfl⟩
theorem cmp_less (x y : Int) (w : World) : Calls Tryz.prog 188 #[intV x, intV y] w fun e w' => e = .returned (.bool (decide (x < y))) ∧ w = w' := by
  go_enter Tryz.func188, Tryz.ntmps188
  go_wp2_with (first | (go_at_call 209; (with_reducible refine (cmp_isNaN _ _).mono ?_); rintro e w' ⟨rfl, rfl⟩))
  go_ret
  exact ⟨rfl, rfl⟩

/-! in order -/
def Asc (l : List Int) : Prop := l.Pairwise (· ≤ ·)
theorem asc_insert {A B : List Int} {x : Int} (h : Asc (A ++ B)) (ha : ∀ a ∈ A, a ≤ x) (hb : ∀ b ∈ B, x ≤ b) : Asc (A ++ x :: B) := by
  unfold Asc at *
  rw [List.pairwise_append] at h ⊢
  obtain ⟨h1, h2, h3⟩ := h
  refine ⟨h1, List.pairwise_cons.2 ⟨hb, h2⟩, fun a ha' b hb' => ?_⟩
  rcases List.mem_cons.1 hb' with rfl | hb'
  · exact ha a ha'
  · exact h3 a ha' b hb'
theorem ints_mid (A C : List Int) (x : Int) (k : Nat) (hk : A.length = k) : (ints (A ++ x :: C))[k]? = some (intV x) := by
  rw [ints_get, ← hk, List.getElem?_append_right (Nat.le_refl _), Nat.sub_self]
  rfl
theorem ints_mid_set (A C : List Int) (x y : Int) (k : Nat) (hk : A.length = k) : (ints (A ++ x :: C)).set k (intV y) = ints (A ++ y :: C) := by
  unfold ints
  rw [List.map_append, List.map_append, List.map_cons, List.map_cons, List.set_append_right _ _ (by simp [hk]), ← hk]
  simp

/-- A slice of integers that holds the numbers L. -/
structure IntsAt (w : World) (g n cap : Nat) (L : List Int) : Prop where
  own : Own w 3 1 (.slice (some ⟨g, 0, none⟩) n cap) n (ints L)
  len : L.length = n

/-- One round's inner loop: x on its way down. -/
structure SinkSt (w0 wr : World) (g n cap : Nat) (L0 : List Int) (i j : Nat) : Prop where
  ex : ∃ (A B C : List Int) (x : Int), IntsAt wr g n cap (A ++ x :: (B ++ C)) ∧ A.length = j ∧ A.length + B.length = i ∧ Asc (A ++ B) ∧ (∀ b ∈ B, x ≤ b) ∧ (A ++ x :: (B ++ C)).Perm L0
  chg : Chg [g] w0 wr
/-- Between the rounds. -/
structure SortSt (w0 wr : World) (g n cap : Nat) (L0 : List Int) (i : Nat) : Prop where
  ex : ∃ (A C : List Int), IntsAt wr g n cap (A ++ C) ∧ A.length = i ∧ Asc A ∧ (A ++ C).Perm L0
  chg : Chg [g] w0 wr

theorem SortSt.sink {w0 wr : World} {g n cap : Nat} {L0 : List Int} {i : Nat} (h : SortSt w0 wr g n cap L0 i) (hi : i < n) : SinkSt w0 wr g n cap L0 i i := by
  obtain ⟨A, C, h1, h2, h3, h4⟩ := h.ex
  obtain ⟨x, C', rfl⟩ : ∃ x C', C = x :: C' := by
    cases C with
    | nil => have := h1.len; simp at this; omega
    | cons x C' => exact ⟨x, C', rfl⟩
  exact ⟨⟨A, [], C', x, by simpa using h1, h2, by simpa using h2, by simpa using h3, by simp, by simpa using h4⟩, h.chg⟩
/-- x has come to rest. -/
theorem SinkSt.rest {w0 wr : World} {g n cap : Nat} {L0 : List Int} {i j : Nat} (h : SinkSt w0 wr g n cap L0 i j) (hj : j = 0 ∨ ∃ k p q, j = k + 1 ∧ wr.cell? ⟨g, k, none⟩ = some (intV p) ∧ wr.cell? ⟨g, j, none⟩ = some (intV q) ∧ ¬ q < p) : SortSt w0 wr g n cap L0 (i + 1) := by
  obtain ⟨A, B, C, x, h1, h2, h3, h4, h5, h6⟩ := h.ex
  refine ⟨⟨A ++ x :: B, C, by simpa using h1, by simp; omega, asc_insert h4 (fun a ha => ?_) h5, by simpa using h6⟩, h.chg⟩
  rcases hj with hj | ⟨k, p, q, hk, c1, c2, hpq⟩
  · have : A = [] := List.eq_nil_of_length_eq_zero (by omega)
    subst this
    cases ha
  · obtain ⟨A', y, rfl⟩ : ∃ A' y, A = A' ++ [y] := by
      rcases List.eq_nil_or_concat A with h0 | ⟨A', y, h0⟩
      · subst h0; simp at h2; omega
      · exact ⟨A', y, by simpa using h0⟩
    have hl : A'.length = k := by simp at h2; omega
    have hlen := h1.len
    have e1 := (h1.own.cell rfl (i := k) (by simp at hlen; omega)).1
    have e2 := (h1.own.cell rfl (i := j) (by simp at hlen h2; omega)).1
    have f1 : A' ++ [y] ++ x :: (B ++ C) = A' ++ y :: (x :: (B ++ C)) := by simp
    rw [f1, ints_mid _ _ _ k hl] at e1
    rw [ints_mid _ _ _ j h2] at e2
    rw [e1] at c1
    rw [e2] at c2
    simp at c1 c2
    subst c1 c2
    rw [Asc, List.append_assoc, List.pairwise_append] at h4
    obtain ⟨-, -, h43⟩ := h4
    rcases List.mem_append.1 ha with ha | ha
    · have := h43 a ha y (by simp)
      omega
    · simp at ha
      subst ha
      omega
/-- x goes one place down. -/
theorem SinkSt.down {w0 wr : World} {g n cap : Nat} {L0 : List Int} {i j : Nat} (h : SinkSt w0 wr g n cap L0 i (j + 1)) (hi : i < n) {p q : Int} (c1 : wr.cell? ⟨g, j, none⟩ = some (intV p)) (c2 : wr.cell? ⟨g, j + 1, none⟩ = some (intV q)) (hpq : q < p) :
    SinkSt w0 ((wr.setCell ⟨g, j + 1, none⟩ (intV p)).setCell ⟨g, j, none⟩ (intV q)) g n cap L0 i j := by
  obtain ⟨A, B, C, x, h1, h2, h3, h4, h5, h6⟩ := h.ex
  obtain ⟨A', y, rfl⟩ : ∃ A' y, A = A' ++ [y] := by
    rcases List.eq_nil_or_concat A with h0 | ⟨A', y, h0⟩
    · subst h0; simp at h2
    · exact ⟨A', y, by simpa using h0⟩
  have hl : A'.length = j := by simpa using h2
  have hlen := h1.len
  have e1 := (h1.own.cell rfl (i := j) (by omega)).1
  have e2 := (h1.own.cell rfl (i := j + 1) (by omega)).1
  have f1 : A' ++ [y] ++ x :: (B ++ C) = A' ++ y :: (x :: (B ++ C)) := by simp
  rw [f1, ints_mid _ _ _ j hl] at e1
  rw [ints_mid _ _ _ (j + 1) h2] at e2
  rw [e1] at c1
  rw [e2] at c2
  simp at c1 c2
  subst c1 c2
  have o1 := h1.own.set rfl (j + 1) (by omega) (intV y)
  rw [ints_mid_set _ _ _ _ (j + 1) h2] at o1
  have o2 := o1.set rfl j (by omega) (intV x)
  have f2 : A' ++ [y] ++ y :: (B ++ C) = A' ++ y :: (y :: (B ++ C)) := by simp
  rw [f2, ints_mid_set _ _ _ _ j hl] at o2
  refine ⟨⟨A', y :: B, C, x, ⟨o2, by simpa using hlen⟩, hl, by simp at h3 ⊢; omega, by simpa using h4, fun b hb => ?_, ?_⟩, (h.chg.setCell _ _ (.inl (by simp))).setCell _ _ (.inl (by simp))⟩
  · rcases List.mem_cons.1 hb with rfl | hb
    · omega
    · exact h5 b hb
  · refine List.Perm.trans ?_ h6
    have : (A' ++ x :: (y :: B ++ C)).Perm (A' ++ y :: (x :: (B ++ C))) := List.Perm.append_left A' (List.Perm.swap _ _ _)
    rw [f1]
    exact this

theorem IntsAt.on0 {w w' : World} {g n cap : Nat} {L : List Int} (h : IntsAt w g n cap L) (hc : Chg [] w w') : IntsAt w' g n cap L := ⟨h.own.kept hc (by simp), h.len⟩
theorem SinkSt.on0 {w0 wr w' : World} {g n cap : Nat} {L0 : List Int} {i j : Nat} (h : SinkSt w0 wr g n cap L0 i j) (hc : Chg [] wr w') : SinkSt w0 w' g n cap L0 i j := by
  obtain ⟨A, B, C, x, h1, h2⟩ := h.ex
  exact ⟨⟨A, B, C, x, h1.on0 hc, h2⟩, h.chg.trans0 hc⟩
theorem SortSt.on0 {w0 wr w' : World} {g n cap : Nat} {L0 : List Int} {i : Nat} (h : SortSt w0 wr g n cap L0 i) (hc : Chg [] wr w') : SortSt w0 w' g n cap L0 i := by
  obtain ⟨A, C, h1, h2⟩ := h.ex
  exact ⟨⟨A, C, h1.on0 hc, h2⟩, h.chg.trans0 hc⟩
theorem chg_row {w w' : World} (hc : Chg [] w w') {a : Addr} {v : Value} (h : w.cell? a = some v) : w'.cell? a = w.cell? a := World.cell?_of_block (w := w) (hc.block a.block (World.block_lt_of_cell? w a h) (by simp))
theorem SinkSt.cell {w0 wr : World} {g n cap : Nat} {L0 : List Int} {i j : Nat} (h : SinkSt w0 wr g n cap L0 i j) {k : Nat} (hk : k < n) : ∃ p, wr.cell? ⟨g, k, none⟩ = some (intV p) ∧ wr.frozen? ⟨g, k, none⟩ = false := by
  obtain ⟨A, B, C, x, h1, -⟩ := h.ex
  obtain ⟨e1, e2⟩ := h1.own.cell rfl (i := k) hk
  have hl := h1.len
  rw [ints_get, List.getElem?_eq_getElem (by omega)] at e1
  exact ⟨_, e1, e2⟩

set_option maxHeartbeats 2000000 in
theorem ins_sort {w : World} {g n cap : Nat} {L : List Int} (h : IntsAt w g n cap L) (hn : 1 ≤ n) (hn2 : n ≤ 60000) (hcap : n ≤ cap) (_hmax : cap ≤ maxLen) :
    Calls Tryz.prog 182 #[.slice (some ⟨g, 0, none⟩) n cap, intV 0, intV n] w fun e w' => e = .returned (.tuple #[]) ∧ SortSt w w' g n cap L n := by
  have H0 : Hid (SortSt w w g n cap L 1) := Lib.hid (by
    obtain ⟨x, L', rfl⟩ : ∃ x L', L = x :: L' := by
      cases L with
      | nil => have := h.len; simp at this; omega
      | cons x L' => exact ⟨x, L', rfl⟩
    exact ⟨⟨[x], L', h, rfl, List.pairwise_singleton _ _, List.Perm.refl _⟩, Chg.refl _ _⟩)
  clear h
  go_enter Tryz.func182, Tryz.ntmps182
  go_wp2_with fail
  go_loopw [6] (fun i wr => ∃ k : Nat, 1 ≤ k ∧ k ≤ n ∧ i = .int .i64 k ∧ SortSt w wr g n cap L k) (fun i _ => n - (intOf i).toNat)
  case atStart => exact ⟨1, Nat.le_refl _, hn, rfl, H0.out⟩
  case round =>
    obtain ⟨k, hk1, hk, rfl, hs⟩ := hrel
    by_cases hlt : k < n
    · have hkI : (k : Int) < (n : Int) := by omega
      have HS := Lib.hid (hs.sink hlt)
      clear hs
      go_wp2_with fail
      go_loopw [7] (fun j w2 => ∃ m : Nat, m ≤ k ∧ j = .int .i64 m ∧ SinkSt w w2 g n cap L k m) (fun j _ => (intOf j).toNat)
      case atStart => exact ⟨k, Nat.le_refl _, rfl, HS.out⟩
      case round =>
        obtain ⟨jn, hjk, rfl, hs⟩ := hrel
        have HI := Lib.hid hs
        clear hs HS
        by_cases hj0 : jn = 0
        · have z1 : decide (0 < (jn : Int)) = false := by simp; omega
          have z1n : decide (0 < jn) = false := by simp; omega
          have HR := Lib.hid (HI.out.rest (.inl hj0))
          clear hj0
          go_wp2_with fail
          go_quiet (fail)
          go_wp2_with fail
          go_roundw
          case rel => exact ⟨k + 1, by omega, by omega, by go_num, HR.out.on0 ((Chg.refl [] _).drewN _)⟩
          case measure => simp [intOf]; omega
        · obtain ⟨m, hm⟩ : ∃ m, jn = m + 1 := ⟨jn - 1, by omega⟩
          have z1 : decide (0 < (jn : Int)) = true := by simp; omega
          have z1n : decide (0 < jn) = true := by simp; omega
          have hjm : (jn : Int) - 1 = (m : Int) := by omega
          have hjI : (jn : Int) < (n : Int) := by omega
          have hmI : (m : Int) < (n : Int) := by omega
          have hj6 : (jn : Int) ≤ 60000 := by omega
          obtain ⟨p, c1, f1⟩ := HI.out.cell (k := m) (by omega)
          obtain ⟨q, c2, f2⟩ := HI.out.cell (k := jn) (by omega)
          have HM := Lib.hid hm
          clear hj0 hm
          by_cases hqp : q < p
          · have z2 : decide (q < p) = true := by simpa using hqp
            have HD : Hid (∀ wr', Chg [] _ wr' → SinkSt w ((wr'.setCell ⟨g, jn, none⟩ (intV p)).setCell ⟨g, m, none⟩ (intV q)) g n cap L k m) := Lib.hid fun wr' hc => by
              have hm := HM.out
              subst hm
              exact (HI.out.on0 hc).down hlt ((chg_row hc c1).trans c1) ((chg_row hc c2).trans c2) hqp
            clear hqp
            go_wp2_with fail
            go_quiet ((first | (go_at_call 188; exact quiet_kept (cmp_less q p _))))
            go_wp2_with fail
            have ka : (wr.drewN nq).drew.cell? ⟨g, m, none⟩ = some (intV p) ∧ (wr.drewN nq).drew.cell? ⟨g, jn, none⟩ = some (intV q) := ⟨c1, c2⟩
            have kd : ∀ x, ((wr.drewN (nq + 1)).setCell ⟨g, jn, none⟩ x).cell? ⟨g, m, none⟩ = some (intV p) := fun x => (World.cell?_setCell_other _ ⟨g, jn, none⟩ ⟨g, m, none⟩ x (by intro e; have := HM.out; simp at e <;> omega)).trans c1
            have hwm : IntKind.i64.wrap (m : Int) = (m : Int) := IntWalk.i64_in _ (by omega)
            refine wp_region_late (fun w' => w'.cell? ⟨g, m, none⟩ = some (intV p) ∧ w'.cell? ⟨g, jn, none⟩ = some (intV q)) (fun j => decide (14 ≤ j)) (by kernel_rfl) 18 rfl ?_
            refine wpAnyL_pure (v := ?v0) 0 33 rfl rfl (by kernel_rfl) (by kernel_rfl) (by kernel_rfl) (by rfl) (fun _ _ _ h => h) ?hy0 ?rest0
            case hy0 => intro w; go_simp; with_reducible rfl
            simp only [List.setIfInBounds_toArray, List.set_cons_zero, List.set_cons_succ]
            refine wpAnyL_pure (v := ?v1) 1 34 rfl rfl (by kernel_rfl) (by kernel_rfl) (by kernel_rfl) (by rfl) (fun _ _ _ h => h) ?hy1 ?rest1
            case hy1 => intro w; go_simp; with_reducible rfl
            simp only [List.setIfInBounds_toArray, List.set_cons_zero, List.set_cons_succ]
            refine wpAnyL_pure (v := ?v2) 2 35 rfl rfl (by kernel_rfl) (by kernel_rfl) (by kernel_rfl) (by rfl) (fun _ _ _ h => h) ?hy2 ?rest2
            case hy2 => intro w; go_simp; with_reducible rfl
            simp only [List.setIfInBounds_toArray, List.set_cons_zero, List.set_cons_succ]
            refine wpAnyL_pure (v := ?v3) 3 36 rfl rfl (by kernel_rfl) (by kernel_rfl) (by kernel_rfl) (by rfl) (fun _ _ _ h => h) ?hy3 ?rest3
            case hy3 => intro w; go_simp; with_reducible rfl
            simp only [List.setIfInBounds_toArray, List.set_cons_zero, List.set_cons_succ]
            refine wpAnyL_pure (v := ?v4) 4 37 rfl rfl (by kernel_rfl) (by kernel_rfl) (by kernel_rfl) (by rfl) (fun _ _ _ h => h) ?hy4 ?rest4
            case hy4 => intro w; go_simp; with_reducible rfl
            simp only [List.setIfInBounds_toArray, List.set_cons_zero, List.set_cons_succ]
            refine wpAnyL_pure (v := ?v5) 5 38 rfl rfl (by kernel_rfl) (by kernel_rfl) (by kernel_rfl) (by rfl) (fun _ _ _ h => h) ?hy5 ?rest5
            case hy5 => intro w; go_simp; with_reducible rfl
            simp only [List.setIfInBounds_toArray, List.set_cons_zero, List.set_cons_succ]
            refine wpAnyL_pure (v := ?v6) 6 39 rfl rfl (by kernel_rfl) (by kernel_rfl) (by kernel_rfl) (by rfl) (fun _ _ _ h => h) ?hy6 ?rest6
            case hy6 => intro w; go_simp; with_reducible rfl
            simp only [List.setIfInBounds_toArray, List.set_cons_zero, List.set_cons_succ]
            refine wpAnyL_pure (v := ?v7) 7 40 rfl rfl (by kernel_rfl) (by kernel_rfl) (by kernel_rfl) (by rfl) (fun _ _ _ h => h) ?hy7 ?rest7
            case hy7 => intro w; go_simp; with_reducible rfl
            simp only [List.setIfInBounds_toArray, List.set_cons_zero, List.set_cons_succ]
            refine wpAnyL_pure (v := ?v8) 8 41 rfl rfl (by kernel_rfl) (by kernel_rfl) (by kernel_rfl) (by rfl) (fun _ _ _ h => h) ?hy8 ?rest8
            case hy8 => intro w; go_simp; with_reducible rfl
            simp only [List.setIfInBounds_toArray, List.set_cons_zero, List.set_cons_succ]
            refine wpAnyL_load (v := ?v9) 9 42 rfl rfl (by kernel_rfl) (by kernel_rfl) (by kernel_rfl) (by kernel_rfl) (by rfl) (fun _ _ _ h => h) ka ?hy9 ?rest9
            case hy9 => intro w hS; obtain ⟨s1, s2⟩ := hS; go_simp; with_reducible rfl
            simp only [List.setIfInBounds_toArray, List.set_cons_zero, List.set_cons_succ]
            refine wpAnyL_pure (v := ?v10) 10 43 rfl rfl (by kernel_rfl) (by kernel_rfl) (by kernel_rfl) (by rfl) (fun _ _ _ h => h) ?hy10 ?rest10
            case hy10 => intro w; go_simp; with_reducible rfl
            simp only [List.setIfInBounds_toArray, List.set_cons_zero, List.set_cons_succ]
            refine wpAnyL_pure (v := ?v11) 11 44 rfl rfl (by kernel_rfl) (by kernel_rfl) (by kernel_rfl) (by rfl) (fun _ _ _ h => h) ?hy11 ?rest11
            case hy11 => intro w; go_simp; with_reducible rfl
            simp only [List.setIfInBounds_toArray, List.set_cons_zero, List.set_cons_succ]
            refine wpAnyL_pure (v := ?v12) 12 45 rfl rfl (by kernel_rfl) (by kernel_rfl) (by kernel_rfl) (by rfl) (fun _ _ _ h => h) ?hy12 ?rest12
            case hy12 => intro w; go_simp; with_reducible rfl
            simp only [List.setIfInBounds_toArray, List.set_cons_zero, List.set_cons_succ]
            refine wpAnyL_load (v := ?v13) 13 46 rfl rfl (by kernel_rfl) (by kernel_rfl) (by kernel_rfl) (by kernel_rfl) (by rfl) (fun _ _ _ h => h) ka ?hy13 ?rest13
            case hy13 => intro w hS; obtain ⟨s1, s2⟩ := hS; go_simp; with_reducible rfl
            simp only [List.setIfInBounds_toArray, List.set_cons_zero, List.set_cons_succ]
            refine wpAnyL_pure (v := ?v14) 14 47 rfl rfl (by kernel_rfl) (by kernel_rfl) (by kernel_rfl) (by rfl) (fun _ _ _ h => h) ?hy14 ?rest14
            case hy14 => intro w; go_simp; with_reducible rfl
            simp only [List.setIfInBounds_toArray, List.set_cons_zero, List.set_cons_succ]
            refine wpAnyL_store (w' := ?w15) 15 rfl rfl (by kernel_rfl) (by rfl) rfl ?hs15 ?rest15
            case hs15 => go_simp; with_reducible rfl
            refine wpAnyL_pure (v := ?v16) 16 48 rfl rfl (by kernel_rfl) (by kernel_rfl) (by kernel_rfl) (by rfl) (fun _ _ _ h => h) ?hy16 ?rest16
            case hy16 => intro w; go_simp; with_reducible rfl
            simp only [List.setIfInBounds_toArray, List.set_cons_zero, List.set_cons_succ]
            refine wpAnyL_store (w' := ?w17) 17 rfl rfl (by kernel_rfl) (by rfl) rfl ?hs17 ?rest17
            case hs17 => go_simp; with_reducible rfl
            refine wpAnyL_done (by kernel_rfl) ?_
            go_wp2_with fail
            go_roundw
            case rel => exact ⟨m, by have := HM.out; omega, by go_num, HD.out _ (((Chg.refl [] _).drewN _).drew)⟩
            case measure => have := HM.out; simp [intOf]; omega
          · have z2 : decide (q < p) = false := by simpa using hqp
            have HR := Lib.hid (HI.out.rest (.inr ⟨m, p, q, HM.out, c1, c2, hqp⟩))
            clear hqp
            go_wp2_with fail
            go_quiet ((first | (go_at_call 188; exact quiet_kept (cmp_less q p _))))
            go_wp2_with fail
            go_roundw
            case rel => exact ⟨k + 1, by omega, by omega, by go_num, HR.out.on0 ((Chg.refl [] _).drewN _)⟩
            case measure => simp [intOf]; omega
    · obtain rfl : k = n := by omega
      have HS := Lib.hid hs
      clear hs
      go_wp2_with fail
      go_end0
      exact ⟨rfl, HS.out⟩

end Go.Proofs.YtjbpdgknhbnfgaaGreat
