/- A part of the walks of the program's functions, each a contract that its caller uses; no condition but what each theorem names. Lists of calls as they come in. The walk of the law ShadowDoes. A nil store, and no disk. The walk of the law ShadowNone. -/
import Derived.Test.YtjbpdgknhbnfgaaGreatM20
import Derived.Deep.Slices
import Derived.Deep.Fields
import Derived.Deep.RegionHeld
import Derived.ChangeSame

namespace Go.Proofs.YtjbpdgknhbnfgaaGreat
open Go.RowKit Go.ChangeShapes Go.WideShapes
set_option maxRecDepth 100000

/-! a call read out of the list that came in -/
def actAt (w : World) (v : Value) : Value :=
  match v with
  | .pointer (some a) => .agg #[(w.cell? (a.add 0)).getD (.bool false), (w.cell? (a.add 1)).getD (.bool false), (w.cell? (a.add 2)).getD (.bool false)]
  | _ => .bool false
def ActRow (w : World) (v : Value) : Prop := ∃ a u0 u1 u2, v = .pointer (some a) ∧ w.cell? (a.add 0) = some u0 ∧ w.cell? (a.add 1) = some u1 ∧ w.cell? (a.add 2) = some u2
theorem info_act : (Tryz.prog.info? 31).map (·.size) = some 3 := by kernel_rfl
theorem load_act {ρ : Operand → Value} {w : World} {x : Operand} {dst type pos after guard} (h : ActRow w (ρ x)) :
    (execOp ρ { dst := dst, op := .load 31 x, type := type, pos := pos, after := after, guard := guard }).run Tryz.prog w = .ok (.value (actAt w (ρ x))) w := by
  obtain ⟨a, u0, u1, u2, hv, c0, c1, c2⟩ := h
  have hl : (loadCells a 3).run Tryz.prog w = .ok #[u0, u1, u2] w := by
    have := run_loadCells_list (P := Tryz.prog) w a [u0, u1, u2] (fun j v hv => by
      rcases j with _ | _ | _ | j
      · simp at hv; subst hv; exact c0
      · simp at hv; subst hv; exact c1
      · simp at hv; subst hv; exact c2
      · simp at hv)
    exact this
  have hlv : (loadVar 31 a).run Tryz.prog w = .ok (.agg #[u0, u1, u2]) w := by
    cases hq : Tryz.prog.info? 31 with
    | none => have := info_act; simp [hq] at this
    | some i =>
      have hs : i.size = 3 := by have := info_act; simpa [hq] using this
      have hagg : (isAgg 31).run Tryz.prog w = .ok true w := by
        unfold isAgg
        rw [Sem.run_bind, run_underlying Tryz.underlying31 w]
        simp
      simp [loadVar, Sem.run_bind, hagg, sizeOf, typeInfo, hq, hs, hl]
  simp only [execOp, hv, Instr.loadAt, Instr.sureAddr, Sem.run_bind, Sem.run_pure, Result.andThen_ok, hlv, actAt, c0, c1, c2, Option.getD_some]

/-- The list of calls as it came in. -/
structure ActsAt (w : World) (v : Value) (L : List Act14) : Prop where
  shape : v = .slice none 0 0 ∧ L = [] ∨ ∃ a cap, v = .slice (some a) L.length cap ∧ L.length ≤ cap ∧ cap ≤ maxLen ∧
    ∀ (i : Nat) (hi : i < L.length), w.cell? (a.add (i * 3 + 0)) = some (intV L[i].k) ∧ w.cell? (a.add (i * 3 + 1)) = some (intV L[i].l) ∧ w.cell? (a.add (i * 3 + 2)) = some (strV L[i].s)
theorem chg_cell {w w' : World} (h : Chg [] w w') {a : Addr} (ha : a.block < w.heap.size) : w'.cell? a = w.cell? a := World.cell?_of_block (w := w) (h.block a.block ha (by simp))
theorem addr_add_block (a : Addr) (j : Nat) : (a.add j).block = a.block := by unfold Addr.add; split <;> rfl
theorem ActsAt.kept {w w' : World} {v : Value} {L : List Act14} (h : ActsAt w v L) (hc : Chg [] w w') : ActsAt w' v L := by
  rcases h.shape with h0 | ⟨a, cap, h1, h2, h3, h5⟩
  · exact ⟨.inl h0⟩
  · refine ⟨.inr ⟨a, cap, h1, h2, h3, fun i hi => ?_⟩⟩
    obtain ⟨g0, g1, g2⟩ := h5 i hi
    have h4 : a.block < w.heap.size := by
      have := World.block_lt_of_cell? w _ g0
      rw [addr_add_block] at this
      exact this
    refine ⟨?_, ?_, ?_⟩
    · rw [chg_cell hc (by rw [addr_add_block]; exact h4)]; exact g0
    · rw [chg_cell hc (by rw [addr_add_block]; exact h4)]; exact g1
    · rw [chg_cell hc (by rw [addr_add_block]; exact h4)]; exact g2
theorem ActsAt.len {w : World} {v : Value} {L : List Act14} (h : ActsAt w v L) : ∃ a cap, v = .slice a L.length cap ∧ L.length ≤ cap ∧ cap ≤ maxLen := by
  rcases h.shape with ⟨h0, h1⟩ | ⟨a, cap, h1, h2, h3, -⟩
  · subst h1; exact ⟨none, 0, h0, Nat.le_refl _, by unfold maxLen; omega⟩
  · exact ⟨some a, cap, h1, h2, h3⟩
theorem ActsAt.row {w : World} {v : Value} {L : List Act14} (h : ActsAt w v L) (i : Nat) (hi : i < L.length) : ∃ a cap, v = .slice (some a) L.length cap ∧ L.length ≤ cap ∧ cap ≤ maxLen ∧ ActRow w (.pointer (some (a.add (i * 3)))) ∧ actAt w (.pointer (some (a.add (i * 3)))) = L[i].v := by
  rcases h.shape with ⟨h0, h1⟩ | ⟨a, cap, h1, h2, h3, h5⟩
  · subst h1; simp at hi
  · obtain ⟨g0, g1, g2⟩ := h5 i hi
    rw [← Go.Deep.add_add] at g0 g1 g2
    refine ⟨a, cap, h1, h2, h3, ⟨_, _, _, _, rfl, g0, g1, g2⟩, ?_⟩
    unfold actAt
    dsimp only
    rw [g0, g1, g2]
    rfl

/-! out of a reading -/
def textOf : Value → Bytes
  | .string s => s.data.toList
  | _ => []
def numOf : Value → Int
  | .int _ n => n
  | _ => 0
def actOf (w : World) (a : Addr) (i : Nat) : Act14 :=
  ⟨numOf ((w.cell? (a.add (i * 3 + 0))).getD (.bool false)), numOf ((w.cell? (a.add (i * 3 + 1))).getD (.bool false)), textOf ((w.cell? (a.add (i * 3 + 2))).getD (.bool false))⟩

theorem acts_of_trod {H : Type} {enc : TypeId × Value → H} {w : World} {base : Nat} {spare : Nat → Bool} {held : Bool} {fuel : Nat} {v : Value} {x : DataW H × List MemPlace}
    (h : DataW.trod enc Tryz.prog w base spare held fuel 22 [v] = some x) : ∃ L : List Act14, ActsAt w v L := by
  have hC : Tryz.prog.cellsOf 31 = 3 := by kernel_rfl
  rcases Go.Deep.open_slice Tryz.underlying22 h with ⟨h0, -⟩ | ⟨a, len, cap, m, n, D, Pl, hcs, -, hl, hcm, hmm, -, hi⟩
  · exact ⟨[], ⟨.inl ⟨by simpa using h0, rfl⟩⟩⟩
  have hlm : len ≤ m := by
    rw [hmm]
    split <;> omega
  refine ⟨(List.range len).map (actOf w a), ⟨.inr ⟨a, cap, by simpa using hcs, by simpa using hl, hcm, fun i hil => ?_⟩⟩⟩
  have hil' : i < len := by simpa using hil
  have hel : ((List.range len).map (actOf w a))[i] = actOf w a i := by simp
  rw [hel]
  obtain ⟨cs', hc, ht'⟩ := hi i (by omega)
  rw [hC] at hc
  obtain ⟨ys, n', -, -, hlen, hyl, hf⟩ := DataW.trod_struct Tryz.underlying31 ht'
  obtain ⟨-, hcl, hat⟩ := World.cells?_some hc
  obtain ⟨y0, y1, y2, rfl⟩ : ∃ y0 y1 y2, cs' = [y0, y1, y2] := by
    match cs', hcl with
    | [y0, y1, y2], _ => exact ⟨y0, y1, y2, rfl⟩
  have c0 := hat 0 (by omega)
  have c1 := hat 1 (by omega)
  have c2 := hat 2 (by omega)
  rw [Go.Deep.add_add] at c0 c1 c2
  have hk : Tryz.prog.cellsOf 3 = 1 := by kernel_rfl
  have hs : Tryz.prog.cellsOf 9 = 1 := by kernel_rfl
  obtain ⟨z0, z1, z2, rfl⟩ : ∃ z0 z1 z2, ys = [z0, z1, z2] := by
    match ys, hyl with
    | [z0, z1, z2], _ => exact ⟨z0, z1, z2, rfl⟩
  have f0 : DataW.trod enc Tryz.prog w base spare held n' 3 (List.take (Tryz.prog.cellsOf 3) [y0, y1, y2]) = some z0 := hf 0 _ rfl
  have f1 : DataW.trod enc Tryz.prog w base spare held n' 3 (List.take (Tryz.prog.cellsOf 3) [y1, y2]) = some z1 := hf 1 _ rfl
  have f2 : DataW.trod enc Tryz.prog w base spare held n' 9 (List.take (Tryz.prog.cellsOf 9) [y2]) = some z2 := hf 2 _ rfl
  rw [hk] at f0 f1
  rw [hs] at f2
  obtain ⟨k0, e0, -, -⟩ := DataW.trod_int Tryz.underlying3 f0
  obtain ⟨k1, e1, -, -⟩ := DataW.trod_int Tryz.underlying3 f1
  obtain ⟨k2, e2, -, -⟩ := DataW.trod_string Tryz.underlying9 f2
  simp at e0 e1 e2
  subst e0 e1 e2
  simp only [List.getElem?_cons_zero, List.getElem?_cons_succ] at c0 c1 c2
  unfold actOf
  rw [c0, c1, c2]
  refine ⟨rfl, rfl, ?_⟩
  simp [textOf, strV]

end Go.Proofs.YtjbpdgknhbnfgaaGreat

namespace Go.Proofs.YtjbpdgknhbnfgaaGreat
open Go.RowKit
set_option maxRecDepth 100000

attribute [local go_sem ↓] load_act

theorem Ref.act_epoch (r : Ref) (a : Act14) : (r.act a).epoch ≤ r.epoch + 1 := by
  unfold Ref.act
  split
  · rw [(r.new_old _).2]; omega
  · split
    · rw [(r.drop_old _).2]; omega
    · split
      · rcases r.commit_epoch with h | h <;> omega
      · split
        · show r.epoch ≤ _; omega
        · split
          · show r.epoch ≤ _; omega
          · rw [(r.write_old _ _).2]; omega

set_option maxHeartbeats 2000000 in
theorem law_does (pg : Nat) (hpg : pg ≤ 255) (v : Value) (L : List Act14) (w : World) (hv : ActsAt w v L) :
    Calls Tryz.prog 3 #[.int .u8 pg, v] w (YesOk w) := by
  have hb1 : Calls Tryz.prog 13 #[intV ((pg : Int) % 14 + 1)] w (Begun14 w (pg % 14 + 1)) := by
    have := law14_begun (pg % 14 + 1) w (by omega) (by omega)
    rw [show ((pg % 14 + 1 : Nat) : Int) = (pg : Int) % 14 + 1 by omega] at this
    exact this
  have HB := Lib.hid hb1
  have HV : Hid (∀ w', Chg [] w w' → ActsAt w' v L) := Lib.hid fun w' hc => hv.kept hc
  obtain ⟨va, vc, rfl, hl1, hl2⟩ := hv.len
  clear hb1 hv
  have hp1 : (pg : Int) ≤ 255 := by omega
  go_enter Tryz.func3, Tryz.ntmps3
  go_wp2_with (first
    | (go_at_call 13; (with_reducible refine HB.out.mono ?_); rintro e w2 ⟨b, rb, rfl, h2⟩; have HP := Lib.hid h2; clear h2)
    | (go_at_call 14; (with_reducible refine (law14_awake _).mono ?_); rintro e w3 ⟨rfl, hc⟩; have HP := Lib.hid (HP.out.on0 hc); clear hc))
  have HDO : Hid (∀ (wr : World) (b' : StoreB) (rb' : RefB) (r : Ref) (a : Act14), b'.d = b.d → rb'.p = rb.p → Two w wr b' rb' r r → a.s.length < 500 → r.epoch ≤ 41 → Calls Tryz.prog 16 #[ptrV b.d.d, ptrV b'.s, ptrV rb.p, a.v] wr fun e w' => ∃ b2 rb2, e = .returned (.tuple #[ptrV b2.s, .bool true]) ∧ b2.d = b.d ∧ rb2.p = rb.p ∧ Two w w' b2 rb2 (r.act a) (r.act a)) := Lib.hid fun wr b' rb' r a e1 e2 h h1 h2 => by
    rw [← e1, ← e2]
    exact law14_do h a (by omega) (by omega)
  have HSM : Hid (∀ (wr : World) (b' : StoreB) (rb' : RefB) (r : Ref), rb'.p = rb.p → Two w wr b' rb' r r → Calls Tryz.prog 17 #[ptrV b'.s, ptrV rb.p] wr fun e w' => e = .returned (.bool true) ∧ Chg [] wr w') := Lib.hid fun wr b' rb' r e2 h => by
    rw [← e2]
    exact law14_same h.s h.x
  go_loopw [7, 9] (fun s i wr => ∃ (k : Nat) (b' : StoreB) (rb' : RefB) (r : Ref), k ≤ L.length ∧ k ≤ 40 ∧ i = .int .i64 k ∧ s = ptrV b'.s ∧ b'.d = b.d ∧ rb'.p = rb.p ∧ r.epoch ≤ 1 + k ∧ Two w wr b' rb' r r) (fun _ i _ => L.length - (intOf i).toNat)
  case atStart => exact ⟨0, b, rb, _, Nat.zero_le _, by omega, rfl, rfl, rfl, rfl, by show (1 : Int) ≤ 1 + ((0 : Nat) : Int); omega, HP.out⟩
  case round =>
    obtain ⟨k, b', rb', r, hk, hk4, rfl, rfl, hbd, hrp, hre, htw⟩ := hrel
    have HT := Lib.hid htw
    have HBD := Lib.hid hbd
    have HRP := Lib.hid hrp
    clear htw hbd hrp
    by_cases hlt : k < L.length
    · have hkI : (k : Int) < (L.length : Int) := by omega
      by_cases h40 : k < 40
      · have h4I : (k : Int) < 40 := by omega
        obtain ⟨a, cap, hvv, -, -, -, -⟩ := (HV.out w (Chg.refl _ _)).row k hlt
        simp only [Value.slice.injEq] at hvv
        obtain ⟨rfl, -, rfl⟩ := hvv
        have HR : Hid (∀ w', Chg [] w w' → ActRow w' (.pointer (some (a.add (k * 3)))) ∧ actAt w' (.pointer (some (a.add (k * 3)))) = L[k].v) := Lib.hid fun w' hc => by
          obtain ⟨a', cap', hv', -, -, g1, g2⟩ := (HV.out w' hc).row k hlt
          simp only [Value.slice.injEq, Option.some.injEq] at hv'
          obtain ⟨rfl, -, rfl⟩ := hv'
          exact ⟨g1, g2⟩
        have hae := Ref.act_epoch r L[k]
        generalize L[k] = act at *
        obtain ⟨R', hR'⟩ : ∃ R', r.act act = R' := ⟨_, rfl⟩
        have HDO1 : Hid (∀ wr, Two w wr b' rb' r r → act.s.length < 500 → Calls Tryz.prog 16 #[ptrV b.d.d, ptrV b'.s, ptrV rb.p, act.v] wr fun e w' => ∃ b2 rb2, e = .returned (.tuple #[ptrV b2.s, .bool true]) ∧ b2.d = b.d ∧ rb2.p = rb.p ∧ Two w w' b2 rb2 R' R') := Lib.hid fun wr h h1 => by
          rw [← hR']
          exact HDO.out wr b' rb' r act HBD.out HRP.out h h1 (by omega)
        have HSM1 : Hid (∀ wr, Two w wr b' rb' r r → Calls Tryz.prog 17 #[ptrV b'.s, ptrV rb.p] wr fun e w' => e = .returned (.bool true) ∧ Chg [] wr w') := Lib.hid fun wr h => HSM.out wr b' rb' r HRP.out h
        have HAE : Hid (R'.epoch ≤ 1 + ((k + 1 : Nat) : Int)) := Lib.hid (by rw [← hR']; omega)
        have HAE0 : Hid (r.epoch ≤ 1 + ((k + 1 : Nat) : Int)) := Lib.hid (by omega)
        obtain ⟨r1, r2⟩ := HR.out wr HT.out.chg
        clear hae hR' hre
        by_cases hs : act.s.length < 500
        · have z1 : decide (act.s.length < 500) = true := by simpa using hs
          have HS := Lib.hid hs
          clear hs
          go_wp2_with (first
            | (go_at_call 15; (with_reducible refine (law14_short act _).mono ?_); rintro e w4 ⟨rfl, hc⟩; have HT4 := Lib.hid (HT.out.on0 hc); obtain ⟨r3, r4⟩ := HR.out _ HT4.out.chg; clear hc)
            | (go_at_call 16; (with_reducible refine (HDO1.out _ HT4.out HS.out).mono ?_); rintro e w5 ⟨b2, rb2, rfl, e2, e3, h5⟩; have HT5 := Lib.hid h5; have E2 := Lib.hid e2; have E3 := Lib.hid e3; clear h5 e2 e3)
            | (go_at_call 17; (with_reducible refine (HSM.out _ _ _ _ E3.out HT5.out).mono ?_); rintro e w6 ⟨rfl, hc⟩; have HT6 := Lib.hid (HT5.out.on0 hc); clear hc))
          go_roundw
          case rel => exact ⟨k + 1, b2, rb2, R', by omega, by omega, by go_num, rfl, E2.out, E3.out, HAE.out, HT6.out⟩
          case measure => simp [intOf]; omega
        · have z1 : decide (act.s.length < 500) = false := by simpa using hs
          clear hs
          go_wp2_with (first
            | (go_at_call 15; (with_reducible refine (law14_short act _).mono ?_); rintro e w4 ⟨rfl, hc⟩; have HT4 := Lib.hid (HT.out.on0 hc); clear hc)
            | (go_at_call 17; (with_reducible refine (HSM1.out _ HT4.out).mono ?_); rintro e w6 ⟨rfl, hc⟩; have HT6 := Lib.hid (HT4.out.on0 hc); clear hc))
          go_roundw
          case rel => exact ⟨k + 1, b', rb', r, by omega, by omega, by go_num, rfl, HBD.out, HRP.out, HAE0.out, HT6.out⟩
          case measure => simp [intOf]; omega
      · have h4I : ¬ (k : Int) < 40 := by omega
        go_wp2_with fail
        go_ret
        exact ⟨rfl, HT.out.chg⟩
    · have hkI : ¬ (k : Int) < (L.length : Int) := by omega
      go_wp2_with fail
      go_ret
      exact ⟨rfl, HT.out.chg⟩

end Go.Proofs.YtjbpdgknhbnfgaaGreat

namespace Go.Proofs.YtjbpdgknhbnfgaaGreat
open Go.RowKit
set_option maxRecDepth 100000

theorem nil_works (w : World) : Calls Tryz.prog 86 #[.pointer none] w fun e w' => e = .returned (intV 1) ∧ w = w' := by
  go_enter Tryz.func86, Tryz.ntmps86
  go_wp2_with fail
  go_ret
  exact ⟨rfl, rfl⟩
theorem nil_at (w : World) (l : Int) : Calls Tryz.prog 89 #[.pointer none, intV l] w fun e w' => e = .returned (intV 1) ∧ w = w' := by
  go_enter Tryz.func89, Tryz.ntmps89
  go_wp2_with (first | (go_at_call 86; (with_reducible refine (nil_works _).mono ?_); rintro e w' ⟨rfl, rfl⟩))
  go_ret
  exact ⟨rfl, rfl⟩
theorem nil_new (w : World) (p : Bytes) : Calls Tryz.prog 28 #[.pointer none, strV p] w fun e w' => e = .returned (.tuple #[intV 0, intV 1]) ∧ w = w' := by
  go_enter Tryz.func28, Tryz.ntmps28
  go_wp2_with (first | (go_at_call 86; (with_reducible refine (nil_works _).mono ?_); rintro e w' ⟨rfl, rfl⟩))
  go_ret2
  exact ⟨rfl, rfl⟩
theorem nil_write (w : World) (l : Int) (p : Bytes) : Calls Tryz.prog 32 #[.pointer none, intV l, strV p] w fun e w' => e = .returned (intV 1) ∧ w = w' := by
  go_enter Tryz.func32, Tryz.ntmps32
  go_wp2_with (first | (go_at_call 86; (with_reducible refine (nil_works _).mono ?_); rintro e w' ⟨rfl, rfl⟩))
  go_ret
  exact ⟨rfl, rfl⟩
theorem nil_read (w : World) (l : Int) : Calls Tryz.prog 29 #[.pointer none, intV l] w fun e w' => e = .returned (.tuple #[strV [], intV 1]) ∧ w = w' := by
  go_enter Tryz.func29, Tryz.ntmps29
  go_wp2_with (first | (go_at_call 89; (with_reducible refine (nil_at _ _).mono ?_); rintro e w' ⟨rfl, rfl⟩))
  go_ret2
  exact ⟨rfl, rfl⟩
theorem nil_drop (w : World) (l : Int) : Calls Tryz.prog 33 #[.pointer none, intV l] w fun e w' => e = .returned (intV 1) ∧ w = w' := by
  go_enter Tryz.func33, Tryz.ntmps33
  go_wp2_with (first | (go_at_call 89; (with_reducible refine (nil_at _ _).mono ?_); rintro e w' ⟨rfl, rfl⟩))
  go_ret
  exact ⟨rfl, rfl⟩
theorem nil_commit (w : World) : Calls Tryz.prog 34 #[.pointer none] w fun e w' => e = .returned (intV 1) ∧ w = w' := by
  go_enter Tryz.func34, Tryz.ntmps34
  go_wp2_with (first | (go_at_call 86; (with_reducible refine (nil_works _).mono ?_); rintro e w' ⟨rfl, rfl⟩))
  go_ret
  exact ⟨rfl, rfl⟩
theorem nil_abort (w : World) : Calls Tryz.prog 35 #[.pointer none] w fun e w' => e = .returned (.bool false) ∧ w = w' := by
  go_enter Tryz.func35, Tryz.ntmps35
  go_wp2_with fail
  go_ret
  exact ⟨rfl, rfl⟩
theorem nil_pages (w : World) : Calls Tryz.prog 36 #[.pointer none] w fun e w' => e = .returned (.slice none 0 0) ∧ w = w' := by
  go_enter Tryz.func36, Tryz.ntmps36
  go_wp2_with fail
  go_ret
  exact ⟨rfl, rfl⟩
theorem nil_epoch (w : World) : Calls Tryz.prog 27 #[.pointer none] w fun e w' => e = .returned (intV 0) ∧ w = w' := by
  go_enter Tryz.func27, Tryz.ntmps27
  go_wp2_with fail
  go_ret
  exact ⟨rfl, rfl⟩
theorem nil_count (w : World) : Calls Tryz.prog 23 #[.pointer none] w fun e w' => e = .returned (.tuple #[intV 0, intV 0, intV 0, intV 0]) ∧ w = w' := by
  go_enter Tryz.func23, Tryz.ntmps23
  go_wp2_with fail
  skip
  exact bodyPost_ret (v := .tuple #[intV 0, intV 0, intV 0, intV 0]) (by simp [results, Tryz.results23]) rfl ⟨rfl, rfl⟩
theorem nil_reach (w : World) : Calls Tryz.prog 24 #[.pointer none] w fun e w' => e = .returned (.slice none 0 0) ∧ w = w' := by
  go_enter Tryz.func24, Tryz.ntmps24
  go_wp2_with fail
  go_ret
  exact ⟨rfl, rfl⟩
theorem nil_format (w : World) : Calls Tryz.prog 31 #[.pointer none] w fun e w' => e = .returned (.tuple #[.pointer none, intV 1]) ∧ w = w' := by
  go_enter Tryz.func31, Tryz.ntmps31
  go_wp2_with fail
  go_ret2
  exact ⟨rfl, rfl⟩

end Go.Proofs.YtjbpdgknhbnfgaaGreat

namespace Go.Proofs.YtjbpdgknhbnfgaaGreat
open Go.RowKit
set_option maxRecDepth 100000

set_option maxHeartbeats 4000000 in
theorem law_none (k l : Int) (s : Bytes) (w : World) : Calls Tryz.prog 6 #[.agg #[intV k, intV l, strV s]] w (YesOk w) := by
  have HB := Lib.hid (Blk.new w 31 [intV k, intV l, strV s])
  have k1 := HB.out.cell 1
  have k2 := HB.out.cell 2
  have hc0 : Chg [] w (w.alloc (.cells #[intV k, intV l, strV s] 31)) := (Chg.refl _ _).alloc _
  have HC0 := Lib.hid hc0
  clear hc0
  go_enter Tryz.func6, Tryz.ntmps6
  go_wp2_with (first
    | (go_at_call 14; (with_reducible refine (law14_awake _).mono ?_); rintro e w3 ⟨rfl, hc⟩; have HC := Lib.hid (HC0.out.trans0 hc); have m1 := (HB.out.kept hc (by simp)).cell 1; have m2 := (HB.out.kept hc (by simp)).cell 2; clear hc)
    | (go_at_call 28; (with_reducible refine (nil_new _ _).mono ?_); rintro e w' ⟨rfl, rfl⟩)
    | (go_at_call 29; (with_reducible refine (nil_read _ _).mono ?_); rintro e w' ⟨rfl, rfl⟩)
    | (go_at_call 23; (with_reducible refine (nil_count _).mono ?_); rintro e w' ⟨rfl, rfl⟩)
    | (go_at_call 30; (with_reducible refine (shadow_open_nil _).mono ?_); rintro e w' ⟨rfl, rfl⟩)
    | (go_at_call 31; (with_reducible refine (nil_format _).mono ?_); rintro e w' ⟨rfl, rfl⟩)
    | (go_at_call 32; (with_reducible refine (nil_write _ _ _).mono ?_); rintro e w' ⟨rfl, rfl⟩)
    | (go_at_call 33; (with_reducible refine (nil_drop _ _).mono ?_); rintro e w' ⟨rfl, rfl⟩)
    | (go_at_call 34; (with_reducible refine (nil_commit _).mono ?_); rintro e w' ⟨rfl, rfl⟩)
    | (go_at_call 35; (with_reducible refine (nil_abort _).mono ?_); rintro e w' ⟨rfl, rfl⟩)
    | (go_at_call 36; (with_reducible refine (nil_pages _).mono ?_); rintro e w' ⟨rfl, rfl⟩)
    | (go_at_call 24; (with_reducible refine (nil_reach _).mono ?_); rintro e w' ⟨rfl, rfl⟩)
    | (go_at_call 27; (with_reducible refine (nil_epoch _).mono ?_); rintro e w' ⟨rfl, rfl⟩))
  go_ret
  exact ⟨rfl, HC.out⟩

end Go.Proofs.YtjbpdgknhbnfgaaGreat
