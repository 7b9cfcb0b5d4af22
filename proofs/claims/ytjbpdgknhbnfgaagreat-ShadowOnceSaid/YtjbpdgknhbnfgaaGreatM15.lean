/- A part of the walks of the program's functions, each a contract that its caller uses; no condition but what each theorem names. The walks of root.Get and root.Newer. The walk of root.Newer. The walk of shadow's check. -/
import Derived.Test.YtjbpdgknhbnfgaaGreatM14

namespace Go.Proofs.YtjbpdgknhbnfgaaGreat
open Go.RowKit
set_option maxRecDepth 100000

theorem root_num (b : Bytes) (at_ : Nat) (h : at_ + 1 < b.length) (hb : b.length ≤ 60000) (g : Nat) (w : World) (hg : w.cell? ⟨g, 0, none⟩ = some (strV b)) :
    Calls Tryz.prog 198 #[intV at_, ptrV g] w fun e w' => e = .returned (intV (numAt b at_)) ∧ Chg [] w w' := by
  obtain ⟨x, hx⟩ : ∃ x, numAt b at_ = x := ⟨_, rfl⟩
  have hi1 : at_ < b.length := by omega
  have e4 : IntKind.i64.wrap (at_ : Int) = at_ := IntWalk.i64_in _ (by omega)
  have e5 : IntKind.i64.wrap ((at_ : Int) + 1) = (at_ : Int) + 1 := IntWalk.i64_in _ (by omega)
  have ix1 := fun w => index_str b at_ hi1 w
  have ix2 := fun w => index_str b (at_ + 1) h w
  rw [Int.natCast_add, show ((1 : Nat) : Int) = 1 from rfl] at ix2
  have hxe : untwo (b[at_]) (b[at_ + 1]) = x := by
    rw [← hx]
    unfold numAt
    simp [List.getD, hi1, h]
  rw [hx]
  have HXE := Lib.hid hxe
  clear hx hxe
  go_enter Tryz.func198, Tryz.ntmps198
  go_wp2_with fail
  go_quiet (fail)
  simp only [or_bytes]
  rw [HXE.out]
  go_wp2_with fail
  go_ret
  exact ⟨rfl, (Chg.refl _ _).drewN _⟩

theorem cut2_mid {a : Act} {w : World} {x : Operand} {dst type pos after guard} (h : InStr2 (a.eval x) (.int .i64 8) (.int .i64 56)) :
    (execOp a.eval { dst := dst, op := .slice 9 x (some (.const (.int .i64 8))) (some (.const (.int .i64 56))) none, type := type, pos := pos, after := after, guard := guard }).run Tryz.prog w = .ok (.value (cut2 (a.eval x) (.int .i64 8) (.int .i64 56))) w :=
  exec_cut2 Tryz.underlying9 h
theorem cut2_midv (s : Bytes) : cut2 (strV s) (.int .i64 8) (.int .i64 56) = strV ((s.drop 8).take 48) := by
  have : cut2 (strV s) (.int .i64 8) (.int .i64 56) = strV ((s.take 56).drop 8) := rfl
  rw [this, List.drop_take]
attribute [local go_sem ↓] cut2_mid
attribute [local go_sem] cut2_midv

/-- what root.Get answers -/
def GotRoot (w : World) (o : Option Root) (e : Ending) (w' : World) : Prop :=
  Chg [] w w' ∧ match o with
    | none => e = .returned (.tuple #[.agg #[intV 0, intV 0, .slice none 0 0], .bool false])
    | some r => ∃ pv, e = .returned (.tuple #[.agg #[intV r.epoch, intV r.logical, pv], .bool true]) ∧ Own w' 3 1 pv r.parts.length (ints r.parts) ∧ ∀ k ∈ ownBlk pv, w.heap.size ≤ k

theorem root_put_any {w : World} {pv : Value} {r : Root} (h : Own w 3 1 pv r.parts.length (ints r.parts)) (hl : r.parts.length ≤ 60000) :
    Calls Tryz.prog 97 #[.agg #[intV r.epoch, intV r.logical, pv]] w fun e w' => e = .returned (.tuple #[strV (rootPut r).1, intV (rootPut r).2]) ∧ Chg [] w w' := by
  cases hr : r.right with
  | false => exact root_put_no h hl hr
  | true => exact root_put_yes h hr

theorem crcCut_bad {c : Bytes} (h : crcOk c = false) (hl : 4 ≤ c.length) : crcCut c = ([], 14) := by
  unfold crcCut
  rw [if_neg (by omega), if_pos h]
theorem crcCut_ok {c : Bytes} (h : crcOk c = true) (hl : 4 ≤ c.length) : crcCut c = (c.drop 4, 0) := by
  unfold crcCut
  rw [if_neg (by omega), if_neg (by rw [h]; simp)]

theorem root_get_len {s : Bytes} (hs : s.length ≠ 64) (w : World) : Calls Tryz.prog 154 #[strV s] w (GotRoot w none) := by
  have hl64 : ((s.length : Int) != 64) = true := by simp; omega
  have hl64' : (s.length != 64) = true := by simpa using hs
  have hl64b : ((s.length : Int) == 64) = false := by simp; omega
  have hl64c : (s.length == 64) = false := by simpa using hs
  clear hs
  go_enter Tryz.func154, Tryz.ntmps154
  go_wp2_with fail
  exact bodyPost_ret (v := .tuple #[.agg #[intV 0, intV 0, .slice none 0 0], .bool false]) (by simp [results, Tryz.results154, go_sem]) rfl ⟨(Chg.refl _ _).alloc _, rfl⟩

theorem readI_first {s : Bytes} (hs : s.length = 64) (w : World) : Calls Tryz.prog 195 #[strV s, intV 0] w fun e w' => e = .returned (.tuple #[intV (unpackI (s.take 8)), intV 8, intV 0]) ∧ w = w' :=
  pack_readI s 0 w (by omega) (by omega)
theorem readI_last {s : Bytes} (hs : s.length = 64) (w : World) : Calls Tryz.prog 195 #[strV s, intV 56] w fun e w' => e = .returned (.tuple #[intV (unpackI (s.drop 56)), intV 64, intV 0]) ∧ w = w' := by
  have := pack_readI s 56 w (by omega) (by omega)
  rw [List.take_of_length_le (by simp; omega)] at this
  exact this

theorem root_cells {w : World} {g : Nat} {T : TypeId} {v0 v1 v2 : Value} (h : Blk w g T [v0, v1, v2]) :
    ((∀ o, (w.alloc o).cell? ⟨g, 0, none⟩ = some v0) ∧ (∀ o, (w.alloc o).cell? ⟨g, 1, none⟩ = some v1) ∧ (∀ o, (w.alloc o).cell? ⟨g, 2, none⟩ = some v2)) ∧
    (∀ o, (w.alloc o).frozen? ⟨g, 0, none⟩ = false) ∧ (∀ o, (w.alloc o).frozen? ⟨g, 1, none⟩ = false) ∧ (∀ o, (w.alloc o).frozen? ⟨g, 2, none⟩ = false) :=
  ⟨⟨fun o => (h.alloc o).cell 0, fun o => (h.alloc o).cell 1, fun o => (h.alloc o).cell 2⟩, fun o => (h.alloc o).free 0, fun o => (h.alloc o).free 1, fun o => (h.alloc o).free 2⟩

theorem root_get_crc {s : Bytes} (hs : s.length = 64) (w : World) (h : unpackI (s.take 8) ≠ unpackI (s.drop 56) ∨ crcOk ((s.drop 8).take 48) = false) :
    Calls Tryz.prog 154 #[strV s] w (GotRoot w none) := by
  have hf := fun (wr : World) => readI_first hs wr
  have hl := fun (wr : World) => readI_last hs wr
  have hclen : ((s.drop 8).take 48).length = 48 := by simp; omega
  have hcr := fun (wr : World) => crc_cut ((s.drop 8).take 48) wr (by omega) (by omega)
  have hl64 : ((s.length : Int) != 64) = false := by simp [hs]
  have hl64' : (s.length != 64) = false := by simp [hs]
  have i1 : InStr2 (strV s) (.int .i64 8) (.int .i64 56) := InStr2.mk' (n := 8) (m := 56) (by omega) (by omega)
  have hbad : (crcCut ((s.drop 8).take 48)).2 = 0 → unpackI (s.take 8) ≠ unpackI (s.drop 56) := fun h0 => by
    rcases h with h | h
    · exact h
    · rw [crcCut_bad h (by omega)] at h0
      simp at h0
  have HF := Lib.hid hf
  have HL := Lib.hid hl
  have HCR := Lib.hid hcr
  clear hf hl hcr h hclen hs
  generalize unpackI (s.take 8) = ef at *
  generalize unpackI (s.drop 56) = el at *
  generalize crcCut ((s.drop 8).take 48) = cc at *
  obtain ⟨cb, ce⟩ := cc
  dsimp only at HCR hbad
  have q1 : (ef != el || ce != 0) = true := by
    by_cases h0 : ce = 0
    · have := hbad h0
      simp [this]
    · simp [h0]
  have HQ := Lib.hid q1
  clear q1
  have hR : Blk (w.alloc (.cells #[intV 0, intV 0, .slice none 0 0] 125)) w.heap.size 125 [intV 0, intV 0, .slice none 0 0] := Blk.new w _ _
  have HR := Lib.hid hR
  clear hR
  by_cases hne : ef = el
  · subst hne
    have h0 : ce ≠ 0 := fun h0 => hbad h0 rfl
    have b1 : (ef != ef) = false := by simp
    have b2 : (ce != 0) = true := by simpa using h0
    clear h0 hbad
    go_enter Tryz.func154, Tryz.ntmps154
    go_wp2_with (first
      | (go_at_call 195; (with_reducible refine (HF.out _).mono ?_); rintro e w' ⟨rfl, rfl⟩)
      | (go_at_call 195; (with_reducible refine (HL.out _).mono ?_); rintro e w' ⟨rfl, rfl⟩)
      | (go_at_call 194; (with_reducible refine (HCR.out _).mono ?_); rintro e w2 ⟨rfl, hc2⟩; have C2 := Lib.hid (((Chg.refl [] w).alloc _).trans0 hc2); have HR2 := HR.out.kept hc2 (by simp); obtain ⟨⟨r0, r1, r2⟩, z0, z1, z2⟩ := root_cells HR2; clear hc2 HR2))
    exact bodyPost_ret (v := .tuple #[.agg #[intV 0, intV 0, .slice none 0 0], .bool false]) (by simp [results, Tryz.results154, go_sem, r0, r1, r2]) rfl ⟨(((C2.out.alloc _).setCell _ _ (.inr (Nat.le_refl _))).setCell _ _ (.inr (Nat.le_refl _))).setCell _ _ (.inr (Nat.le_refl _)), rfl⟩
  · have b1 : (ef != el) = true := by simpa using hne
    clear hne hbad
    go_enter Tryz.func154, Tryz.ntmps154
    go_wp2_with (first
      | (go_at_call 195; (with_reducible refine (HF.out _).mono ?_); rintro e w' ⟨rfl, rfl⟩)
      | (go_at_call 195; (with_reducible refine (HL.out _).mono ?_); rintro e w' ⟨rfl, rfl⟩)
      | (go_at_call 194; (with_reducible refine (HCR.out _).mono ?_); rintro e w2 ⟨rfl, hc2⟩; have C2 := Lib.hid (((Chg.refl [] w).alloc _).trans0 hc2); have HR2 := HR.out.kept hc2 (by simp); obtain ⟨⟨r0, r1, r2⟩, z0, z1, z2⟩ := root_cells HR2; clear hc2 HR2))
    exact bodyPost_ret (v := .tuple #[.agg #[intV 0, intV 0, .slice none 0 0], .bool false]) (by simp [results, Tryz.results154, go_sem, r0, r1, r2]) rfl ⟨(((C2.out.alloc _).setCell _ _ (.inr (Nat.le_refl _))).setCell _ _ (.inr (Nat.le_refl _))).setCell _ _ (.inr (Nat.le_refl _)), rfl⟩

/-- the five numbers, as far as they are read -/
def fives (b : Bytes) (j : Nat) : List Int := ((List.range j).map fun i => numAt b (4 + 2 * i)) ++ List.replicate (5 - j) 0
theorem fives_set (b : Bytes) (j : Nat) (h : j < 5) : (fives b j).set j (numAt b (4 + 2 * j)) = fives b (j + 1) := by
  unfold fives
  rw [List.set_append, if_neg (by simp), List.length_map, List.length_range, Nat.sub_self, List.range_succ, List.map_append]
  obtain ⟨m, hm⟩ : ∃ m, 5 - j = m + 1 := ⟨4 - j, by omega⟩
  rw [hm, show 5 - (j + 1) = m by omega, List.replicate_succ]
  simp
theorem fives_len (b : Bytes) (j : Nat) (h : j ≤ 5) : (fives b j).length = 5 := by simp [fives]; omega

/-- the state of root.Get behind its checks: the result's cells, the text, the root that is made -/
structure RSt (w wr : World) (g r : Nat) (b : Bytes) (ep lg : Int) (pv : Value) : Prop where
  res : Blk wr w.heap.size 125 [intV 0, intV 0, .slice none 0 0]
  txt : Blk wr g 9 [strV b]
  rt : Blk wr r 125 [intV ep, intV lg, pv]
  chg : Chg [] w wr
  ng : w.heap.size < g
  nr : g < r
theorem RSt.on {w wr w2 : World} {g r : Nat} {b : Bytes} {ep lg : Int} {pv : Value} (h : RSt w wr g r b ep lg pv) (hc : Chg [] wr w2) : RSt w w2 g r b ep lg pv :=
  ⟨h.res.kept hc (by simp), h.txt.kept hc (by simp), h.rt.kept hc (by simp), h.chg.trans0 hc, h.ng, h.nr⟩

structure FSt (w wr : World) (g r h : Nat) (b : Bytes) (ep lg : Int) (pv : Value) (j : Nat) : Prop where
  st : RSt w wr g r b ep lg pv
  arr : Blk wr h 185 (ints (fives b j))
  rh : r < h
theorem FSt.on {w wr w2 : World} {g r h : Nat} {b : Bytes} {ep lg : Int} {pv : Value} {j : Nat} (hF : FSt w wr g r h b ep lg pv j) (hc : Chg [] wr w2) : FSt w w2 g r h b ep lg pv j :=
  ⟨hF.st.on hc, hF.arr.kept hc (by simp), hF.rh⟩
theorem FSt.put {w wr : World} {g r h : Nat} {b : Bytes} {ep lg : Int} {pv : Value} {j : Nat} (hF : FSt w wr g r h b ep lg pv j) (i : Nat) (x : Int) (k : Nat) (hs : (fives b j).set i x = fives b k) : FSt w (wr.setCell ⟨h, i, none⟩ (intV x)) g r h b ep lg pv k := by
  have h1 := hF.st.ng
  have h2 := hF.st.nr
  have h3 := hF.rh
  refine ⟨⟨hF.st.res.other _ _ (by show w.heap.size ≠ h; omega), hF.st.txt.other _ _ (by show g ≠ h; omega), hF.st.rt.other _ _ (by show r ≠ h; omega), hF.st.chg.setCell _ _ (.inr (by show w.heap.size ≤ h; omega)), h1, h2⟩, ?_, h3⟩
  have := hF.arr.set i (intV x)
  rwa [show (ints (fives b j)).set i (intV x) = ints (fives b k) by rw [← hs]; simp [ints, List.map_set]] at this

/-- behind 'r.Parts = parts[:n:n]' -/
structure PvSt (w wr : World) (r h : Nat) (ep lg : Int) (pv : Value) : Prop where
  res : Blk wr w.heap.size 125 [intV 0, intV 0, .slice none 0 0]
  rt : Blk wr r 125 [intV ep, intV lg, pv]
  chg : Chg [] w wr
  hr : w.heap.size < r
  hh : w.heap.size < h
theorem PvSt.on {w wr w2 : World} {r h : Nat} {ep lg : Int} {pv : Value} (hF : PvSt w wr r h ep lg pv) (hc : Chg [] wr w2) : PvSt w w2 r h ep lg pv :=
  ⟨hF.res.kept hc (by simp), hF.rt.kept hc (by simp), hF.chg.trans0 hc, hF.hr, hF.hh⟩
theorem PvSt.both {w wr : World} {r h : Nat} {ep lg : Int} {pv : Value} (hF : PvSt w wr r h ep lg pv) :
    (wr.cell? ⟨w.heap.size, 0, none⟩ = some (intV 0) ∧ wr.cell? ⟨w.heap.size, 1, none⟩ = some (intV 0) ∧ wr.cell? ⟨w.heap.size, 2, none⟩ = some (.slice none 0 0)) ∧
    (wr.cell? ⟨r, 0, none⟩ = some (intV ep) ∧ wr.cell? ⟨r, 1, none⟩ = some (intV lg) ∧ wr.cell? ⟨r, 2, none⟩ = some pv) ∧
    wr.frozen? ⟨w.heap.size, 0, none⟩ = false ∧ wr.frozen? ⟨w.heap.size, 1, none⟩ = false ∧ wr.frozen? ⟨w.heap.size, 2, none⟩ = false :=
  ⟨⟨hF.res.cell 0, hF.res.cell 1, hF.res.cell 2⟩, ⟨hF.rt.cell 0, hF.rt.cell 1, hF.rt.cell 2⟩, hF.res.free 0, hF.res.free 1, hF.res.free 2⟩
theorem FSt.pv {w wr : World} {g r h : Nat} {b : Bytes} {ep lg : Int} {pv : Value} (hF : FSt w wr g r h b ep lg pv 5) (n : Nat) (hn : n ≤ 5) :
    PvSt w (wr.setCell ⟨r, 2, none⟩ (.slice (some ⟨h, 0, none⟩) n n)) r h ep lg (.slice (some ⟨h, 0, none⟩) n n) ∧
    Own (wr.setCell ⟨r, 2, none⟩ (.slice (some ⟨h, 0, none⟩) n n)) 3 1 (.slice (some ⟨h, 0, none⟩) n n) ((fives b 5).take n).length (ints ((fives b 5).take n)) := by
  have h1 := hF.st.ng
  have h2 := hF.st.nr
  have h3 := hF.rh
  have hl := fives_len b 5 (by omega)
  have hln : ((fives b 5).take n).length = n := by rw [List.length_take, hl]; omega
  refine ⟨⟨hF.st.res.other _ _ (by show w.heap.size ≠ r; omega), hF.st.rt.set 2 _, hF.st.chg.setCell _ _ (.inr (by show w.heap.size ≤ r; omega)), by omega, by omega⟩, ?_⟩
  rw [hln]
  by_cases h0 : n = 0
  · subst h0
    exact Own.bare _ _ _ _
  · refine ⟨by simp [hln], .inr ⟨h, n, ints (fives b 5), rfl, (hF.arr.other _ _ (by show h ≠ r; omega)).r, Nat.le_refl _, by omega, by unfold maxLen; omega, by rw [length_ints, hl]; omega, ?_⟩⟩
    rw [Nat.mul_one]
    simp [ints, List.map_take]

theorem numAt_bd (b : Bytes) (i : Nat) : 0 ≤ numAt b i ∧ numAt b i ≤ 65535 := by
  unfold numAt untwo
  have h1 := (b.getD i 0).toNat_lt
  have h2 := (b.getD (i + 1) 0).toNat_lt
  omega

set_option maxHeartbeats 1000000 in
theorem root_get_ok {s : Bytes} (hs : s.length = 64) (w : World) (h1 : unpackI (s.take 8) = unpackI (s.drop 56)) (h2 : crcOk ((s.drop 8).take 48) = true) :
    Calls Tryz.prog 154 #[strV s] w (GotRoot w (rootGet s)) := by
  have hf := fun (wr : World) => readI_first hs wr
  have hl := fun (wr : World) => readI_last hs wr
  have hclen : ((s.drop 8).take 48).length = 48 := by simp; omega
  have hcr := fun (wr : World) => crc_cut ((s.drop 8).take 48) wr (by omega) (by omega)
  rw [crcCut_ok h2 (by omega), show ((s.drop 8).take 48).drop 4 = (s.drop 12).take 44 by rw [List.drop_take, List.drop_drop]] at hcr
  rw [← h1] at hl
  have hbl : ((s.drop 12).take 44).length = 44 := by simp; omega
  have hl64 : ((s.length : Int) != 64) = false := by simp [hs]
  have hl64' : (s.length != 64) = false := by simp [hs]
  have i1 : InStr2 (strV s) (.int .i64 8) (.int .i64 56) := InStr2.mk' (n := 8) (m := 56) (by omega) (by omega)
  have hres : rootGet s = if 5 < numAt ((s.drop 12).take 44) 2 then none else if rootPut (rootOf s) = (s, 0) then some (rootOf s) else none := by
    unfold rootGet
    rw [if_neg (by simp [hs]), if_neg (by rw [h2, h1]; simp)]
  have hro : rootOf s = ⟨unpackI (s.take 8), numAt ((s.drop 12).take 44) 0, (fives ((s.drop 12).take 44) 5).take (numAt ((s.drop 12).take 44) 2).toNat⟩ := by
    unfold rootOf fives
    simp
  rw [hres, hro]
  have HF := Lib.hid hf
  have HL := Lib.hid hl
  have HCR := Lib.hid hcr
  clear hf hl hcr h1 h2 hclen hres hro
  generalize unpackI (s.take 8) = ef at *
  generalize (s.drop 12).take 44 = b at *
  have hn0 := numAt_bd b 0
  have hn2 := numAt_bd b 2
  have b1 : (ef != ef) = false := by simp
  have hR : Blk (w.alloc (.cells #[intV 0, intV 0, .slice none 0 0] 125)) w.heap.size 125 [intV 0, intV 0, .slice none 0 0] := Blk.new w _ _
  have HR := Lib.hid hR
  have hnum : (∀ (at_ : Nat) (g : Nat) (wr : World), at_ + 1 < 44 → wr.cell? ⟨g, 0, none⟩ = some (strV b) → Calls Tryz.prog 198 #[intV at_, ptrV g] wr fun e w' => e = .returned (intV (numAt b at_)) ∧ Chg [] wr w') := fun at_ g wr h1 h2 => root_num b at_ (by omega) (by omega) g wr h2
  have HN0 : Hid (∀ (g : Nat) (wr : World), wr.cell? ⟨g, 0, none⟩ = some (strV b) → Calls Tryz.prog 198 #[intV 0, ptrV g] wr fun e w' => e = .returned (intV (numAt b 0)) ∧ Chg [] wr w') := Lib.hid (fun g wr h => hnum 0 g wr (by omega) h)
  have HN2 : Hid (∀ (g : Nat) (wr : World), wr.cell? ⟨g, 0, none⟩ = some (strV b) → Calls Tryz.prog 198 #[intV 2, ptrV g] wr fun e w' => e = .returned (intV (numAt b 2)) ∧ Chg [] wr w') := Lib.hid (fun g wr h => hnum 2 g wr (by omega) h)
  have HNJ : Hid (∀ (j : Nat) (g : Nat) (wr : World), j < 5 → wr.cell? ⟨g, 0, none⟩ = some (strV b) → Calls Tryz.prog 198 #[intV (4 + 2 * (j : Int)), ptrV g] wr fun e w' => e = .returned (intV (numAt b (4 + 2 * j))) ∧ Chg [] wr w') := Lib.hid (fun j g wr h0 h => by
    have := hnum (4 + 2 * j) g wr (by omega) h
    rwa [show ((4 + 2 * j : Nat) : Int) = 4 + 2 * (j : Int) by omega] at this)
  have HBL := Lib.hid hbl
  have HS := Lib.hid hs
  have hmf : ∀ (fn : Fn) (first cap : Array Value) (w : World), (Instr.makeFunc fn first cap).run Tryz.prog w = .ok (.func fn first cap) w := fun _ _ _ _ => rfl
  clear hR hbl hs hnum
  generalize hg0 : numAt b 0 = n0 at *
  generalize hg2 : numAt b 2 = n2 at *
  have HG0 := Lib.hid hg0
  have HG2 := Lib.hid hg2
  obtain ⟨RES, hRES⟩ : ∃ RES, (if 5 < n2 then none else if rootPut ⟨ef, n0, (fives b 5).take n2.toNat⟩ = (s, 0) then some (⟨ef, n0, (fives b 5).take n2.toNat⟩ : Root) else none) = RES := ⟨_, rfl⟩
  rw [hRES]
  have HRES := Lib.hid hRES
  clear hg0 hg2 hRES
  go_enter Tryz.func154, Tryz.ntmps154
  go_wp2_with (first
    | (go_at_call 195; (with_reducible refine (HF.out _).mono ?_); rintro e w' ⟨rfl, rfl⟩)
    | (go_at_call 195; (with_reducible refine (HL.out _).mono ?_); rintro e w' ⟨rfl, rfl⟩)
    | (go_at_call 194; (with_reducible refine (HCR.out _).mono ?_); rintro e w2 ⟨rfl, hc2⟩; have C2 := Lib.hid (((Chg.refl [] w).alloc _).trans0 hc2); have HR2 := Lib.hid (HR.out.kept hc2 (by simp)); clear hc2))
  refine (HN0.out _ _ ((Blk.new _ _ _).cell 0)).mono ?_
  rintro e w3 ⟨rfl, hc3⟩
  have T3 : Hid (Blk w3 w2.heap.size 9 [strV b]) := Lib.hid ((Blk.new w2 9 [strV b]).kept hc3 (by simp))
  have R0 : Hid (RSt w (w3.alloc (.cells #[intV ef, intV n0, .slice none 0 0] 125)) w2.heap.size w3.heap.size b ef n0 (.slice none 0 0)) := Lib.hid
    ⟨((HR2.out.alloc _).kept hc3 (by simp)).alloc _, T3.out.alloc _, Blk.new _ _ _, ((C2.out.alloc _).trans0 hc3).alloc _, HR2.out.lt, T3.out.lt⟩
  clear hc3 T3 HR2 C2 HR
  go_wp2_with fail
  refine (HN2.out _ _ (R0.out.txt.cell 0)).mono ?_
  rintro e w4 ⟨rfl, hc4⟩
  have R4 := Lib.hid (R0.out.on hc4)
  clear hc4 R0
  generalize w2.heap.size = g at *
  generalize w3.heap.size = r at *
  by_cases hbig : 5 < n2
  · have d1 : decide (5 < n2) = true := by simpa using hbig
    have hr := HRES.out
    rw [if_pos hbig] at hr
    subst hr
    obtain ⟨⟨r0, r1, r2⟩, z0, z1, z2⟩ : (w4.cell? ⟨w.heap.size, 0, none⟩ = some (intV 0) ∧ w4.cell? ⟨w.heap.size, 1, none⟩ = some (intV 0) ∧ w4.cell? ⟨w.heap.size, 2, none⟩ = some (.slice none 0 0)) ∧ w4.frozen? ⟨w.heap.size, 0, none⟩ = false ∧ w4.frozen? ⟨w.heap.size, 1, none⟩ = false ∧ w4.frozen? ⟨w.heap.size, 2, none⟩ = false :=
      ⟨⟨R4.out.res.cell 0, R4.out.res.cell 1, R4.out.res.cell 2⟩, R4.out.res.free 0, R4.out.res.free 1, R4.out.res.free 2⟩
    clear hbig
    go_wp2_with fail
    exact bodyPost_ret (v := .tuple #[.agg #[intV 0, intV 0, .slice none 0 0], .bool false]) (by simp [results, Tryz.results154, go_sem, r0, r1, r2]) rfl ⟨((R4.out.chg.setCell _ _ (.inr (Nat.le_refl _))).setCell _ _ (.inr (Nat.le_refl _))).setCell _ _ (.inr (Nat.le_refl _)), rfl⟩
  · have hr := HRES.out
    rw [if_neg hbig] at hr
    have d1 : decide (5 < n2) = false := by simpa using hbig
    obtain ⟨n, rfl⟩ : ∃ n : Nat, n2 = n := ⟨n2.toNat, by omega⟩
    have hn5 : n ≤ 5 := by omega
    have hn5I : (n : Int) ≤ 5 := by omega
    rw [Int.toNat_natCast] at hr
    have HR := Lib.hid hr
    clear hbig HRES hr
    go_wp2_with fail
    have F0 : Hid (FSt w (w4.alloc (.cells #[intV 0, intV 0, intV 0, intV 0, intV 0] 185)) g r w4.heap.size b ef n0 (.slice none 0 0) 0) := Lib.hid ⟨R4.out.on ((Chg.refl [] w4).alloc _), Blk.new _ _ _, R4.out.rt.lt⟩
    clear R4
    generalize w4.heap.size = h at *
    go_loopw [59] (fun i wr => ∃ j : Nat, j ≤ 5 ∧ i = .int .i64 j ∧ FSt w wr g r h b ef n0 (.slice none 0 0) j) (fun i _ => 5 - (intOf i).toNat)
    case atStart => exact ⟨0, by omega, rfl, F0.out⟩
    case round =>
      obtain ⟨j, hj, rfl, hF⟩ := hrel
      have FJ := Lib.hid hF
      clear hF F0
      by_cases hj5 : j < 5
      · have hjI : (j : Int) < 5 := by omega
        have hcall := HNJ.out j g wr hj5 (FJ.out.st.txt.cell 0)
        have HCALL := Lib.hid hcall
        have HSET := Lib.hid (fives_set b j hj5)
        have hlen := fives_len b j (by omega)
        obtain ⟨u, hu⟩ : ∃ u, (fives b j)[j]? = some u := ⟨_, List.getElem?_eq_getElem (by omega)⟩
        have HU := Lib.hid hu
        clear hcall hlen hu
        generalize numAt b (4 + 2 * j) = nj at *
        go_wp2_with (go_at_call 198; (with_reducible refine HCALL.out.mono ?_); rintro e w6 ⟨rfl, hc6⟩; have F6 := Lib.hid (FJ.out.on hc6); have q1 : w6.cell? ⟨h, j, none⟩ = some (intV u) := (F6.out.arr.cell j).trans (by rw [ints_get, HU.out]; rfl); have q2 := F6.out.arr.free j; clear hc6)
        go_roundw
        case rel => exact ⟨j + 1, by omega, by go_num, F6.out.put j nj _ HSET.out⟩
        case measure => simp [intOf]; omega
      · obtain rfl : j = 5 := by omega
        have q1 : wr.cell? ⟨r, 2, none⟩ = some (.slice none 0 0) := FJ.out.st.rt.cell 2
        have q2 := FJ.out.st.rt.free 2
        have q3 : wr.cell? ⟨r, 0, none⟩ = some (intV ef) := FJ.out.st.rt.cell 0
        have q4 : wr.cell? ⟨r, 1, none⟩ = some (intV n0) := FJ.out.st.rt.cell 1
        have F9 := Lib.hid (FJ.out.pv n hn5)
        have HPUT := Lib.hid (root_put_any (r := ⟨ef, n0, (fives b 5).take n⟩) F9.out.2 (by show ((fives b 5).take n).length ≤ 60000; rw [List.length_take]; omega))
        have HR2 := HR.out
        generalize (fives b 5).take n = L at *
        obtain ⟨⟨t, pe⟩, hpp⟩ : ∃ x, rootPut ⟨ef, n0, L⟩ = x := ⟨_, rfl⟩
        rw [hpp] at HPUT HR2
        dsimp only at HPUT
        clear hj5 hj HR hpp HNJ HN0 HN2 HCR HF HL FJ
        by_cases hok : pe = 0 ∧ t = s
        · obtain ⟨rfl, rfl⟩ := hok
          rw [if_pos rfl] at HR2
          have HRES := Lib.hid HR2
          have z1 : (t == t) = true := by simp
          clear HR2
          go_wp2_with (go_at_call 97; (with_reducible refine HPUT.out.mono ?_); rintro e w9 ⟨rfl, hc9⟩; have A9 := Lib.hid (F9.out.1.on hc9); have O9 := Lib.hid (F9.out.2.kept hc9 (by simp)); obtain ⟨⟨a0, a1, a2⟩, ⟨e0, e1, e2⟩, y0, y1, y2⟩ := A9.out.both; clear hc9)
          refine bodyPost_ret (v := .tuple #[.agg #[intV ef, intV n0, .slice (some ⟨h, 0, none⟩) n n], .bool true]) (by simp [results, Tryz.results154, go_sem, a0, a1, a2]) rfl ?_
          rw [← HRES.out]
          have hrh := F9.out.1.hh
          refine ⟨((A9.out.chg.setCell _ _ (.inr (Nat.le_refl _))).setCell _ _ (.inr (Nat.le_refl _))).setCell _ _ (.inr (Nat.le_refl _)), _, rfl, ?_, fun k hk => ?_⟩
          · have ho : w.heap.size ∉ ownBlk (.slice (some ⟨h, 0, none⟩) n n) := fun hm => by
              cases n <;> simp [ownBlk] at hm
              omega
            exact ((O9.out.other _ _ ho).other _ _ ho).other _ _ ho
          · cases n <;> simp [ownBlk] at hk
            omega
        · rw [if_neg (fun e => hok ⟨congrArg Prod.snd e, congrArg Prod.fst e⟩)] at HR2
          subst HR2
          by_cases h0 : pe = 0
          · subst h0
            have z1 : (t == s) = false := by
              have : ¬ t = s := fun e => hok ⟨rfl, e⟩
              simpa using this
            clear hok
            go_wp2_with (go_at_call 97; (with_reducible refine HPUT.out.mono ?_); rintro e w9 ⟨rfl, hc9⟩; have A9 := Lib.hid (F9.out.1.on hc9); obtain ⟨⟨a0, a1, a2⟩, ⟨e0, e1, e2⟩, y0, y1, y2⟩ := A9.out.both; clear hc9)
            exact bodyPost_ret (v := .tuple #[.agg #[intV 0, intV 0, .slice none 0 0], .bool false]) (by simp [results, Tryz.results154, go_sem, a0, a1, a2]) rfl ⟨((A9.out.chg.setCell _ _ (.inr (Nat.le_refl _))).setCell _ _ (.inr (Nat.le_refl _))).setCell _ _ (.inr (Nat.le_refl _)), rfl⟩
          · have z1 : (pe == 0) = false := by simpa using h0
            have z2 : (pe != 0) = true := by simpa using h0
            clear hok h0
            go_wp2_with (go_at_call 97; (with_reducible refine HPUT.out.mono ?_); rintro e w9 ⟨rfl, hc9⟩; have A9 := Lib.hid (F9.out.1.on hc9); obtain ⟨⟨a0, a1, a2⟩, ⟨e0, e1, e2⟩, y0, y1, y2⟩ := A9.out.both; clear hc9)
            exact bodyPost_ret (v := .tuple #[.agg #[intV 0, intV 0, .slice none 0 0], .bool false]) (by simp [results, Tryz.results154, go_sem, a0, a1, a2]) rfl ⟨((A9.out.chg.setCell _ _ (.inr (Nat.le_refl _))).setCell _ _ (.inr (Nat.le_refl _))).setCell _ _ (.inr (Nat.le_refl _)), rfl⟩

theorem root_get {s : Bytes} (hs : s.length = 64) (w : World) : Calls Tryz.prog 154 #[strV s] w (GotRoot w (rootGet s)) := by
  by_cases h : unpackI (s.take 8) ≠ unpackI (s.drop 56) ∨ crcOk ((s.drop 8).take 48) = false
  · have : rootGet s = none := by
      unfold rootGet
      rw [if_neg (by simp [hs]), if_pos h]
    rw [this]
    exact root_get_crc hs w h
  · exact root_get_ok hs w (by simpa using (not_or.1 h).1) (by simpa using (not_or.1 h).2)

def GotNewer (w : World) (o : Option (Root × Int)) (e : Ending) (w' : World) : Prop :=
  Chg [] w w' ∧ match o with
    | none => e = .returned (.tuple #[.agg #[intV 0, intV 0, .slice none 0 0], intV (-1), .bool false])
    | some (r, i) => ∃ pv, e = .returned (.tuple #[.agg #[intV r.epoch, intV r.logical, pv], intV i, .bool true]) ∧ Own w' 3 1 pv r.parts.length (ints r.parts) ∧ ∀ k ∈ ownBlk pv, w.heap.size ≤ k

theorem GotRoot.none {w w' : World} {e : Ending} (h : GotRoot w none e w') : e = .returned (.tuple #[.agg #[intV 0, intV 0, .slice none 0 0], .bool false]) ∧ Chg [] w w' := ⟨h.2, h.1⟩
theorem GotRoot.some {w w' : World} {e : Ending} {r : Root} (h : GotRoot w (some r) e w') : ∃ pv, e = .returned (.tuple #[.agg #[intV r.epoch, intV r.logical, pv], .bool true]) ∧ Chg [] w w' ∧ Own w' 3 1 pv r.parts.length (ints r.parts) ∧ ∀ k ∈ ownBlk pv, w.heap.size ≤ k := by
  obtain ⟨h1, pv, h2, h3, h4⟩ := h
  exact ⟨pv, h2, h1, h3, h4⟩

/-- three cells of a root, at the world and behind an alloc -/
theorem root_at {w : World} {g : Nat} {T : TypeId} {v0 v1 v2 : Value} (h : Blk w g T [v0, v1, v2]) :
    ((w.cell? ⟨g, 0, none⟩ = some v0 ∧ w.cell? ⟨g, 1, none⟩ = some v1 ∧ w.cell? ⟨g, 2, none⟩ = some v2)) ∧ w.frozen? ⟨g, 0, none⟩ = false ∧ w.frozen? ⟨g, 1, none⟩ = false ∧ w.frozen? ⟨g, 2, none⟩ = false :=
  ⟨⟨h.cell 0, h.cell 1, h.cell 2⟩, h.free 0, h.free 1, h.free 2⟩
theorem chg_three {F : List Nat} {a w : World} (h : Chg F a w) (g : Nat) (hg : a.heap.size ≤ g) (v0 v1 v2 : Value) : Chg F a (((w.setCell ⟨g, 0, none⟩ v0).setCell ⟨g, 1, none⟩ v1).setCell ⟨g, 2, none⟩ v2) :=
  ((h.setCell _ _ (.inr hg)).setCell _ _ (.inr hg)).setCell _ _ (.inr hg)
theorem own_three {w : World} {e : TypeId} {size : Nat} {v : Value} {n : Nat} {xs : List Value} (h : Own w e size v n xs) (g : Nat) (hg : g ∉ ownBlk v) (v0 v1 v2 : Value) : Own (((w.setCell ⟨g, 0, none⟩ v0).setCell ⟨g, 1, none⟩ v1).setCell ⟨g, 2, none⟩ v2) e size v n xs :=
  ((h.other _ _ hg).other _ _ hg).other _ _ hg

end Go.Proofs.YtjbpdgknhbnfgaaGreat

namespace Go.Proofs.YtjbpdgknhbnfgaaGreat
open Go.RowKit
set_option maxRecDepth 100000

set_option maxHeartbeats 2000000 in
theorem root_newer {a b : Bytes} (ha : a.length = 64) (hb : b.length = 64) (w : World) : Calls Tryz.prog 92 #[strV a, strV b] w (GotNewer w (rootNewer a b)) := by
  have ga := fun (wr : World) => root_get ha wr
  have gb := fun (wr : World) => root_get hb wr
  have hR : Blk (w.alloc (.cells #[intV 0, intV 0, .slice none 0 0] 125)) w.heap.size 125 [intV 0, intV 0, .slice none 0 0] := Blk.new w _ _
  have HR := Lib.hid hR
  clear hR
  unfold rootNewer
  cases hA : rootGet a with
  | none =>
    rw [hA] at ga
    cases hB : rootGet b with
    | none =>
      rw [hB] at gb
      have HA := Lib.hid ga
      have HB := Lib.hid gb
      clear ga gb ha hb hA hB
      go_enter Tryz.func92, Tryz.ntmps92
      go_wp2_with fail
      refine (HA.out _).mono ?_
      intro e w2 hg2
      obtain ⟨rfl, hc2⟩ := hg2.none
      have hX := Blk.new w2 125 [intV 0, intV 0, .slice none 0 0]
      have HR2 := Lib.hid ((HR.out.kept hc2 (by simp)).alloc (.cells #[intV 0, intV 0, .slice none 0 0] 125))
      have C2 := Lib.hid ((((Chg.refl [] w).alloc _).trans0 hc2).alloc (.cells #[intV 0, intV 0, .slice none 0 0] 125))
      have GE := Lib.hid hc2.size
      have HX := Lib.hid hX
      clear hc2 hg2 hX
      go_wp2_with fail
      refine (HB.out _).mono ?_
      intro e w3 hg3
      obtain ⟨rfl, hc3⟩ := hg3.none
      have HR3 := HR2.out.kept hc3 (by simp)
      have HX3 := HX.out.kept hc3 (by simp)
      have C3 := Lib.hid ((C2.out.trans0 hc3).alloc (.cells #[intV 0, intV 0, .slice none 0 0] 125))
      have HY3 := Blk.new w3 125 [intV 0, intV 0, .slice none 0 0]
      obtain ⟨⟨r0, r1, r2⟩, z0, z1, z2⟩ := root_cells HR3
      obtain ⟨⟨x0, x1, x2⟩, -⟩ := root_cells HX3
      obtain ⟨⟨y0, y1, y2⟩, -⟩ := root_at HY3
      have NE := Lib.hid (Nat.lt_of_lt_of_le HR2.out.lt (Nat.le_refl _))
      clear hc3 hg3 HR3 HX3 HY3
      go_wp2_with fail
      exact bodyPost_ret (v := .tuple #[.agg #[intV 0, intV 0, .slice none 0 0], intV (-1), .bool false]) (by simp [results, Tryz.results92, go_sem, r0, r1, r2]) rfl ⟨chg_three C3.out _ (Nat.le_refl _) _ _ _, rfl⟩
    | some y =>
      rw [hB] at gb
      have HA := Lib.hid ga
      have HB := Lib.hid gb
      clear ga gb ha hb hA hB
      go_enter Tryz.func92, Tryz.ntmps92
      go_wp2_with fail
      refine (HA.out _).mono ?_
      intro e w2 hg2
      obtain ⟨rfl, hc2⟩ := hg2.none
      have hX := Blk.new w2 125 [intV 0, intV 0, .slice none 0 0]
      have HR2 := Lib.hid ((HR.out.kept hc2 (by simp)).alloc (.cells #[intV 0, intV 0, .slice none 0 0] 125))
      have C2 := Lib.hid ((((Chg.refl [] w).alloc _).trans0 hc2).alloc (.cells #[intV 0, intV 0, .slice none 0 0] 125))
      have GE := Lib.hid hc2.size
      have HX := Lib.hid hX
      clear hc2 hg2 hX
      go_wp2_with fail
      refine (HB.out _).mono ?_
      intro e w3 hg3
      obtain ⟨yp, rfl, hc3, hyo, hyn⟩ := hg3.some
      obtain ⟨ya, yc, rfl, -, -⟩ := hyo.shape
      have OY := Lib.hid (hyo.alloc (.cells #[intV y.epoch, intV y.logical, (.slice ya y.parts.length yc)] 125))
      have NY := Lib.hid hyn
      clear hyo hyn
      have HR3 := HR2.out.kept hc3 (by simp)
      have HX3 := HX.out.kept hc3 (by simp)
      have C3 := Lib.hid ((C2.out.trans0 hc3).alloc (.cells #[intV y.epoch, intV y.logical, (.slice ya y.parts.length yc)] 125))
      have HY3 := Blk.new w3 125 [intV y.epoch, intV y.logical, (.slice ya y.parts.length yc)]
      obtain ⟨⟨r0, r1, r2⟩, z0, z1, z2⟩ := root_cells HR3
      obtain ⟨⟨x0, x1, x2⟩, -⟩ := root_cells HX3
      obtain ⟨⟨y0, y1, y2⟩, -⟩ := root_at HY3
      have NE := Lib.hid (Nat.lt_of_lt_of_le HR2.out.lt (Nat.le_refl _))
      clear hc3 hg3 HR3 HX3 HY3
      go_wp2_with fail
      have hnw : w.heap.size ∉ ownBlk (.slice ya y.parts.length yc) := fun hm => by have h1 := NY.out _ hm; have h2 := GE.out; simp at h1 h2; omega
      exact bodyPost_ret (v := .tuple #[.agg #[intV y.epoch, intV y.logical, (.slice ya y.parts.length yc)], intV 1, .bool true]) (by simp [results, Tryz.results92, go_sem, r0, r1, r2]) rfl ⟨chg_three C3.out _ (Nat.le_refl _) _ _ _, (.slice ya y.parts.length yc), rfl, own_three OY.out _ hnw _ _ _, fun k hk => by have h1 := NY.out k hk; have h2 := GE.out; have h3 := C2.out.size; simp at h1 h2 h3; omega⟩
  | some x =>
    rw [hA] at ga
    cases hB : rootGet b with
    | none =>
      rw [hB] at gb
      have HA := Lib.hid ga
      have HB := Lib.hid gb
      clear ga gb ha hb hA hB
      go_enter Tryz.func92, Tryz.ntmps92
      go_wp2_with fail
      refine (HA.out _).mono ?_
      intro e w2 hg2
      obtain ⟨xp, rfl, hc2, hxo, hxn⟩ := hg2.some
      obtain ⟨xa, xc, rfl, -, -⟩ := hxo.shape
      have hX := Blk.new w2 125 [intV x.epoch, intV x.logical, (.slice xa x.parts.length xc)]
      have OX := Lib.hid (hxo.alloc (.cells #[intV x.epoch, intV x.logical, (.slice xa x.parts.length xc)] 125))
      have NX := Lib.hid hxn
      clear hxo hxn
      have HR2 := Lib.hid ((HR.out.kept hc2 (by simp)).alloc (.cells #[intV x.epoch, intV x.logical, (.slice xa x.parts.length xc)] 125))
      have C2 := Lib.hid ((((Chg.refl [] w).alloc _).trans0 hc2).alloc (.cells #[intV x.epoch, intV x.logical, (.slice xa x.parts.length xc)] 125))
      have GE := Lib.hid hc2.size
      have HX := Lib.hid hX
      clear hc2 hg2 hX
      go_wp2_with fail
      refine (HB.out _).mono ?_
      intro e w3 hg3
      obtain ⟨rfl, hc3⟩ := hg3.none
      have OX3 := Lib.hid ((OX.out.kept hc3 (by simp)).alloc (.cells #[intV 0, intV 0, .slice none 0 0] 125))
      have HR3 := HR2.out.kept hc3 (by simp)
      have HX3 := HX.out.kept hc3 (by simp)
      have C3 := Lib.hid ((C2.out.trans0 hc3).alloc (.cells #[intV 0, intV 0, .slice none 0 0] 125))
      have HY3 := Blk.new w3 125 [intV 0, intV 0, .slice none 0 0]
      obtain ⟨⟨r0, r1, r2⟩, z0, z1, z2⟩ := root_cells HR3
      obtain ⟨⟨x0, x1, x2⟩, -⟩ := root_cells HX3
      obtain ⟨⟨y0, y1, y2⟩, -⟩ := root_at HY3
      have NE := Lib.hid (Nat.lt_of_lt_of_le HR2.out.lt (Nat.le_refl _))
      clear hc3 hg3 HR3 HX3 HY3
      go_wp2_with fail
      have hnw : w.heap.size ∉ ownBlk (.slice xa x.parts.length xc) := fun hm => by have h1 := NX.out _ hm; have h2 := GE.out; simp at h1 h2; omega
      exact bodyPost_ret (v := .tuple #[.agg #[intV x.epoch, intV x.logical, (.slice xa x.parts.length xc)], intV 0, .bool true]) (by simp [results, Tryz.results92, go_sem, r0, r1, r2]) rfl ⟨chg_three C3.out _ (Nat.le_refl _) _ _ _, (.slice xa x.parts.length xc), rfl, own_three OX3.out _ hnw _ _ _, fun k hk => by have h1 := NX.out k hk; have h2 := GE.out; have h3 := C2.out.size; simp at h1 h2 h3; omega⟩
    | some y =>
      rw [hB] at gb
      by_cases hlt : x.epoch < y.epoch
      · have q : decide (x.epoch < y.epoch) = true := by simpa using hlt
        dsimp only
        rw [if_pos hlt]
        clear hlt
        have HA := Lib.hid ga
        have HB := Lib.hid gb
        clear ga gb ha hb hA hB
        go_enter Tryz.func92, Tryz.ntmps92
        go_wp2_with fail
        refine (HA.out _).mono ?_
        intro e w2 hg2
        obtain ⟨xp, rfl, hc2, hxo, hxn⟩ := hg2.some
        obtain ⟨xa, xc, rfl, -, -⟩ := hxo.shape
        have hX := Blk.new w2 125 [intV x.epoch, intV x.logical, (.slice xa x.parts.length xc)]
        have OX := Lib.hid (hxo.alloc (.cells #[intV x.epoch, intV x.logical, (.slice xa x.parts.length xc)] 125))
        have NX := Lib.hid hxn
        clear hxo hxn
        have HR2 := Lib.hid ((HR.out.kept hc2 (by simp)).alloc (.cells #[intV x.epoch, intV x.logical, (.slice xa x.parts.length xc)] 125))
        have C2 := Lib.hid ((((Chg.refl [] w).alloc _).trans0 hc2).alloc (.cells #[intV x.epoch, intV x.logical, (.slice xa x.parts.length xc)] 125))
        have GE := Lib.hid hc2.size
        have HX := Lib.hid hX
        clear hc2 hg2 hX
        go_wp2_with fail
        refine (HB.out _).mono ?_
        intro e w3 hg3
        obtain ⟨yp, rfl, hc3, hyo, hyn⟩ := hg3.some
        obtain ⟨ya, yc, rfl, -, -⟩ := hyo.shape
        have OY := Lib.hid (hyo.alloc (.cells #[intV y.epoch, intV y.logical, (.slice ya y.parts.length yc)] 125))
        have NY := Lib.hid hyn
        clear hyo hyn
        have OX3 := Lib.hid ((OX.out.kept hc3 (by simp)).alloc (.cells #[intV y.epoch, intV y.logical, (.slice ya y.parts.length yc)] 125))
        have HR3 := HR2.out.kept hc3 (by simp)
        have HX3 := HX.out.kept hc3 (by simp)
        have C3 := Lib.hid ((C2.out.trans0 hc3).alloc (.cells #[intV y.epoch, intV y.logical, (.slice ya y.parts.length yc)] 125))
        have HY3 := Blk.new w3 125 [intV y.epoch, intV y.logical, (.slice ya y.parts.length yc)]
        obtain ⟨⟨r0, r1, r2⟩, z0, z1, z2⟩ := root_cells HR3
        obtain ⟨⟨x0, x1, x2⟩, -⟩ := root_cells HX3
        obtain ⟨⟨y0, y1, y2⟩, -⟩ := root_at HY3
        have NE := Lib.hid (Nat.lt_of_lt_of_le HR2.out.lt (Nat.le_refl _))
        clear hc3 hg3 HR3 HX3 HY3
        go_wp2_with fail
        have hnw : w.heap.size ∉ ownBlk (.slice ya y.parts.length yc) := fun hm => by have h1 := NY.out _ hm; have h2 := GE.out; simp at h1 h2; omega
        exact bodyPost_ret (v := .tuple #[.agg #[intV y.epoch, intV y.logical, (.slice ya y.parts.length yc)], intV 1, .bool true]) (by simp [results, Tryz.results92, go_sem, r0, r1, r2]) rfl ⟨chg_three C3.out _ (Nat.le_refl _) _ _ _, (.slice ya y.parts.length yc), rfl, own_three OY.out _ hnw _ _ _, fun k hk => by have h1 := NY.out k hk; have h2 := GE.out; have h3 := C2.out.size; simp at h1 h2 h3; omega⟩
      · have q : decide (x.epoch < y.epoch) = false := by simpa using hlt
        dsimp only
        rw [if_neg hlt]
        clear hlt
        have HA := Lib.hid ga
        have HB := Lib.hid gb
        clear ga gb ha hb hA hB
        go_enter Tryz.func92, Tryz.ntmps92
        go_wp2_with fail
        refine (HA.out _).mono ?_
        intro e w2 hg2
        obtain ⟨xp, rfl, hc2, hxo, hxn⟩ := hg2.some
        obtain ⟨xa, xc, rfl, -, -⟩ := hxo.shape
        have hX := Blk.new w2 125 [intV x.epoch, intV x.logical, (.slice xa x.parts.length xc)]
        have OX := Lib.hid (hxo.alloc (.cells #[intV x.epoch, intV x.logical, (.slice xa x.parts.length xc)] 125))
        have NX := Lib.hid hxn
        clear hxo hxn
        have HR2 := Lib.hid ((HR.out.kept hc2 (by simp)).alloc (.cells #[intV x.epoch, intV x.logical, (.slice xa x.parts.length xc)] 125))
        have C2 := Lib.hid ((((Chg.refl [] w).alloc _).trans0 hc2).alloc (.cells #[intV x.epoch, intV x.logical, (.slice xa x.parts.length xc)] 125))
        have GE := Lib.hid hc2.size
        have HX := Lib.hid hX
        clear hc2 hg2 hX
        go_wp2_with fail
        refine (HB.out _).mono ?_
        intro e w3 hg3
        obtain ⟨yp, rfl, hc3, hyo, hyn⟩ := hg3.some
        obtain ⟨ya, yc, rfl, -, -⟩ := hyo.shape
        have OY := Lib.hid (hyo.alloc (.cells #[intV y.epoch, intV y.logical, (.slice ya y.parts.length yc)] 125))
        have NY := Lib.hid hyn
        clear hyo hyn
        have OX3 := Lib.hid ((OX.out.kept hc3 (by simp)).alloc (.cells #[intV y.epoch, intV y.logical, (.slice ya y.parts.length yc)] 125))
        have HR3 := HR2.out.kept hc3 (by simp)
        have HX3 := HX.out.kept hc3 (by simp)
        have C3 := Lib.hid ((C2.out.trans0 hc3).alloc (.cells #[intV y.epoch, intV y.logical, (.slice ya y.parts.length yc)] 125))
        have HY3 := Blk.new w3 125 [intV y.epoch, intV y.logical, (.slice ya y.parts.length yc)]
        obtain ⟨⟨r0, r1, r2⟩, z0, z1, z2⟩ := root_cells HR3
        obtain ⟨⟨x0, x1, x2⟩, -⟩ := root_cells HX3
        obtain ⟨⟨y0, y1, y2⟩, -⟩ := root_at HY3
        have NE := Lib.hid (Nat.lt_of_lt_of_le HR2.out.lt (Nat.le_refl _))
        clear hc3 hg3 HR3 HX3 HY3
        go_wp2_with fail
        have hnw : w.heap.size ∉ ownBlk (.slice xa x.parts.length xc) := fun hm => by have h1 := NX.out _ hm; have h2 := GE.out; simp at h1 h2; omega
        exact bodyPost_ret (v := .tuple #[.agg #[intV x.epoch, intV x.logical, (.slice xa x.parts.length xc)], intV 0, .bool true]) (by simp [results, Tryz.results92, go_sem, r0, r1, r2]) rfl ⟨chg_three C3.out _ (Nat.le_refl _) _ _ _, (.slice xa x.parts.length xc), rfl, own_three OX3.out _ hnw _ _ _, fun k hk => by have h1 := NX.out k hk; have h2 := GE.out; have h3 := C2.out.size; simp at h1 h2 h3; omega⟩

end Go.Proofs.YtjbpdgknhbnfgaaGreat

namespace Go.Proofs.YtjbpdgknhbnfgaaGreat
open Go.RowKit
set_option maxRecDepth 100000

/-- four cells of a page -/
theorem page_at {w : World} {g : Nat} {T : TypeId} {v0 v1 v2 v3 : Value} (h : Blk w g T [v0, v1, v2, v3]) :
    (w.cell? ⟨g, 0, none⟩ = some v0 ∧ w.cell? ⟨g, 1, none⟩ = some v1 ∧ w.cell? ⟨g, 2, none⟩ = some v2 ∧ w.cell? ⟨g, 3, none⟩ = some v3) ∧ w.frozen? ⟨g, 0, none⟩ = false ∧ w.frozen? ⟨g, 1, none⟩ = false ∧ w.frozen? ⟨g, 2, none⟩ = false ∧ w.frozen? ⟨g, 3, none⟩ = false :=
  ⟨⟨h.cell 0, h.cell 1, h.cell 2, h.cell 3⟩, h.free 0, h.free 1, h.free 2, h.free 3⟩
theorem page_cells {w : World} {g : Nat} {T : TypeId} {v0 v1 v2 v3 : Value} (h : Blk w g T [v0, v1, v2, v3]) :
    ((∀ o, (w.alloc o).cell? ⟨g, 0, none⟩ = some v0) ∧ (∀ o, (w.alloc o).cell? ⟨g, 1, none⟩ = some v1) ∧ (∀ o, (w.alloc o).cell? ⟨g, 2, none⟩ = some v2) ∧ (∀ o, (w.alloc o).cell? ⟨g, 3, none⟩ = some v3)) ∧
    (∀ o, (w.alloc o).frozen? ⟨g, 0, none⟩ = false) ∧ (∀ o, (w.alloc o).frozen? ⟨g, 1, none⟩ = false) ∧ (∀ o, (w.alloc o).frozen? ⟨g, 2, none⟩ = false) ∧ (∀ o, (w.alloc o).frozen? ⟨g, 3, none⟩ = false) :=
  ⟨⟨fun o => (h.alloc o).cell 0, fun o => (h.alloc o).cell 1, fun o => (h.alloc o).cell 2, fun o => (h.alloc o).cell 3⟩, fun o => (h.alloc o).free 0, fun o => (h.alloc o).free 1, fun o => (h.alloc o).free 2, fun o => (h.alloc o).free 3⟩
theorem chg_four {F : List Nat} {a w : World} (h : Chg F a w) (g : Nat) (hg : a.heap.size ≤ g) (v0 v1 v2 v3 : Value) : Chg F a ((((w.setCell ⟨g, 0, none⟩ v0).setCell ⟨g, 1, none⟩ v1).setCell ⟨g, 2, none⟩ v2).setCell ⟨g, 3, none⟩ v3) :=
  (((h.setCell _ _ (.inr hg)).setCell _ _ (.inr hg)).setCell _ _ (.inr hg)).setCell _ _ (.inr hg)
theorem chg_four0 (w : World) (g : Nat) (v0 v1 v2 v3 : Value) : Chg [g] w ((((w.setCell ⟨g, 0, none⟩ v0).setCell ⟨g, 1, none⟩ v1).setCell ⟨g, 2, none⟩ v2).setCell ⟨g, 3, none⟩ v3) :=
  ((((Chg.refl _ _).setCell _ _ (.inl (by simp))).setCell _ _ (.inl (by simp))).setCell _ _ (.inl (by simp))).setCell _ _ (.inl (by simp))

theorem FMap.use_len (m : FMap) (i : Int) : (FMap.use m i).2.length = m.length := by
  unfold FMap.use
  split
  · rfl
  · split
    · rfl
    · simp

set_option maxHeartbeats 1000000 in
theorem store_check {w : World} {b : StoreB} {S : Store} (h : StoreAt w b S) (hml : S.m.length = S.d.pages) (id kind : Int) :
    Calls Tryz.prog 96 #[ptrV b.s, intV id, intV kind] w fun e w' => e = .returned (.tuple #[pageV (S.check id kind).1, intV (S.check id kind).2.1]) ∧ StoreAt w' b { S with m := (S.check id kind).2.2 } ∧ Chg b.m.set w w' := by
  have hR : Blk (w.alloc (.cells #[intV 0, intV 0, intV 0, .string ⟨#[]⟩] 55)) w.heap.size 55 [intV 0, intV 0, intV 0, .string ⟨#[]⟩] := Blk.new w _ _
  have HR := Lib.hid hR
  have hwb : w.heap.size ∉ b.set := fun hm => absurd (h.lt _ hm) (Nat.lt_irrefl _)
  have HWB := Lib.hid hwb
  have HWM : Hid (w.heap.size ∉ b.m.set) := Lib.hid fun hm => hwb (m_sub b _ hm)
  have h1 := h.kept (F := []) ((Chg.refl _ w).alloc (.cells #[intV 0, intV 0, intV 0, .string ⟨#[]⟩] 55)) (by simp)
  have C1 : Hid (Chg [] w (w.alloc (.cells #[intV 0, intV 0, intV 0, .string ⟨#[]⟩] 55))) := Lib.hid ((Chg.refl _ w).alloc _)
  obtain ⟨k0, k1, -, -, -⟩ := h1.cells
  have hus := map_use h1.m id
  have H1 := Lib.hid h1
  have HSZ : Hid (w.heap.size < (w.alloc (.cells #[intV 0, intV 0, intV 0, .string ⟨#[]⟩] 55)).heap.size) := Lib.hid HR.out.lt
  unfold Store.check
  by_cases hu : (FMap.use S.m id).1 ≠ 0
  · rw [if_pos hu]
    have hum : (FMap.use S.m id).2 = S.m := by
      unfold FMap.use at hu ⊢
      split
      · rfl
      · rename_i h2
        rw [if_neg h2] at hu
        split
        · rfl
        · rename_i h3
          rw [if_neg h3] at hu
          simp at hu
    rw [hum] at hus
    have z1 : ((FMap.use S.m id).1 == 0) = false := by simpa using hu
    have z2 : ((FMap.use S.m id).1 != 0) = true := by simpa using hu
    generalize (FMap.use S.m id).1 = ue at *
    have HUS := Lib.hid hus
    clear hus hu hum hml h h1 hwb hR
    go_enter Tryz.func96, Tryz.ntmps96
    go_wp2_with (go_at_call 156; (with_reducible refine HUS.out.mono ?_); rintro e w2 ⟨rfl, hm2, hc2⟩; have R2 := HR.out.kept hc2 HWM.out; have H2 := Lib.hid (H1.out.onM hm2 hc2); obtain ⟨⟨r0, r1, r2, r3⟩, y0, y1, y2, y3⟩ := page_at R2; have C2 := Lib.hid hc2; clear hm2 hc2 R2)
    exact bodyPost_ret (v := .tuple #[pageV .none, intV 14]) (by simp [results, Tryz.results96, go_sem, r0, r1, r2, r3, pageV, Page.none]) rfl ⟨rfl, H2.out.kept (chg_four0 _ _ _ _ _ _) (fun k hk hm => by simp at hm; subst hm; exact HWB.out hk), chg_four ((C1.out.mono (by simp)).trans1 C2.out) _ (Nat.le_refl _) _ _ _ _⟩
  · rw [if_neg hu]
    have hu0 : (FMap.use S.m id).1 = 0 := by simpa using hu
    rw [hu0] at hus
    obtain ⟨n, rfl, hn⟩ : ∃ n : Nat, id = n ∧ n < S.d.pages := by
      unfold FMap.use at hu0
      split at hu0
      · rename_i h2
        exact absurd hu0 h2
      · rename_i h2
        have hz : FMap.at_ S.m id = 0 := by simpa using h2
        obtain ⟨h3, h4⟩ := FMap.at_zero hz
        exact ⟨id.toNat, by omega, by omega⟩
    have hpg := (Disk.pages_le S.d).1
    have hrd := fun (w2 : World) (h2 : StoreAt w2 b { S with m := (FMap.use S.m n).2 }) => page_read h2.d n (by show n < S.d.many; omega)
    have hbd := fun (w2 : World) => shadow_bad (pageRead S.d n).2 w2
    have k5 := fun (w2 : World) (h2 : StoreAt w2 b { S with m := (FMap.use S.m n).2 }) => (show w2.cell? ⟨b.s, 5, none⟩ = some (intV S.epoch) from h2.st.cell 5)
    have k00 := fun (w2 : World) (h2 : StoreAt w2 b { S with m := (FMap.use S.m n).2 }) => (show w2.cell? ⟨b.s, 0, none⟩ = some (ptrV b.d.d) from h2.st.cell 0)
    dsimp only at hrd
    generalize (FMap.use S.m n).2 = M at *
    obtain ⟨⟨⟨pi, pe, pk, pp⟩, re⟩, hpr⟩ : ∃ x, pageRead S.d n = x := ⟨_, rfl⟩
    rw [hpr] at hrd hbd
    rw [hpr]
    dsimp only [pageV] at hrd hbd ⊢
    have HUS := Lib.hid hus
    have HRD := Lib.hid hrd
    have HBD := Lib.hid hbd
    have K5 := Lib.hid k5
    have K0 := Lib.hid k00
    clear hus hrd hbd k5 k00 hpr hu hu0 hml h h1 hwb hR hn hpg
    have FIN : Hid (∀ w4 : World, StoreAt w4 b { S with m := M } → Chg b.m.set w w4 → ∀ v0 v1 v2 v3, StoreAt ((((w4.setCell ⟨w.heap.size, 0, none⟩ v0).setCell ⟨w.heap.size, 1, none⟩ v1).setCell ⟨w.heap.size, 2, none⟩ v2).setCell ⟨w.heap.size, 3, none⟩ v3) b { S with m := M } ∧
        Chg b.m.set w ((((w4.setCell ⟨w.heap.size, 0, none⟩ v0).setCell ⟨w.heap.size, 1, none⟩ v1).setCell ⟨w.heap.size, 2, none⟩ v2).setCell ⟨w.heap.size, 3, none⟩ v3)) := Lib.hid (fun w4 h4 c4 v0 v1 v2 v3 =>
      ⟨h4.kept (chg_four0 _ _ _ _ _ _) (fun k hk hm => by simp at hm; subst hm; exact HWB.out hk), chg_four c4 _ (Nat.le_refl _) _ _ _ _⟩)
    by_cases hre : re = 0
    · subst hre
      rw [if_neg (by simp)]
      by_cases hkd : pk = kind
      · subst hkd
        have z1 : (pk == pk) = true := by simp
        have z2 : (pk != pk) = false := by simp
        by_cases hep : S.epoch < pe
        · rw [if_pos (.inr hep)]
          have z3 : decide (S.epoch < pe) = true := by simpa using hep
          clear hep
          go_enter Tryz.func96, Tryz.ntmps96
          go_wp2_with (first
            | (go_at_call 156; (with_reducible refine HUS.out.mono ?_); rintro e w2 ⟨rfl, hm2, hc2⟩; have R2 := Lib.hid (HR.out.kept hc2 HWM.out); have H2 := Lib.hid (H1.out.onM hm2 hc2); have C2 := Lib.hid ((C1.out.mono (G := b.m.set) (by simp)).trans1 hc2); have j0 := K0.out _ H2.out; clear hm2 hc2)
            | (go_at_call 90; (with_reducible refine (HRD.out _ H2.out).mono ?_); rintro e w3 ⟨rfl, hc3⟩; have R3 := Lib.hid ((R2.out.kept hc3 (by simp)).alloc (.cells #[intV pi, intV pe, intV pk, strV pp] 55)); have hc3' := hc3.alloc (.cells #[intV pi, intV pe, intV pk, strV pp] 55); have H3 := Lib.hid (H2.out.kept hc3' (by simp)); have C3 := Lib.hid (C2.out.trans0 hc3'); clear hc3 hc3'; obtain ⟨⟨q0, q1, q2, q3⟩, -⟩ := page_at (Blk.new w3 55 [intV pi, intV pe, intV pk, strV pp]); obtain ⟨⟨r0, r1, r2, r3⟩, y0, y1, y2, y3⟩ := page_at R3.out; have j5 := K5.out _ H3.out; have j00 := K0.out _ H3.out)
            | (go_at_call 91; (with_reducible refine (HBD.out _).mono ?_); rintro e w4 ⟨rfl, rfl⟩))
          go_quiet (fail)
          go_wp2_with fail
          exact bodyPost_ret (v := .tuple #[pageV .none, intV 14]) (by simp [results, Tryz.results96, go_sem, r0, r1, r2, r3, pageV, Page.none]) rfl ⟨rfl, FIN.out _ (H3.out.kept ((Chg.refl [] _).drewN _) (by simp)) (C3.out.drewN _) _ _ _ _⟩
        · rw [if_neg (by omega)]
          have z3 : decide (S.epoch < pe) = false := by simpa using hep
          clear hep
          go_enter Tryz.func96, Tryz.ntmps96
          go_wp2_with (first
            | (go_at_call 156; (with_reducible refine HUS.out.mono ?_); rintro e w2 ⟨rfl, hm2, hc2⟩; have R2 := Lib.hid (HR.out.kept hc2 HWM.out); have H2 := Lib.hid (H1.out.onM hm2 hc2); have C2 := Lib.hid ((C1.out.mono (G := b.m.set) (by simp)).trans1 hc2); have j0 := K0.out _ H2.out; clear hm2 hc2)
            | (go_at_call 90; (with_reducible refine (HRD.out _ H2.out).mono ?_); rintro e w3 ⟨rfl, hc3⟩; have R3 := Lib.hid ((R2.out.kept hc3 (by simp)).alloc (.cells #[intV pi, intV pe, intV pk, strV pp] 55)); have hc3' := hc3.alloc (.cells #[intV pi, intV pe, intV pk, strV pp] 55); have H3 := Lib.hid (H2.out.kept hc3' (by simp)); have C3 := Lib.hid (C2.out.trans0 hc3'); clear hc3 hc3'; obtain ⟨⟨q0, q1, q2, q3⟩, -⟩ := page_at (Blk.new w3 55 [intV pi, intV pe, intV pk, strV pp]); obtain ⟨⟨r0, r1, r2, r3⟩, y0, y1, y2, y3⟩ := page_at R3.out; have j5 := K5.out _ H3.out; have j00 := K0.out _ H3.out)
            | (go_at_call 91; (with_reducible refine (HBD.out _).mono ?_); rintro e w4 ⟨rfl, rfl⟩))
          go_quiet (fail)
          go_wp2_with fail
          exact bodyPost_ret (v := .tuple #[pageV ⟨pi, pe, pk, pp⟩, intV 0]) (by simp [results, Tryz.results96, go_sem, r0, r1, r2, r3, pageV]) rfl ⟨rfl, FIN.out _ (H3.out.kept ((Chg.refl [] _).drewN _) (by simp)) (C3.out.drewN _) _ _ _ _⟩
      · rw [if_pos (.inl hkd)]
        have z1 : (pk == kind) = false := by simpa using hkd
        have z2 : (pk != kind) = true := by simpa using hkd
        clear hkd
        go_enter Tryz.func96, Tryz.ntmps96
        go_wp2_with (first
          | (go_at_call 156; (with_reducible refine HUS.out.mono ?_); rintro e w2 ⟨rfl, hm2, hc2⟩; have R2 := Lib.hid (HR.out.kept hc2 HWM.out); have H2 := Lib.hid (H1.out.onM hm2 hc2); have C2 := Lib.hid ((C1.out.mono (G := b.m.set) (by simp)).trans1 hc2); have j0 := K0.out _ H2.out; clear hm2 hc2)
          | (go_at_call 90; (with_reducible refine (HRD.out _ H2.out).mono ?_); rintro e w3 ⟨rfl, hc3⟩; have R3 := Lib.hid ((R2.out.kept hc3 (by simp)).alloc (.cells #[intV pi, intV pe, intV pk, strV pp] 55)); have hc3' := hc3.alloc (.cells #[intV pi, intV pe, intV pk, strV pp] 55); have H3 := Lib.hid (H2.out.kept hc3' (by simp)); have C3 := Lib.hid (C2.out.trans0 hc3'); clear hc3 hc3'; obtain ⟨⟨q0, q1, q2, q3⟩, -⟩ := page_at (Blk.new w3 55 [intV pi, intV pe, intV pk, strV pp]); obtain ⟨⟨r0, r1, r2, r3⟩, y0, y1, y2, y3⟩ := page_at R3.out; have j5 := K5.out _ H3.out; have j00 := K0.out _ H3.out)
          | (go_at_call 91; (with_reducible refine (HBD.out _).mono ?_); rintro e w4 ⟨rfl, rfl⟩))
        go_quiet (fail)
        go_wp2_with fail
        exact bodyPost_ret (v := .tuple #[pageV .none, intV 14]) (by simp [results, Tryz.results96, go_sem, r0, r1, r2, r3, pageV, Page.none]) rfl ⟨rfl, FIN.out _ (H3.out.kept ((Chg.refl [] _).drewN _) (by simp)) (C3.out.drewN _) _ _ _ _⟩
    · rw [if_pos hre]
      have z1 : (re == 0) = false := by simpa using hre
      have z2 : (re != 0) = true := by simpa using hre
      clear hre
      go_enter Tryz.func96, Tryz.ntmps96
      go_wp2_with (first
        | (go_at_call 156; (with_reducible refine HUS.out.mono ?_); rintro e w2 ⟨rfl, hm2, hc2⟩; have R2 := Lib.hid (HR.out.kept hc2 HWM.out); have H2 := Lib.hid (H1.out.onM hm2 hc2); have C2 := Lib.hid ((C1.out.mono (G := b.m.set) (by simp)).trans1 hc2); have j0 := K0.out _ H2.out; clear hm2 hc2)
        | (go_at_call 90; (with_reducible refine (HRD.out _ H2.out).mono ?_); rintro e w3 ⟨rfl, hc3⟩; have R3 := Lib.hid ((R2.out.kept hc3 (by simp)).alloc (.cells #[intV pi, intV pe, intV pk, strV pp] 55)); have hc3' := hc3.alloc (.cells #[intV pi, intV pe, intV pk, strV pp] 55); have H3 := Lib.hid (H2.out.kept hc3' (by simp)); have C3 := Lib.hid (C2.out.trans0 hc3'); clear hc3 hc3'; obtain ⟨⟨q0, q1, q2, q3⟩, -⟩ := page_at (Blk.new w3 55 [intV pi, intV pe, intV pk, strV pp]); obtain ⟨⟨r0, r1, r2, r3⟩, y0, y1, y2, y3⟩ := page_at R3.out; have j5 := K5.out _ H3.out; have j00 := K0.out _ H3.out)
        | (go_at_call 91; (with_reducible refine (HBD.out _).mono ?_); rintro e w4 ⟨rfl, rfl⟩))
      exact bodyPost_ret (v := .tuple #[pageV .none, intV (badErr re)]) (by simp [results, Tryz.results96, go_sem, r0, r1, r2, r3, pageV, Page.none]) rfl ⟨rfl, FIN.out _ H3.out C3.out _ _ _ _⟩

end Go.Proofs.YtjbpdgknhbnfgaaGreat
