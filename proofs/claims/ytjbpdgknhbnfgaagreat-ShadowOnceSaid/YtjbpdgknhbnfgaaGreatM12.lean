/- A part of the walks of the program's functions, each a contract that its caller uses; no condition but what each theorem names. The walk of slices.IndexFunc over frames. A pool in memory; the walks of find and of Store. Frames of a pool are read and set; the walks of held and Let. The closures of victim; ContainsFunc. The walk of victim. The walk of back. The walk of Hold where a frame has the page. The walk of the pool's New. The walks of chain.Need and chain.two. A whole frame is stored. The walk of Hold where no frame has the page and no frame is dirty. The walk of Hold where no frame has the page and no frame is dirty. Hold as a whole, as plain Lean; the closure of Get. Hold as a whole. Where a page is found, as plain Lean. -/
import Derived.Test.YtjbpdgknhbnfgaaGreatM11
import Derived.WalkMore
import Derived.Scope

namespace Go.Proofs.YtjbpdgknhbnfgaaGreat
open Go.RowKit
set_option maxRecDepth 100000
attribute [local go_sem ↓] load_frame

set_option maxHeartbeats 1000000 in
theorem frames_find {w : World} {v : Value} {L : List Frame} (h : Own w 150 5 v L.length (framesCells L)) (hl : L.length ≤ 60000) (g : Nat) (pr : Frame → Bool)
    (hf : ∀ (wr : World) (i : Nat) (hi : i < L.length), Chg [] w wr → Calls Tryz.prog 174 #[frameV L[i], ptrV g] wr fun e w' => e = .returned (.bool (pr L[i])) ∧ Chg [] wr w') :
    Calls Tryz.prog 173 #[v, .func (.func 174) #[] #[ptrV g]] w fun e w' => e = .returned (intV (idxWhere L pr)) ∧ Chg [] w w' := by
  obtain ⟨ad, c, rfl, hnc, hcm⟩ := h.shape
  obtain ⟨m, hm⟩ : ∃ m, m = L.findIdx pr := ⟨_, rfl⟩
  have hml : m ≤ L.length := by subst hm; exact List.findIdx_le_length
  have hno : ∀ j (hj : j < L.length), j < m → pr L[j] = false := by
    intro j hj hjm
    subst hm
    have := List.not_of_lt_findIdx hjm
    simpa using this
  have hyes : ∀ hj : m < L.length, pr L[m] = true := by
    intro hj
    subst hm
    exact List.findIdx_getElem (w := hj)
  have hres : idxWhere L pr = if m < L.length then (m : Int) else -1 := by subst hm; rfl
  rw [hres]
  have HNO := Lib.hid hno
  have HYES := Lib.hid hyes
  have HO := Lib.hid h
  have HM := Lib.hid hml
  have HF := Lib.hid hf
  clear hres hm hno hyes h hml hf
  go_enter Tryz.func173, Tryz.ntmps173
  go_wp2
  go_loopw [8] (fun i wr => ∃ k : Nat, k ≤ m ∧ i = .int .i64 k ∧ Chg [] w wr) (fun i _ => L.length - (intOf i).toNat)
  case atStart => exact ⟨0, Nat.zero_le _, rfl, Chg.refl _ _⟩
  case round =>
    obtain ⟨k, hk, rfl, hc⟩ := hrel
    have hml := HM.out
    by_cases hlt : k < L.length
    · obtain ⟨g', cap, cur, hv, -, ⟨TT, hB⟩, hfit, hrow, -, -, -⟩ := frame_row (HO.out.kept hc (by simp)) k hlt
      simp at hv
      obtain ⟨rfl, rfl⟩ := hv
      have hpr : PtrRow wr (.pointer (some ⟨g', k * 5, none⟩)) 5 := PtrRow.mk' hB hfit
      have hro : rowOf wr (.pointer (some ⟨g', k * 5, none⟩)) 5 = #[intV L[k].page, strV L[k].payload, intV L[k].held, .bool L[k].dirty, .bool L[k].used] := by
        rw [rowOf_blk hB, hrow]
        rfl
      have HC := Lib.hid (HF.out wr k hlt hc)
      have HCH := Lib.hid hc
      clear hB hfit hrow
      by_cases hkm : k < m
      · have hb := HNO.out k hlt hkm
        rw [hb] at HC
        generalize L[k] = fr at *
        clear hml hb hc
        go_wp2_with (go_at_call 174; refine HC.out.mono ?_; rintro e w' ⟨rfl, hc'⟩)
        go_roundw
        case rel => exact ⟨k + 1, by omega, by go_num, HCH.out.trans0 hc'⟩
        case measure => simp [intOf]; omega
      · obtain rfl : k = m := by omega
        have hb := HYES.out hlt
        rw [hb] at HC
        generalize L[k] = fr at *
        clear hml hb hc
        go_wp2_with (go_at_call 174; refine HC.out.mono ?_; rintro e w' ⟨rfl, hc'⟩)
        go_ret
        exact ⟨rfl, HCH.out.trans0 hc'⟩
    · have hmm : ¬ (m < L.length) := by omega
      go_wp2
      go_ret
      exact ⟨rfl, hc⟩

set_option maxHeartbeats 1000000 in
theorem frames_none {w : World} {v : Value} {L : List Frame} (h : Own w 150 5 v L.length (framesCells L)) (hl : L.length ≤ 60000) (pr : Frame → Bool)
    (hf : ∀ (wr : World) (i : Nat) (hi : i < L.length), Chg [] w wr → Calls Tryz.prog 175 #[frameV L[i]] wr fun e w' => e = .returned (.bool (pr L[i])) ∧ Chg [] wr w') :
    Calls Tryz.prog 173 #[v, .func (.func 175) #[] #[]] w fun e w' => e = .returned (intV (idxWhere L pr)) ∧ Chg [] w w' := by
  obtain ⟨ad, c, rfl, hnc, hcm⟩ := h.shape
  obtain ⟨m, hm⟩ : ∃ m, m = L.findIdx pr := ⟨_, rfl⟩
  have hml : m ≤ L.length := by subst hm; exact List.findIdx_le_length
  have hno : ∀ j (hj : j < L.length), j < m → pr L[j] = false := by
    intro j hj hjm
    subst hm
    have := List.not_of_lt_findIdx hjm
    simpa using this
  have hyes : ∀ hj : m < L.length, pr L[m] = true := by
    intro hj
    subst hm
    exact List.findIdx_getElem (w := hj)
  have hres : idxWhere L pr = if m < L.length then (m : Int) else -1 := by subst hm; rfl
  rw [hres]
  have HNO := Lib.hid hno
  have HYES := Lib.hid hyes
  have HO := Lib.hid h
  have HM := Lib.hid hml
  have HF := Lib.hid hf
  clear hres hm hno hyes h hml hf
  go_enter Tryz.func173, Tryz.ntmps173
  go_wp2
  go_loopw [8] (fun i wr => ∃ k : Nat, k ≤ m ∧ i = .int .i64 k ∧ Chg [] w wr) (fun i _ => L.length - (intOf i).toNat)
  case atStart => exact ⟨0, Nat.zero_le _, rfl, Chg.refl _ _⟩
  case round =>
    obtain ⟨k, hk, rfl, hc⟩ := hrel
    have hml := HM.out
    by_cases hlt : k < L.length
    · obtain ⟨g', cap, cur, hv, -, ⟨TT, hB⟩, hfit, hrow, -, -, -⟩ := frame_row (HO.out.kept hc (by simp)) k hlt
      simp at hv
      obtain ⟨rfl, rfl⟩ := hv
      have hpr : PtrRow wr (.pointer (some ⟨g', k * 5, none⟩)) 5 := PtrRow.mk' hB hfit
      have hro : rowOf wr (.pointer (some ⟨g', k * 5, none⟩)) 5 = #[intV L[k].page, strV L[k].payload, intV L[k].held, .bool L[k].dirty, .bool L[k].used] := by
        rw [rowOf_blk hB, hrow]
        rfl
      have HC := Lib.hid (HF.out wr k hlt hc)
      have HCH := Lib.hid hc
      clear hB hfit hrow
      by_cases hkm : k < m
      · have hb := HNO.out k hlt hkm
        rw [hb] at HC
        generalize L[k] = fr at *
        clear hml hb hc
        go_wp2_with (go_at_call 175; refine HC.out.mono ?_; rintro e w' ⟨rfl, hc'⟩)
        go_roundw
        case rel => exact ⟨k + 1, by omega, by go_num, HCH.out.trans0 hc'⟩
        case measure => simp [intOf]; omega
      · obtain rfl : k = m := by omega
        have hb := HYES.out hlt
        rw [hb] at HC
        generalize L[k] = fr at *
        clear hml hb hc
        go_wp2_with (go_at_call 175; refine HC.out.mono ?_; rintro e w' ⟨rfl, hc'⟩)
        go_ret
        exact ⟨rfl, HCH.out.trans0 hc'⟩
    · have hmm : ¬ (m < L.length) := by omega
      go_wp2
      go_ret
      exact ⟨rfl, hc⟩

set_option maxHeartbeats 1000000 in
theorem frames_free {w : World} {v : Value} {L : List Frame} (h : Own w 150 5 v L.length (framesCells L)) (hl : L.length ≤ 60000) (pr : Frame → Bool)
    (hf : ∀ (wr : World) (i : Nat) (hi : i < L.length), Chg [] w wr → Calls Tryz.prog 178 #[frameV L[i]] wr fun e w' => e = .returned (.bool (pr L[i])) ∧ Chg [] wr w') :
    Calls Tryz.prog 173 #[v, .func (.func 178) #[] #[]] w fun e w' => e = .returned (intV (idxWhere L pr)) ∧ Chg [] w w' := by
  obtain ⟨ad, c, rfl, hnc, hcm⟩ := h.shape
  obtain ⟨m, hm⟩ : ∃ m, m = L.findIdx pr := ⟨_, rfl⟩
  have hml : m ≤ L.length := by subst hm; exact List.findIdx_le_length
  have hno : ∀ j (hj : j < L.length), j < m → pr L[j] = false := by
    intro j hj hjm
    subst hm
    have := List.not_of_lt_findIdx hjm
    simpa using this
  have hyes : ∀ hj : m < L.length, pr L[m] = true := by
    intro hj
    subst hm
    exact List.findIdx_getElem (w := hj)
  have hres : idxWhere L pr = if m < L.length then (m : Int) else -1 := by subst hm; rfl
  rw [hres]
  have HNO := Lib.hid hno
  have HYES := Lib.hid hyes
  have HO := Lib.hid h
  have HM := Lib.hid hml
  have HF := Lib.hid hf
  clear hres hm hno hyes h hml hf
  go_enter Tryz.func173, Tryz.ntmps173
  go_wp2
  go_loopw [8] (fun i wr => ∃ k : Nat, k ≤ m ∧ i = .int .i64 k ∧ Chg [] w wr) (fun i _ => L.length - (intOf i).toNat)
  case atStart => exact ⟨0, Nat.zero_le _, rfl, Chg.refl _ _⟩
  case round =>
    obtain ⟨k, hk, rfl, hc⟩ := hrel
    have hml := HM.out
    by_cases hlt : k < L.length
    · obtain ⟨g', cap, cur, hv, -, ⟨TT, hB⟩, hfit, hrow, -, -, -⟩ := frame_row (HO.out.kept hc (by simp)) k hlt
      simp at hv
      obtain ⟨rfl, rfl⟩ := hv
      have hpr : PtrRow wr (.pointer (some ⟨g', k * 5, none⟩)) 5 := PtrRow.mk' hB hfit
      have hro : rowOf wr (.pointer (some ⟨g', k * 5, none⟩)) 5 = #[intV L[k].page, strV L[k].payload, intV L[k].held, .bool L[k].dirty, .bool L[k].used] := by
        rw [rowOf_blk hB, hrow]
        rfl
      have HC := Lib.hid (HF.out wr k hlt hc)
      have HCH := Lib.hid hc
      clear hB hfit hrow
      by_cases hkm : k < m
      · have hb := HNO.out k hlt hkm
        rw [hb] at HC
        generalize L[k] = fr at *
        clear hml hb hc
        go_wp2_with (go_at_call 178; refine HC.out.mono ?_; rintro e w' ⟨rfl, hc'⟩)
        go_roundw
        case rel => exact ⟨k + 1, by omega, by go_num, HCH.out.trans0 hc'⟩
        case measure => simp [intOf]; omega
      · obtain rfl : k = m := by omega
        have hb := HYES.out hlt
        rw [hb] at HC
        generalize L[k] = fr at *
        clear hml hb hc
        go_wp2_with (go_at_call 178; refine HC.out.mono ?_; rintro e w' ⟨rfl, hc'⟩)
        go_ret
        exact ⟨rfl, HCH.out.trans0 hc'⟩
    · have hmm : ¬ (m < L.length) := by omega
      go_wp2
      go_ret
      exact ⟨rfl, hc⟩

end Go.Proofs.YtjbpdgknhbnfgaaGreat

namespace Go.Proofs.YtjbpdgknhbnfgaaGreat
open Go.RowKit
set_option maxRecDepth 100000

structure Pool where
  s : Store
  l : List Frame
  hand : Nat
def Pool.find (p : Pool) (l : Int) : Int := if l < 0 then -1 else idxWhere p.l (fun f => f.page == l)

structure PoolB where
  p : Nat
  s : StoreB
  lv : Value
def PoolB.set (b : PoolB) : List Nat := b.p :: (ownBlk b.lv ++ b.s.set)

/-- The pool Q lies in memory, in the blocks b. -/
structure PoolAt (w : World) (b : PoolB) (Q : Pool) : Prop where
  s : StoreAt w b.s Q.s
  l : Own w 150 5 b.lv Q.l.length (framesCells Q.l)
  st : Blk w b.p 148 [ptrV b.s.s, b.lv, intV Q.hand]
  np : b.p ∉ ownBlk b.lv ∧ b.p ∉ b.s.set
  nl : ∀ k ∈ ownBlk b.lv, k ∉ b.s.set
  pos : 0 < Q.l.length
  few : Q.l.length ≤ 32
  hand : Q.hand < Q.l.length

theorem PoolAt.lt {w : World} {b : PoolB} {Q : Pool} (h : PoolAt w b Q) : ∀ k ∈ b.set, k < w.heap.size := by
  intro k hk
  simp only [PoolB.set, List.mem_cons, List.mem_append] at hk
  rcases hk with rfl | hk | hk
  · exact h.st.lt
  · exact h.l.lt k hk
  · exact h.s.lt k hk
theorem PoolAt.kept {w w' : World} {b : PoolB} {Q : Pool} {F : List Nat} (h : PoolAt w b Q) (hc : Chg F w w') (hn : ∀ k ∈ b.set, k ∉ F) : PoolAt w' b Q := by
  have hm : ∀ k, (k = b.p ∨ k ∈ ownBlk b.lv ∨ k ∈ b.s.set) → k ∉ F := fun k hk => hn k (by simpa [PoolB.set] using hk)
  exact ⟨h.s.kept hc fun k hk => hm k (by simp [hk]), h.l.kept hc fun k hk => hm k (by simp [hk]), h.st.kept hc (hm _ (by simp)), h.np, h.nl, h.pos, h.few, h.hand⟩
theorem PoolAt.kept0 {w w' : World} {b : PoolB} {Q : Pool} (h : PoolAt w b Q) (hc : Chg [] w w') : PoolAt w' b Q := h.kept hc (by simp)
theorem PoolAt.cells {w : World} {b : PoolB} {Q : Pool} (h : PoolAt w b Q) :
    w.cell? ⟨b.p, 0, none⟩ = some (ptrV b.s.s) ∧ w.cell? ⟨b.p, 1, none⟩ = some b.lv ∧ w.cell? ⟨b.p, 2, none⟩ = some (intV Q.hand) :=
  ⟨h.st.cell 0, h.st.cell 1, h.st.cell 2⟩

/-- Its store has become another one. -/
theorem PoolAt.onS {w w' : World} {b : PoolB} {Q : Pool} {S' : Store} (h : PoolAt w b Q) (hs : StoreTo b.s w w' S') :
    ∃ sb, PoolAt w' { b with s := sb } { Q with s := S' } ∧ Grew b.set (PoolB.set { b with s := sb }) w w' := by
  obtain ⟨sb, he, hst, hg⟩ := hs
  have hl1 : ∀ k ∈ ownBlk b.lv, k < w.heap.size := h.l.lt
  have hp1 := h.st.lt
  have hsub : ∀ k ∈ b.s.set, k ∈ b.set := fun k hk => by simp [PoolB.set, hk]
  have hpa : PoolAt w' { b with s := sb } { Q with s := S' } := by
    refine ⟨hst, h.l.kept hg.chg (fun k hk => h.nl k hk), ?_, ⟨h.np.1, fun hm => ?_⟩, fun k hk hm => ?_, h.pos, h.few, h.hand⟩
    · have := h.st.kept hg.chg h.np.2
      rw [← StoreB.sd_s he] at this
      exact this
    · rcases hg.from_ _ hm with h1 | h1
      · exact h.np.2 h1
      · have h2 : w.heap.size ≤ b.p := h1
        omega
    · rcases hg.from_ _ hm with h1 | h1
      · exact h.nl k hk h1
      · have := hl1 k hk; omega
  refine ⟨sb, hpa, ⟨hg.chg.mono hsub, hpa.lt, fun k hk => ?_⟩⟩
  simp only [PoolB.set, List.mem_cons, List.mem_append] at hk ⊢
  rcases hk with hk | hk | hk
  · simp [hk]
  · simp [hk]
  · rcases hg.from_ k hk with h1 | h1
    · simp [h1]
    · simp [h1]

theorem pool_store {w : World} {b : PoolB} {Q : Pool} (h : PoolAt w b Q) :
    Calls Tryz.prog 60 #[ptrV b.p] w fun e w' => e = .returned (ptrV b.s.s) ∧ w = w' := by
  obtain ⟨k0, -, -⟩ := h.cells
  clear h
  go_enter Tryz.func60, Tryz.ntmps60
  go_wp2
  go_ret
  exact ⟨rfl, rfl⟩

theorem pool_find {w : World} {b : PoolB} {Q : Pool} (h : PoolAt w b Q) (l : Int) :
    Calls Tryz.prog 127 #[ptrV b.p, intV l] w fun e w' => e = .returned (intV (Q.find l)) ∧ Chg [] w w' := by
  unfold Pool.find
  by_cases hl : l < 0
  · rw [if_pos hl]
    clear h
    go_enter Tryz.func127, Tryz.ntmps127
    go_wp2
    go_ret
    exact ⟨rfl, (Chg.refl _ _).alloc _⟩
  · rw [if_neg hl]
    have hix := fun (wr : World) (hc : Chg [] w wr) (hg : wr.cell? ⟨w.heap.size, 0, none⟩ = some (intV l)) (hlt : w.heap.size < wr.heap.size) =>
      frames_find (h.l.kept hc (by simp)) (by have := h.few; omega) w.heap.size (fun f => f.page == l) (fun w2 i hi hc2 => find1 Q.l[i] l w.heap.size w2 (by
        have hb : wr.heap[w.heap.size]? = w2.heap[w.heap.size]? := (hc2.block w.heap.size hlt (by simp)).symm
        unfold World.cell? at hg ⊢
        rw [← hb]
        exact hg))
    have hmf : ∀ (fn : Fn) (first cap : Array Value) (w : World), (Instr.makeFunc fn first cap).run Tryz.prog w = .ok (.func fn first cap) w := fun _ _ _ _ => rfl
    have hcell : (w.alloc (.cells #[intV l] 3)).cell? ⟨w.heap.size, 0, none⟩ = some (intV l) := (Blk.new w 3 [intV l]).cell 0
    have HIX := Lib.hid (hix _ ((Chg.refl [] w).alloc (.cells #[intV l] 3)) hcell (by simp))
    have HK := Lib.hid (h.kept0 ((Chg.refl [] w).alloc (.cells #[intV l] 3))).cells.2.1
    have k1 := HK.out
    clear hix h hcell
    generalize idxWhere Q.l (fun f => f.page == l) = x at *
    go_enter Tryz.func127, Tryz.ntmps127
    go_wp2_with (go_at_call 173; with_reducible refine HIX.out.mono ?_; rintro e w' ⟨rfl, hc⟩)
    go_ret
    exact ⟨rfl, ((Chg.refl _ _).alloc _).trans0 hc⟩

end Go.Proofs.YtjbpdgknhbnfgaaGreat

namespace Go.Proofs.YtjbpdgknhbnfgaaGreat
open Go.RowKit
set_option maxRecDepth 100000

theorem Frame.cells_len (f : Frame) : f.cells.length = 5 := rfl

theorem framesCells_set : ∀ (L : List Frame) (i j : Nat) (h : i < L.length) (_ : j < 5) (v : Value) (f' : Frame) (_ : f'.cells = (L[i]).cells.set j v),
    framesCells (L.set i f') = (framesCells L).set (i * 5 + j) v
  | f :: L, 0, j, _, hj, v, f', hf => by
    simp only [List.set_cons_zero, framesCells, List.flatMap_cons, List.getElem_cons_zero] at hf ⊢
    rw [hf, List.set_append_left _ _ (by rw [Frame.cells_len]; omega)]
    simp
  | f :: L, i + 1, j, h, hj, v, f', hf => by
    have ih := framesCells_set L i j (by simpa using h) hj v f' (by simpa using hf)
    simp only [List.set_cons_succ, framesCells, List.flatMap_cons] at ih ⊢
    rw [ih, List.set_append_right _ _ (by rw [Frame.cells_len]; omega), Frame.cells_len]
    congr 2
    omega

theorem frame_cell {w : World} {v : Value} {L : List Frame} (h : Own w 150 5 v L.length (framesCells L)) (i : Nat) (hi : i < L.length) :
    ∃ g cap, v = .slice (some ⟨g, 0, none⟩) L.length cap ∧ ownBlk v = [g] ∧ L.length ≤ cap ∧ cap ≤ maxLen ∧ ∀ j, j < 5 → w.cell? ⟨g, i * 5 + j, none⟩ = (L[i]).cells[j]? ∧ w.frozen? ⟨g, i * 5 + j, none⟩ = false := by
  obtain ⟨g, cap, cur, hv, hob, hB, hfit, hrow, hnc, hcm, -⟩ := frame_row h i hi
  refine ⟨g, cap, hv, hob, hnc, hcm, fun j hj => ⟨?_, hB.free _⟩⟩
  rw [hB.cell, ← hrow, List.getElem?_take, if_pos hj, List.getElem?_drop]

theorem own_frame_set {w : World} {v : Value} {L : List Frame} (h : Own w 150 5 v L.length (framesCells L)) {g cap : Nat} (hv : v = .slice (some ⟨g, 0, none⟩) L.length cap) (i j : Nat) (hi : i < L.length) (hj : j < 5)
    (x : Value) (f' : Frame) (hf : f'.cells = (L[i]).cells.set j x) : Own (w.setCell ⟨g, i * 5 + j, none⟩ x) 150 5 v (L.set i f').length (framesCells (L.set i f')) := by
  rcases h.2 with ⟨a, hv', hn⟩ | ⟨g', cap', cur, hv', hB, hn, h0, h1, h2, h3⟩
  · omega
  · rw [hv] at hv'
    simp at hv'
    obtain ⟨rfl, rfl⟩ := hv'
    refine ⟨by rw [framesCells_length], .inr ⟨g, cap, cur.set (i * 5 + j) x, ?_, hB.set _ _, by simpa using hn, h0, h1, by simpa using h2, ?_⟩⟩
    · rw [hv]; simp
    · rw [framesCells_set L i j hi hj x f' hf, ← h3, List.length_set, List.take_set]

theorem PoolAt.setF {w : World} {b : PoolB} {Q : Pool} (h : PoolAt w b Q) {g cap : Nat} (hv : b.lv = .slice (some ⟨g, 0, none⟩) Q.l.length cap) (i j : Nat) (hi : i < Q.l.length) (hj : j < 5)
    (x : Value) (f' : Frame) (hf : f'.cells = (Q.l[i]).cells.set j x) : PoolAt (w.setCell ⟨g, i * 5 + j, none⟩ x) b { Q with l := Q.l.set i f' } := by
  have hg : ownBlk b.lv = [g] := by
    obtain ⟨g', cap', hv', hob, -⟩ := frame_cell h.l i hi
    rw [hv] at hv'
    simp at hv'
    rw [hob, hv'.1]
  have hc : Chg [g] w (w.setCell ⟨g, i * 5 + j, none⟩ x) := (Chg.refl _ _).setCell _ _ (.inl (by simp))
  refine ⟨h.s.kept hc fun k hk hm => ?_, own_frame_set h.l hv i j hi hj x f' hf, h.st.kept hc fun hm => ?_, h.np, h.nl, by simpa using h.pos, by simpa using h.few, by simpa using h.hand⟩
  · simp at hm
    subst hm
    exact h.nl k (by rw [hg]; simp) hk
  · exact h.np.1 (by rw [hg]; exact hm)

theorem idxWhere_pos {L : List Frame} {pr : Frame → Bool} (h : 0 ≤ idxWhere L pr) : ∃ i : Nat, idxWhere L pr = i ∧ ∃ hi : i < L.length, pr L[i] = true := by
  unfold idxWhere at h ⊢
  split at h
  · rename_i hlt
    rw [if_pos hlt]
    exact ⟨_, rfl, hlt, List.findIdx_getElem (w := hlt)⟩
  · omega

/-- The frame that holds page l, and where it lies. -/
theorem Pool.find_pos {Q : Pool} {l : Int} (h : 0 ≤ Q.find l) : ∃ i : Nat, Q.find l = i ∧ ∃ hi : i < Q.l.length, Q.l[i].page = l := by
  unfold Pool.find at h ⊢
  split at h
  · omega
  · rename_i hl
    rw [if_neg hl]
    obtain ⟨i, h1, hi, h2⟩ := idxWhere_pos h
    exact ⟨i, h1, hi, by simpa using h2⟩

theorem pool_held_yes {w : World} {b : PoolB} {Q : Pool} (h : PoolAt w b Q) (l : Int) (i : Nat) (hf : Q.find l = i) (hi : i < Q.l.length) (hh : Q.l[i].held ≠ 0) {g cap : Nat} (hv : b.lv = .slice (some ⟨g, 0, none⟩) Q.l.length cap) :
    Calls Tryz.prog 129 #[ptrV b.p, intV l] w fun e w' => e = .returned (.tuple #[.pointer (some ⟨g, i * 5, none⟩), intV 0]) ∧ Chg [] w w' := by
  have hfd := pool_find h l
  rw [hf] at hfd
  have hkeep : ∀ w', Chg [] w w' → w'.cell? ⟨b.p, 1, none⟩ = some (.slice (some ⟨g, 0, none⟩) Q.l.length cap) ∧ w'.cell? ⟨g, i * 5 + 2, none⟩ = some (intV Q.l[i].held) := fun w' hc => by
    have h' := h.kept0 hc
    obtain ⟨g', cap', hv', -, -, -, hcell⟩ := frame_cell h'.l i hi
    rw [hv] at hv'
    simp at hv'
    obtain ⟨rfl, rfl⟩ := hv'
    refine ⟨?_, (hcell 2 (by omega)).1⟩
    rw [h'.cells.2.1, hv]
  have hb : (Q.l[i].held == 0) = false := by simpa using hh
  have hil : (i : Int) < (Q.l.length : Int) := by omega
  have hfew := h.few
  have hcap : Q.l.length ≤ cap ∧ cap ≤ maxLen := by
    obtain ⟨g', cap', hv', -, h1, h2, -⟩ := frame_cell h.l i hi
    rw [hv] at hv'
    simp at hv'
    rw [hv'.2]
    exact ⟨h1, h2⟩
  obtain ⟨hcap1, hcap2⟩ := hcap
  have HF := Lib.hid hfd
  have HK := Lib.hid hkeep
  clear hkeep hfd h hf hh hv
  generalize Q.l[i].held = x at *
  clear hi
  generalize Q.l.length = n at *
  go_enter Tryz.func129, Tryz.ntmps129
  go_wp2_with (go_at_call 127; with_reducible refine HF.out.mono ?_; rintro e w' ⟨rfl, hc⟩; obtain ⟨k1, k2⟩ := HK.out _ hc)
  go_ret2
  exact ⟨rfl, hc⟩

theorem pool_let {w : World} {b : PoolB} {Q : Pool} (h : PoolAt w b Q) (l : Int) (i : Nat) (hf : Q.find l = i) (hi : i < Q.l.length) (h1 : 1 ≤ Q.l[i].held) (h2 : Q.l[i].held ≤ 1099511627776) :
    Calls Tryz.prog 56 #[ptrV b.p, intV l] w fun e w' => e = .returned (intV 0) ∧ PoolAt w' b { Q with l := Q.l.set i { Q.l[i] with held := Q.l[i].held - 1 } } ∧ Chg b.set w w' := by
  obtain ⟨g, cap, hv, hob, -, -, -⟩ := frame_cell h.l i hi
  have hh := pool_held_yes h l i hf hi (by omega) hv
  have hkeep : ∀ w', Chg [] w w' → w'.cell? ⟨g, i * 5 + 2, none⟩ = some (intV Q.l[i].held) ∧ w'.frozen? ⟨g, i * 5 + 2, none⟩ = false ∧
      PoolAt (w'.setCell ⟨g, i * 5 + 2, none⟩ (intV (Q.l[i].held - 1))) b { Q with l := Q.l.set i { Q.l[i] with held := Q.l[i].held - 1 } } := fun w' hc => by
    have h' := h.kept0 hc
    obtain ⟨g', cap', hv', -, -, -, hcell⟩ := frame_cell h'.l i hi
    rw [hv] at hv'
    simp at hv'
    obtain ⟨rfl, rfl⟩ := hv'
    exact ⟨(hcell 2 (by omega)).1, (hcell 2 (by omega)).2, h'.setF hv i 2 hi (by omega) _ _ rfl⟩
  have hgb : g ∈ b.set := by simp [PoolB.set, hob]
  have HH := Lib.hid hh
  have HK := Lib.hid hkeep
  have HG := Lib.hid hgb
  clear hh hkeep hgb h hf hv hob
  generalize ({ Q with l := Q.l.set i { Q.l[i] with held := Q.l[i].held - 1 } } : Pool) = Q' at *
  generalize Q.l[i].held = x at *
  go_enter Tryz.func56, Tryz.ntmps56
  go_wp2_with (go_at_call 129; with_reducible refine HH.out.mono ?_; rintro e w' ⟨rfl, hc⟩; obtain ⟨k1, k2, hp⟩ := HK.out _ hc; have HP := Lib.hid hp; clear hp)
  go_ret
  exact ⟨rfl, HP.out, (hc.mono (by simp)).setCell _ _ (.inl HG.out)⟩

end Go.Proofs.YtjbpdgknhbnfgaaGreat

namespace Go.Proofs.YtjbpdgknhbnfgaaGreat
open Go.RowKit
set_option maxRecDepth 100000

theorem victim1 (f : Frame) (w : World) :
    Calls Tryz.prog 175 #[frameV f] w fun e w' => e = .returned (.bool (decide (f.page < 0))) ∧ Chg [] w w' := by
  obtain ⟨pg, pl, hd, dt, us⟩ := f
  dsimp only [frameV]
  go_enter Tryz.func175, Tryz.ntmps175
  go_wp2
  go_ret
  exact ⟨rfl, (Chg.refl _ _).alloc _⟩

theorem victim3 (f : Frame) (w : World) :
    Calls Tryz.prog 178 #[frameV f] w fun e w' => e = .returned (.bool (f.held == 0)) ∧ Chg [] w w' := by
  obtain ⟨pg, pl, hd, dt, us⟩ := f
  dsimp only [frameV]
  go_enter Tryz.func178, Tryz.ntmps178
  go_wp2
  go_ret
  exact ⟨rfl, (Chg.refl _ _).alloc _⟩

theorem pool_none {w : World} {b : PoolB} {Q : Pool} (h : PoolAt w b Q) :
    Calls Tryz.prog 173 #[b.lv, .func (.func 175) #[] #[]] w fun e w' => e = .returned (intV (idxWhere Q.l (fun f => decide (f.page < 0)))) ∧ Chg [] w w' :=
  frames_none h.l (by have := h.few; omega) (fun f => decide (f.page < 0)) (fun wr i hi _ => victim1 Q.l[i] wr)

theorem pool_free {w : World} {b : PoolB} {Q : Pool} (h : PoolAt w b Q) :
    Calls Tryz.prog 177 #[b.lv, .func (.func 178) #[] #[]] w fun e w' => e = .returned (.bool (decide (0 ≤ idxWhere Q.l (fun f => f.held == 0)))) ∧ Chg [] w w' := by
  have hx := frames_free h.l (by have := h.few; omega) (fun f => f.held == 0) (fun wr i hi _ => victim3 Q.l[i] wr)
  have HX := Lib.hid hx
  clear hx h
  generalize idxWhere Q.l (fun f => f.held == 0) = x at *
  go_enter Tryz.func177, Tryz.ntmps177
  go_wp2_with (go_at_call 173; with_reducible refine HX.out.mono ?_; rintro e w' ⟨rfl, hc⟩)
  go_ret
  exact ⟨rfl, hc⟩

def Pool.next (Q : Pool) : Pool := { Q with hand := (Q.hand + 1) % Q.l.length }

theorem victim2 {w : World} {b : PoolB} {Q : Pool} (h : PoolAt w b Q) (x : Nat) (hx : w.cell? ⟨x, 0, none⟩ = some (ptrV b.p)) {g cap : Nat} (hv : b.lv = .slice (some ⟨g, 0, none⟩) Q.l.length cap) :
    Calls Tryz.prog 176 #[ptrV x] w fun e w' => e = .returned (.pointer (some ⟨g, Q.hand * 5, none⟩)) ∧ PoolAt w' b Q.next ∧ Chg [b.p] w w' := by
  obtain ⟨-, k1, k2⟩ := h.cells
  have f2 := h.st.free 2
  rw [hv] at k1
  have hhand := h.hand
  have hfew := h.few
  have hcap : Q.l.length ≤ cap ∧ cap ≤ maxLen := by
    obtain ⟨g', cap', hv', -, h1, h2, -⟩ := frame_cell h.l 0 h.pos
    rw [hv] at hv'
    simp at hv'
    rw [hv'.2]
    exact ⟨h1, h2⟩
  obtain ⟨hcap1, hcap2⟩ := hcap
  have hset : PoolAt (w.setCell ⟨b.p, 2, none⟩ (intV (((Q.hand + 1) % Q.l.length : Nat) : Int))).drew.drew b Q.next := by
    have hc : Chg [b.p] w (w.setCell ⟨b.p, 2, none⟩ (intV (((Q.hand + 1) % Q.l.length : Nat) : Int))) := (Chg.refl _ _).setCell _ _ (.inl (by simp))
    have h1 : PoolAt (w.setCell ⟨b.p, 2, none⟩ (intV (((Q.hand + 1) % Q.l.length : Nat) : Int))) b Q.next := by
      refine ⟨h.s.kept hc fun k hk hm => ?_, h.l.kept hc fun k hk hm => ?_, h.st.set 2 _, h.np, h.nl, h.pos, h.few, Nat.mod_lt _ h.pos⟩
      · simp at hm; subst hm; exact h.np.2 hk
      · simp at hm; subst hm; exact h.np.1 hk
    exact h1.kept0 (((Chg.refl [] _).drew).drew)
  have HS := Lib.hid hset
  have hhi : (Q.hand : Int) < (Q.l.length : Int) := by omega
  have hpos := h.pos
  clear hset h hv
  generalize Q.next = Q' at *
  obtain ⟨m, hm⟩ : ∃ m, m = (Q.hand + 1) % Q.l.length := ⟨_, rfl⟩
  rw [← hm] at HS
  generalize Q.l.length = n at *
  generalize Q.hand = k at *
  have e2 : Int.tmod ((k : Int) + 1) (n : Int) = (m : Int) := by
    rw [hm, Int.tmod_eq_emod_of_nonneg (by omega)]
    simp
  have hn0 : ((n : Int) == 0) = false := by simp; omega
  have e1 : IntKind.i64.wrap ((k : Int) + 1) = (k : Int) + 1 := IntWalk.i64_in _ (by omega)
  have e3 : IntKind.i64.wrap (m : Int) = (m : Int) := IntWalk.i64_in _ (by have := Nat.mod_lt (k + 1) hpos; omega)
  clear hm
  go_enter Tryz.func176, Tryz.ntmps176
  go_wp2_with fail
  go_region
  go_wp2_with fail
  go_region
  go_wp2_with fail
  go_ret
  exact ⟨rfl, HS.out, ((((Chg.refl _ _).setCell _ _ (.inl (by simp))).drew).drew)⟩

end Go.Proofs.YtjbpdgknhbnfgaaGreat

namespace Go.Proofs.YtjbpdgknhbnfgaaGreat
open Go.RowKit
set_option maxRecDepth 100000

def Pool.round : Nat → Pool → Int × Pool
  | 0, Q => (-1, Q)
  | k + 1, Q =>
    if 0 < (Q.l.getD Q.hand Frame.empty).held then Q.next.round k
    else if (Q.l.getD Q.hand Frame.empty).used then Pool.round k { Q.next with l := Q.l.set Q.hand { Q.l.getD Q.hand Frame.empty with used := false } }
    else (Q.hand, Q.next)
def Pool.victim (Q : Pool) : Int × Pool :=
  if 0 ≤ idxWhere Q.l (fun f => decide (f.page < 0)) then (idxWhere Q.l (fun f => decide (f.page < 0)), Q)
  else if idxWhere Q.l (fun f => f.held == 0) < 0 then (-1, Q)
  else Q.round (2 * Q.l.length)

theorem Pool.getD_hand {Q : Pool} (h : Q.hand < Q.l.length) : Q.l.getD Q.hand Frame.empty = Q.l[Q.hand] := by simp [List.getD, h]

theorem pool_lv {w : World} {b : PoolB} {Q : Pool} (h : PoolAt w b Q) : ∃ g cap, b.lv = .slice (some ⟨g, 0, none⟩) Q.l.length cap ∧ g ∈ b.set ∧ Q.l.length ≤ cap ∧ cap ≤ maxLen := by
  obtain ⟨g, cap, hv, hob, h1, h2, -⟩ := frame_cell h.l 0 h.pos
  exact ⟨g, cap, hv, by simp [PoolB.set, hob], h1, h2⟩

theorem frame_cells2 {w : World} {b : PoolB} {Q : Pool} (h : PoolAt w b Q) {g cap : Nat} (hv : b.lv = .slice (some ⟨g, 0, none⟩) Q.l.length cap) (i : Nat) (hi : i < Q.l.length) :
    w.cell? ⟨g, i * 5, none⟩ = some (intV Q.l[i].page) ∧ w.cell? ⟨g, i * 5 + 1, none⟩ = some (strV Q.l[i].payload) ∧ w.cell? ⟨g, i * 5 + 2, none⟩ = some (intV Q.l[i].held) ∧ w.cell? ⟨g, i * 5 + 3, none⟩ = some (.bool Q.l[i].dirty) ∧ w.cell? ⟨g, i * 5 + 4, none⟩ = some (.bool Q.l[i].used) ∧
    w.frozen? ⟨g, i * 5 + 2, none⟩ = false ∧ w.frozen? ⟨g, i * 5 + 3, none⟩ = false ∧ w.frozen? ⟨g, i * 5 + 4, none⟩ = false := by
  obtain ⟨g', cap', hv', -, -, -, hc⟩ := frame_cell h.l i hi
  rw [hv] at hv'
  simp at hv'
  obtain ⟨rfl, rfl⟩ := hv'
  exact ⟨(hc 0 (by omega)).1, (hc 1 (by omega)).1, (hc 2 (by omega)).1, (hc 3 (by omega)).1, (hc 4 (by omega)).1, (hc 2 (by omega)).2, (hc 3 (by omega)).2, (hc 4 (by omega)).2⟩

structure VSt (w wr : World) (b : PoolB) (Qj : Pool) (R : Int × Pool) (k n : Nat) : Prop where
  at_ : PoolAt wr b Qj
  len : Qj.l.length = n
  chg : Chg b.set w wr
  box : Blk wr w.heap.size 75 [ptrV b.p]
  res : R = Qj.round k

theorem VSt.go {w wr w4 : World} {b : PoolB} {Qj Q' : Pool} {R : Int × Pool} {k m n : Nat} (h : VSt w wr b Qj R k n) (h4 : PoolAt w4 b Q') (hl : Q'.l.length = n) (hc : Chg b.set wr w4) (hnb : w.heap.size ∉ b.set)
    (hr : R = Q'.round m) : VSt w w4 b Q' R m n := ⟨h4, hl, h.chg.trans1 hc, h.box.kept hc hnb, hr⟩

set_option maxHeartbeats 2000000 in
theorem pool_victim {w : World} {b : PoolB} {Q : Pool} (h : PoolAt w b Q) :
    Calls Tryz.prog 128 #[ptrV b.p] w fun e w' => e = .returned (intV Q.victim.1) ∧ PoolAt w' b Q.victim.2 ∧ Chg b.set w w' := by
  have hnone := fun (wr : World) (hw : PoolAt wr b Q) => pool_none hw
  have hfree := fun (wr : World) (hw : PoolAt wr b Q) => pool_free hw
  have hk := fun (wr : World) (hw : PoolAt wr b Q) => hw.cells
  obtain ⟨g, cap, hv, hgb, hcap1, hcap2⟩ := pool_lv h
  have hfew := h.few
  have hpos := h.pos
  have HN := Lib.hid hnone
  have HF := Lib.hid hfree
  have HH := Lib.hid h
  have hB : Blk (w.alloc (.cells #[ptrV b.p] 75)) w.heap.size 75 [ptrV b.p] := Blk.new w _ _
  have H1 := Lib.hid (h.kept0 ((Chg.refl [] w).alloc (.cells #[ptrV b.p] 75)))
  have HB := Lib.hid hB
  have hmf : ∀ (fn : Fn) (first cap : Array Value) (w : World), (Instr.makeFunc fn first cap).run Tryz.prog w = .ok (.func fn first cap) w := fun _ _ _ _ => rfl
  have k1 := H1.out.cells.2.1
  have HNB : Hid (w.heap.size ∉ b.set) := Lib.hid (fun hm => by have := h.lt _ hm; omega)
  have HV := Lib.hid hv
  rw [hv] at k1 HN HF
  clear hv
  unfold Pool.victim
  clear hnone hfree hk h hB
  by_cases h0 : 0 ≤ idxWhere Q.l (fun f => decide (f.page < 0))
  · rw [if_pos h0]
    generalize idxWhere Q.l (fun f => decide (f.page < 0)) = x at *
    go_enter Tryz.func128, Tryz.ntmps128
    go_wp2_with fail
    refine wp_scope_straight ?_
    go_wp2_with (go_at_call 173; with_reducible refine (HN.out _ H1.out).mono ?_; rintro e w2 ⟨rfl, hc2⟩)
    rw [Exit.noGoto_ret]
    go_ret
    exact ⟨rfl, H1.out.kept0 hc2, (((Chg.refl b.set w).alloc _).trans0 hc2)⟩
  · rw [if_neg h0]
    have h0' : idxWhere Q.l (fun f => decide (f.page < 0)) < 0 := by omega
    clear h0
    by_cases h1 : idxWhere Q.l (fun f => f.held == 0) < 0
    · rw [if_pos h1]
      have hd : decide (0 ≤ idxWhere Q.l (fun f => f.held == 0)) = false := by simp; omega
      rw [hd] at HF
      clear hd h1
      generalize idxWhere Q.l (fun f => decide (f.page < 0)) = x at *
      go_enter Tryz.func128, Tryz.ntmps128
      go_wp2_with fail
      refine wp_scope_straight ?_
      go_wp2_with (first
        | (go_at_call 173; with_reducible refine (HN.out _ H1.out).mono ?_; rintro e w2 ⟨rfl, hc2⟩; have H2 := Lib.hid (H1.out.kept0 hc2); have B2 := Lib.hid (HB.out.kept hc2 (by simp)); have j1 := H2.out.cells.2.1; rw [HV.out] at j1; have z2 := B2.out.cell 0; simp at z2)
        | (go_at_call 177; with_reducible refine (HF.out _ H2.out).mono ?_; rintro e w3 ⟨rfl, hc3⟩))
      rw [Exit.noGoto_ret]
      go_ret
      exact ⟨rfl, H2.out.kept0 hc3, ((((Chg.refl b.set w).alloc _).trans0 hc2).trans0 hc3)⟩
    · rw [if_neg h1]
      have hd : decide (0 ≤ idxWhere Q.l (fun f => f.held == 0)) = true := by simp; omega
      rw [hd] at HF
      clear hd h1
      generalize idxWhere Q.l (fun f => decide (f.page < 0)) = x at *
      obtain ⟨R, hR⟩ : ∃ R, R = Q.round (2 * Q.l.length) := ⟨_, rfl⟩
      rw [← hR]
      have HR := Lib.hid hR
      clear hR
      go_enter Tryz.func128, Tryz.ntmps128
      go_wp2_with fail
      refine wp_scope_straight ?_
      go_wp2_with (first
        | (go_at_call 173; with_reducible refine (HN.out _ H1.out).mono ?_; rintro e w2 ⟨rfl, hc2⟩; have H2 := Lib.hid (H1.out.kept0 hc2); have B2 := Lib.hid (HB.out.kept hc2 (by simp)); have C2 := Lib.hid (((Chg.refl b.set w).alloc (.cells #[ptrV b.p] 75)).trans0 hc2); have j1 := H2.out.cells.2.1; rw [HV.out] at j1; have z2 := B2.out.cell 0; simp at z2; clear hc2)
        | (go_at_call 177; with_reducible refine (HF.out _ H2.out).mono ?_; rintro e w3 ⟨rfl, hc3⟩; have H3 := Lib.hid (H2.out.kept0 hc3); have B3 := Lib.hid (B2.out.kept hc3 (by simp)); have C3 := Lib.hid (C2.out.trans0 hc3); have i1 := H3.out.cells.2.1; rw [HV.out] at i1; have z3 := B3.out.cell 0; simp at z3; clear hc3))
      have V3 : Hid (VSt w w3 b Q R (2 * Q.l.length) Q.l.length) := Lib.hid ⟨H3.out, rfl, C3.out, B3.out, HR.out⟩
      go_step3
      go_wp2_with fail
      clear H1 H2 B2 C2 B3 C3 H3 HB HF HN HH HR k1 j1 z2 i1 z3
      go_loopg [5, 30] (2 * Q.l.length) (fun k o i wr => ∃ (j : Nat) (Qj : Pool), k + j = 2 * Q.l.length ∧ i = .int .i64 j ∧ o = intV (-1) ∧ VSt w wr b Qj R k Q.l.length)
      case atStart => exact ⟨0, Q, by omega, rfl, rfl, V3.out⟩
      case round =>
        obtain ⟨j, Qj, hj, rfl, rfl, hvs⟩ := hrel
        have z1 := hvs.box.cell 0
        simp at z1
        by_cases hj2 : j = 2 * Q.l.length
        · obtain rfl : gk = 0 := by omega
          have hr := hvs.res
          have HVS := Lib.hid hvs
          have HRR := Lib.hid hr
          clear hvs hr
          go_wp2_with fail
          rw [Exit.noGoto_ret]
          go_ret
          rw [HRR.out]
          exact ⟨rfl, HVS.out.at_, HVS.out.chg⟩
        · obtain ⟨m, rfl⟩ : ∃ m, gk = m + 1 := ⟨gk - 1, by omega⟩
          have hjlt : (j : Int) < 2 * (Q.l.length : Int) := by omega
          have hln := hvs.len
          have hhl := hvs.at_.hand
          have hv2 := victim2 hvs.at_ w.heap.size z1 (g := g) (cap := cap) (by rw [HV.out, hln])
          have hcc : ∀ (w4 : World), PoolAt w4 b Qj.next → w4.cell? ⟨g, Qj.hand * 5 + 2, none⟩ = some (intV Qj.l[Qj.hand].held) ∧ w4.cell? ⟨g, Qj.hand * 5 + 4, none⟩ = some (.bool Qj.l[Qj.hand].used) ∧ w4.frozen? ⟨g, Qj.hand * 5 + 4, none⟩ = false := fun w4 h4 => by
            have ht := frame_cells2 h4 (g := g) (cap := cap) (by show b.lv = .slice _ Qj.l.length _; rw [HV.out, hln]) Qj.hand hhl
            exact ⟨ht.2.2.1, ht.2.2.2.2.1, ht.2.2.2.2.2.2.2⟩
          have hsf := fun (w4 : World) (h4 : PoolAt w4 b Qj.next) => h4.setF (g := g) (cap := cap) (by show b.lv = .slice _ Qj.l.length _; rw [HV.out, hln]) Qj.hand 4 hhl (by omega) (.bool false) { Qj.l[Qj.hand] with used := false } rfl
          have hres := hvs.res
          have hz2 := hvs.at_.cells.2.2
          unfold Pool.round at hres
          rw [Pool.getD_hand hhl] at hres
          have HV2 := Lib.hid hv2
          have HCC := Lib.hid hcc
          have HSF := Lib.hid hsf
          have HVS := Lib.hid hvs
          clear hv2 hcc hsf hvs
          have HPB : Hid (∀ k ∈ [b.p], k ∈ b.set) := Lib.hid (by simp [PoolB.set])
          have HGB := Lib.hid hgb
          have HLN := Lib.hid hln
          by_cases hh : 0 < Qj.l[Qj.hand].held
          · rw [if_pos hh] at hres
            have HRES := Lib.hid hres
            clear hres hgb HSF
            generalize Qj.l[Qj.hand].held = fh at *
            generalize Qj.l[Qj.hand].used = fu at *
            go_wp2_with (go_at_call 176; with_reducible refine HV2.out.mono ?_; rintro e w4 ⟨rfl, h4, hc4⟩; obtain ⟨d2, d4, e4⟩ := HCC.out _ h4; have H4 := Lib.hid h4; have C4 := Lib.hid (hc4.mono HPB.out); clear h4 hc4)
            go_roundg m
            case measure => omega
            case rel => exact ⟨j + 1, Qj.next, by omega, by first | rfl | go_num, rfl, HVS.out.go H4.out HLN.out C4.out HNB.out HRES.out⟩
          · rw [if_neg hh] at hres
            have hh2 : Qj.l[Qj.hand].held ≤ 0 := by omega
            by_cases hu : Qj.l[Qj.hand].used = true
            · rw [if_pos hu] at hres
              rw [hu] at HCC
              have HRES := Lib.hid hres
              clear hres hgb hh hu
              have HSF2 : Hid (∀ w4, PoolAt w4 b Qj.next → PoolAt (w4.setCell ⟨g, Qj.hand * 5 + 4, none⟩ (.bool false)) b { Qj.next with l := Qj.l.set Qj.hand { Qj.l[Qj.hand] with used := false } }) := Lib.hid HSF.out
              clear HSF
              have HL2 : Hid (({ Qj.next with l := Qj.l.set Qj.hand { Qj.l[Qj.hand] with used := false } } : Pool).l.length = Q.l.length) := Lib.hid (by simp [hln])
              generalize ({ Qj.next with l := Qj.l.set Qj.hand { Qj.l[Qj.hand] with used := false } } : Pool) = Q2 at *
              generalize Qj.l[Qj.hand].held = fh at *
              go_wp2_with (go_at_call 176; with_reducible refine HV2.out.mono ?_; rintro e w4 ⟨rfl, h4, hc4⟩; obtain ⟨d2, d4, e4⟩ := HCC.out _ h4; have H4 := Lib.hid h4; have C4 := Lib.hid (hc4.mono HPB.out); clear h4 hc4)
              go_roundg m
              case measure => omega
              case rel => exact ⟨j + 1, Q2, by omega, by first | rfl | go_num, rfl, HVS.out.go (HSF2.out _ H4.out) HL2.out (C4.out.setCell _ _ (.inl HGB.out)) HNB.out HRES.out⟩
            · rw [if_neg hu] at hres
              have hu2 : Qj.l[Qj.hand].used = false := by simpa using hu
              rw [hu2] at HCC
              have HRES := Lib.hid hres
              clear hres hgb hh hu hu2 HSF
              generalize Qj.l[Qj.hand].held = fh at *
              go_wp2_with (go_at_call 176; with_reducible refine HV2.out.mono ?_; rintro e w4 ⟨rfl, h4, hc4⟩; obtain ⟨d2, d4, e4⟩ := HCC.out _ h4; have H4 := Lib.hid h4; have C4 := Lib.hid (hc4.mono HPB.out); clear h4 hc4)
              rw [Exit.noGoto_ret]
              go_ret
              rw [HRES.out]
              exact ⟨rfl, H4.out, HVS.out.chg.trans1 C4.out⟩

end Go.Proofs.YtjbpdgknhbnfgaaGreat

namespace Go.Proofs.YtjbpdgknhbnfgaaGreat
open Go.RowKit
set_option maxRecDepth 100000

theorem pool_back_clean {w : World} {b : PoolB} {Q : Pool} (h : PoolAt w b Q) (i : Nat) (hi : i < Q.l.length) (hd : Q.l[i].dirty = false) :
    Calls Tryz.prog 123 #[ptrV b.p, intV i] w fun e w' => e = .returned (intV 0) ∧ w = w' := by
  obtain ⟨g, cap, hv, hgb, hcap1, hcap2⟩ := pool_lv h
  obtain ⟨-, -, -, c3, -⟩ := frame_cells2 h hv i hi
  obtain ⟨-, k1, -⟩ := h.cells
  rw [hv] at k1
  rw [hd] at c3
  have hfew := h.few
  have hil : (i : Int) < (Q.l.length : Int) := by omega
  clear h hv hgb hd
  generalize Q.l.length = n at *
  go_enter Tryz.func123, Tryz.ntmps123
  go_wp2_with fail
  go_ret
  exact ⟨rfl, rfl⟩

end Go.Proofs.YtjbpdgknhbnfgaaGreat

namespace Go.Proofs.YtjbpdgknhbnfgaaGreat
open Go.RowKit
set_option maxRecDepth 100000

theorem pool_hold_hit {w : World} {b : PoolB} {Q : Pool} (h : PoolAt w b Q) (l : Int) (i : Nat) (hf : Q.find l = i) (hi : i < Q.l.length) (h1 : 0 ≤ Q.l[i].held) (h2 : Q.l[i].held ≤ 1099511627776) :
    Calls Tryz.prog 52 #[ptrV b.p, intV l] w fun e w' => e = .returned (.tuple #[strV Q.l[i].payload, intV 0]) ∧
      PoolAt w' b { Q with l := Q.l.set i { Q.l[i] with held := Q.l[i].held + 1, used := true } } ∧ Chg b.set w w' := by
  obtain ⟨g, cap, hv, hgb, hcap1, hcap2⟩ := pool_lv h
  have hfd := pool_find h l
  rw [hf] at hfd
  have hkeep : ∀ w', Chg [] w w' → w'.cell? ⟨b.p, 1, none⟩ = some (.slice (some ⟨g, 0, none⟩) Q.l.length cap) ∧ w'.cell? ⟨g, i * 5 + 1, none⟩ = some (strV Q.l[i].payload) ∧ w'.cell? ⟨g, i * 5 + 2, none⟩ = some (intV Q.l[i].held) ∧ w'.cell? ⟨g, i * 5 + 4, none⟩ = some (.bool Q.l[i].used) ∧
      w'.frozen? ⟨g, i * 5 + 2, none⟩ = false ∧ w'.frozen? ⟨g, i * 5 + 4, none⟩ = false ∧
      PoolAt ((w'.setCell ⟨g, i * 5 + 2, none⟩ (intV (Q.l[i].held + 1))).setCell ⟨g, i * 5 + 4, none⟩ (.bool true)) b { Q with l := Q.l.set i { Q.l[i] with held := Q.l[i].held + 1, used := true } } := fun w' hc => by
    have h' := h.kept0 hc
    have ht := frame_cells2 h' hv i hi
    refine ⟨?_, ht.2.1, ht.2.2.1, ht.2.2.2.2.1, ht.2.2.2.2.2.1, ht.2.2.2.2.2.2.2, ?_⟩
    · rw [h'.cells.2.1, hv]
    · have h3 := h'.setF hv i 2 hi (by omega) (intV (Q.l[i].held + 1)) { Q.l[i] with held := Q.l[i].held + 1 } rfl
      have h4 := h3.setF (g := g) (cap := cap) (by rw [hv]; simp) i 4 (by simpa using hi) (by omega) (.bool true) { Q.l[i] with held := Q.l[i].held + 1, used := true } (by simp [Frame.cells])
      simpa using h4
  have HF := Lib.hid hfd
  have HK := Lib.hid hkeep
  have HG := Lib.hid hgb
  have hfew := h.few
  have hil : (i : Int) < (Q.l.length : Int) := by omega
  have HH := Lib.hid h
  clear hkeep hfd h hf hv hgb
  generalize ({ Q with l := Q.l.set i { Q.l[i] with held := Q.l[i].held + 1, used := true } } : Pool) = Q' at *
  generalize Q.l[i].held = x at *
  generalize Q.l[i].payload = pl at *
  generalize Q.l[i].used = us at *
  clear hi
  generalize Q.l.length = n at *
  go_enter Tryz.func52, Tryz.ntmps52
  go_wp2_with (go_at_call 127; with_reducible refine HF.out.mono ?_; rintro e w' ⟨rfl, hc⟩; obtain ⟨k1, k2, k3, k4, k5, k6, hp⟩ := HK.out _ hc; have HP := Lib.hid hp; clear hp)
  go_ret2
  exact ⟨rfl, HP.out, ((hc.mono (by simp)).setCell _ _ (.inl HG.out)).setCell _ _ (.inl HG.out)⟩

end Go.Proofs.YtjbpdgknhbnfgaaGreat

namespace Go.Proofs.YtjbpdgknhbnfgaaGreat
open Go.RowKit
set_option maxRecDepth 100000

theorem store_new {w : World} {b : StoreB} {S : Store} (h : StoreAt w b S) (hok : S.Ok) (pl : Bytes) (hlp : pl.length ≤ 60000) :
    Calls Tryz.prog 28 #[ptrV b.s, strV pl] w fun e w' => e = .returned (.tuple #[intV (S.new pl).1, intV (S.new pl).2.1]) ∧ StoreTo b w w' (S.new pl).2.2 := by
  cases hb : S.broken
  · rcases Nat.lt_or_ge S.hole S.table.length with hm | hm
    · exact store_new_hole h hok hb pl hm hlp
    · exact store_new_tail h hok hb pl (Nat.le_antisymm S.hole_le hm) hlp
  · refine (store_new_broken h hb pl).mono ?_
    rintro e w' ⟨rfl, rfl⟩
    unfold Store.new
    rw [if_pos hb]
    exact ⟨rfl, StoreTo.same h h (Chg.refl [] _) (by simp)⟩

theorem pool_make {w : World} {b : PoolB} {Q : Pool} (h : PoolAt w b Q) (hok : Q.s.Ok) (pl : Bytes) (hlp : pl.length ≤ 60000) :
    Calls Tryz.prog 53 #[ptrV b.p, strV pl] w fun e w' => e = .returned (.tuple #[intV (Q.s.new pl).1, intV (Q.s.new pl).2.1]) ∧
      ∃ sb, PoolAt w' { b with s := sb } { Q with s := (Q.s.new pl).2.2 } ∧ Grew b.set (PoolB.set { b with s := sb }) w w' := by
  obtain ⟨k0, -, -⟩ := h.cells
  have hn := store_new h.s hok pl hlp
  generalize Q.s.new pl = r at *
  obtain ⟨r1, r2, rS⟩ := r
  dsimp only at hn ⊢
  have HN := Lib.hid hn
  have HH := Lib.hid h
  clear hn h hok
  go_enter Tryz.func53, Tryz.ntmps53
  go_wp2_with (go_at_call 28; with_reducible refine HN.out.mono ?_; rintro e w' ⟨rfl, hs⟩)
  go_ret2
  exact ⟨rfl, HH.out.onS hs⟩

end Go.Proofs.YtjbpdgknhbnfgaaGreat

namespace Go.Proofs.YtjbpdgknhbnfgaaGreat
open Go.RowKit
set_option maxRecDepth 100000

def chainNeed (n : Nat) : Nat := max ((n + 227) / 228) 1

theorem chain_need (n : Nat) (w : World) (hn : n ≤ 1099511627776) :
    Calls Tryz.prog 132 #[intV n] w fun e w' => e = .returned (intV (chainNeed n)) ∧ w = w' := by
  unfold chainNeed
  by_cases h1 : (n + 227) / 228 < 1
  · rw [Nat.max_eq_right (by omega)]
    have h2 : ((n : Int) + 227) / 228 < 1 := by omega
    clear h1
    go_enter Tryz.func132, Tryz.ntmps132
    go_wp2_with fail
    go_ret
    exact ⟨rfl, rfl⟩
  · rw [Nat.max_eq_left (by omega)]
    have e : (((n + 227) / 228 : Nat) : Int) = ((n : Int) + 227) / 228 := by omega
    rw [e]
    have h2 : 1 ≤ ((n : Int) + 227) / 228 := by omega
    clear h1 e
    go_enter Tryz.func132, Tryz.ntmps132
    go_wp2_with fail
    go_ret
    have e2 : ((n : Int) + 228 - 1) / 228 = ((n : Int) + 227) / 228 := by omega
    exact ⟨by rw [← e2]; rfl, rfl⟩

theorem chain_need_neg (n : Int) (w : World) (hn : n < 0) :
    Calls Tryz.prog 132 #[intV n] w fun e w' => e = .returned (intV 1) ∧ w = w' := by
  go_enter Tryz.func132, Tryz.ntmps132
  go_wp2_with fail
  go_ret
  exact ⟨rfl, rfl⟩

end Go.Proofs.YtjbpdgknhbnfgaaGreat

namespace Go.Proofs.YtjbpdgknhbnfgaaGreat
open Go.RowKit
set_option maxRecDepth 100000

theorem framesCells_put : ∀ (L : List Frame) (i : Nat) (_ : i < L.length) (f' : Frame), framesCells (L.set i f') = lay (framesCells L) (i * 5) f'.cells
  | f :: L, 0, _, f' => by
    simp only [List.set_cons_zero, framesCells, List.flatMap_cons, lay, Nat.zero_mul, List.take_zero, List.nil_append, Nat.zero_add]
    rw [Frame.cells_len, List.drop_append_of_le_length (by rw [Frame.cells_len]; omega)]
    simp [Frame.cells]
  | f :: L, i + 1, h, f' => by
    have ih := framesCells_put L i (by simpa using h) f'
    simp only [List.set_cons_succ, framesCells, List.flatMap_cons] at ih ⊢
    rw [ih]
    unfold lay
    have e1 : (i + 1) * 5 = f.cells.length + i * 5 := by rw [Frame.cells_len]; omega
    rw [e1, List.take_length_add_append, Nat.add_assoc, List.drop_length_add_append, List.append_assoc]

theorem take_lay {α : Type} (cur cs : List α) (off m : Nat) (h : off + cs.length ≤ m) (hm : m ≤ cur.length) : (lay cur off cs).take m = lay (cur.take m) off cs := by
  have hA : (cur.take off).length = off := by rw [List.length_take]; omega
  have hA2 : (cur.take off).length ≤ m := by omega
  have hC : cs.length ≤ m - off := by omega
  unfold lay
  rw [List.take_take, Nat.min_eq_left (by omega : off ≤ m), List.drop_take, List.take_append, List.take_of_length_le hA2, hA, List.take_append, List.take_of_length_le hC, Nat.sub_sub]

theorem own_frame_put {w : World} {v : Value} {L : List Frame} (h : Own w 150 5 v L.length (framesCells L)) {g cap : Nat} (hv : v = .slice (some ⟨g, 0, none⟩) L.length cap) (i : Nat) (hi : i < L.length) (f' : Frame) :
    PtrRow w (.pointer (some ⟨g, i * 5, none⟩)) 5 ∧ Own (putRow w (.pointer (some ⟨g, i * 5, none⟩)) (frameV f')) 150 5 v (L.set i f').length (framesCells (L.set i f')) ∧ Chg [g] w (putRow w (.pointer (some ⟨g, i * 5, none⟩)) (frameV f')) := by
  rcases h.2 with ⟨a, hv', hn⟩ | ⟨g', cap', cur, hv', ⟨T, hB⟩, hn, h0, h1, h2, h3⟩
  · omega
  · rw [hv] at hv'
    simp at hv'
    obtain ⟨rfl, rfl⟩ := hv'
    have hp : putRow w (.pointer (some ⟨g, i * 5, none⟩)) (frameV f') = w.setRow g (lay cur (i * 5) f'.cells).toArray := putRow_blk (off := i * 5) hB f'.cells
    have hlay : (lay cur (i * 5) f'.cells).length = cur.length := lay_length' _ _ _ (by rw [Frame.cells_len]; omega)
    rw [hp]
    refine ⟨PtrRow.mk' hB (by omega), ⟨by rw [framesCells_length], .inr ⟨g, cap, lay cur (i * 5) f'.cells, ?_, ⟨_, hB.row _⟩, by simpa using hn, h0, h1, by rw [hlay]; exact h2, ?_⟩⟩, (Chg.refl _ _).setRow _ _ (.inl (by simp))⟩
    · rw [hv]; simp
    · rw [framesCells_put L i hi f', ← h3, List.length_set]
      exact take_lay _ _ _ _ (by rw [Frame.cells_len]; omega) (by omega)

theorem PoolAt.putF {w : World} {b : PoolB} {Q : Pool} (h : PoolAt w b Q) {g cap : Nat} (hv : b.lv = .slice (some ⟨g, 0, none⟩) Q.l.length cap) (i : Nat) (hi : i < Q.l.length) (f' : Frame) :
    PoolAt (putRow w (.pointer (some ⟨g, i * 5, none⟩)) (frameV f')) b { Q with l := Q.l.set i f' } ∧ Chg b.set w (putRow w (.pointer (some ⟨g, i * 5, none⟩)) (frameV f')) := by
  obtain ⟨-, ho, hc⟩ := own_frame_put h.l hv i hi f'
  obtain ⟨g', cap', hv', hob, -⟩ := frame_cell h.l i hi
  rw [hv] at hv'
  simp at hv'
  rw [← hv'.1] at hob
  refine ⟨⟨h.s.kept hc fun k hk hm => ?_, ho, h.st.kept hc fun hm => ?_, h.np, h.nl, by simpa using h.pos, by simpa using h.few, by simpa using h.hand⟩, hc.mono (by simp [PoolB.set, hob])⟩
  · simp at hm
    subst hm
    exact h.nl k (by rw [hob]; simp) hk
  · exact h.np.1 (by rw [hob]; exact hm)

end Go.Proofs.YtjbpdgknhbnfgaaGreat

namespace Go.Proofs.YtjbpdgknhbnfgaaGreat
open Go.RowKit
set_option maxRecDepth 100000

def Pool.Clean (Q : Pool) : Prop := ∀ f ∈ Q.l, f.dirty = false
theorem Pool.next_l (Q : Pool) : Q.next.l = Q.l ∧ Q.next.s = Q.s := ⟨rfl, rfl⟩

theorem Pool.round_keeps : ∀ (k : Nat) (Q : Pool), Q.hand < Q.l.length → Q.Clean →
    (Q.round k).2.s = Q.s ∧ (Q.round k).2.l.length = Q.l.length ∧ (Q.round k).2.Clean ∧ (Q.round k).1 < Q.l.length
  | 0, Q, h, hc => ⟨rfl, rfl, hc, by show (-1 : Int) < _; omega⟩
  | k + 1, Q, h, hc => by
    unfold Pool.round
    have hn : Q.next.hand < Q.next.l.length := Nat.mod_lt _ (by show 0 < Q.l.length; omega)
    split
    · exact Pool.round_keeps k Q.next hn hc
    · split
      · have ih := Pool.round_keeps k { Q.next with l := Q.l.set Q.hand { Q.l.getD Q.hand Frame.empty with used := false } } (by rw [List.length_set]; exact hn) (by
          intro f hf
          rcases List.mem_or_eq_of_mem_set hf with h1 | h1
          · exact hc f h1
          · subst h1
            rw [Pool.getD_hand h]
            exact hc Q.l[Q.hand] (List.getElem_mem h))
        rw [List.length_set] at ih
        exact ih
      · exact ⟨rfl, rfl, hc, by show (Q.hand : Int) < _; omega⟩

theorem Pool.victim_keeps (Q : Pool) (h : Q.hand < Q.l.length) (hc : Q.Clean) :
    Q.victim.2.s = Q.s ∧ Q.victim.2.l.length = Q.l.length ∧ Q.victim.2.Clean ∧ Q.victim.1 < Q.l.length := by
  unfold Pool.victim
  split
  · refine ⟨rfl, rfl, hc, ?_⟩
    show idxWhere _ _ < _
    unfold idxWhere
    split <;> omega
  · split
    · exact ⟨rfl, rfl, hc, by show (-1 : Int) < _; omega⟩
    · exact Pool.round_keeps _ Q h hc

end Go.Proofs.YtjbpdgknhbnfgaaGreat

namespace Go.Proofs.YtjbpdgknhbnfgaaGreat
open Go.RowKit
set_option maxRecDepth 100000

theorem store_frame {ρ : Operand → Value} {w : World} {x y : Operand} {dst type pos after guard} (h : PtrRow w (ρ x) 5) (hy : AggOf (ρ y) 5) :
    (execOp ρ { dst := dst, op := .store 150 x y, type := type, pos := pos, after := after, guard := guard }).run Tryz.prog w = .ok .skip (putRow w (ρ x) (ρ y)) :=
  exec_store_agg size_frame h hy
attribute [local go_sem ↓] store_frame

def Pool.holdMiss (Q : Pool) (l : Int) : Bytes × Int × Pool :=
  if (Q.s.read l).2 ≠ 0 then ([], (Q.s.read l).2, Q)
  else if Q.victim.1 < 0 then ([], 12, Q.victim.2)
  else ((Q.s.read l).1, 0, { Q.victim.2 with l := Q.victim.2.l.set Q.victim.1.toNat ⟨l, (Q.s.read l).1, 1, false, true⟩ })

set_option maxHeartbeats 1000000 in
theorem pool_hold_miss {w : World} {b : PoolB} {Q : Pool} (h : PoolAt w b Q) (hok : Q.s.Ok) (hcl : Q.Clean) (l : Int) (hf : Q.find l < 0) :
    Calls Tryz.prog 52 #[ptrV b.p, intV l] w fun e w' => e = .returned (.tuple #[strV (Q.holdMiss l).1, intV (Q.holdMiss l).2.1]) ∧ PoolAt w' b (Q.holdMiss l).2.2 ∧ Chg b.set w w' := by
  have hfd := pool_find h l
  have hrd := fun (wr : World) (hw : PoolAt wr b Q) => store_read hw.s hok l
  have hvc := fun (wr : World) (hw : PoolAt wr b Q) => pool_victim hw
  have hvk := Pool.victim_keeps Q h.hand hcl
  unfold Pool.holdMiss
  generalize Q.find l = fi at *
  generalize Q.s.read l = r at *
  obtain ⟨rb, re⟩ := r
  dsimp only at hrd ⊢
  have HF := Lib.hid hfd
  have HR := Lib.hid hrd
  have HH := Lib.hid h
  by_cases hre : re = 0
  · subst hre
    rw [if_neg (by simp)]
    have hlv := pool_lv h
    generalize Q.victim = vv at *
    obtain ⟨vi, V⟩ := vv
    dsimp only at hvc hvk ⊢
    have HVC := Lib.hid hvc
    by_cases hvi : vi < 0
    · rw [if_pos hvi]
      clear hfd hrd hvc hvk h hok hcl hlv
      go_enter Tryz.func52, Tryz.ntmps52
      go_wp2_with (first
      | (go_at_call 127; with_reducible refine HF.out.mono ?_; rintro e w1 ⟨rfl, hc1⟩; have H1 := Lib.hid (HH.out.kept0 hc1); have k0 := H1.out.cells.1; have C1 := Lib.hid (hc1.mono (G := b.set) (by simp)); clear hc1)
      | (go_at_call 29; with_reducible refine (HR.out _ H1.out).mono ?_; rintro e w2 ⟨rfl, hc2⟩; have H2 := Lib.hid (H1.out.kept0 hc2); have C2 := Lib.hid (C1.out.trans0 hc2); clear hc2)
      | (go_at_call 128; with_reducible refine (HVC.out _ H2.out).mono ?_; rintro e w3 ⟨rfl, h3, hc3⟩; have H3 := Lib.hid h3; have C3 := Lib.hid (C2.out.trans1 hc3); clear h3 hc3))
      go_ret2
      exact ⟨rfl, H3.out, C3.out⟩
    · rw [if_neg hvi]
      obtain ⟨i, rfl⟩ : ∃ i : Nat, vi = i := ⟨vi.toNat, by omega⟩
      rw [Int.toNat_natCast]
      obtain ⟨hvs, hvl, hvcl, hvlt⟩ := hvk
      have hiV : i < V.l.length := by omega
      obtain ⟨g, cap, hv, hgb, hcap1, hcap2⟩ := hlv
      rw [← hvl] at hv hcap1
      have hbk := fun (w3 : World) (h3 : PoolAt w3 b V) => pool_back_clean h3 i hiV (hvcl _ (List.getElem_mem hiV))
      have hput := fun (w3 : World) (h3 : PoolAt w3 b V) => h3.putF hv i hiV ⟨l, rb, 1, false, true⟩
      have hrow := fun (w3 : World) (h3 : PoolAt w3 b V) => (own_frame_put h3.l hv i hiV ⟨l, rb, 1, false, true⟩).1
      have hk1 := fun (w3 : World) (h3 : PoolAt w3 b V) => (show w3.cell? ⟨b.p, 1, none⟩ = some (.slice (some ⟨g, 0, none⟩) V.l.length cap) by rw [h3.cells.2.1, hv])
      have hag : AggOf (frameV ⟨l, rb, 1, false, true⟩) 5 := AggOf.mk' (us := (Frame.mk l rb 1 false true).cells) rfl (Frame.cells_one _)
      dsimp only [frameV] at hag hput
      have hfew : V.l.length ≤ 32 := by have := h.few; omega
      have HBK := Lib.hid hbk
      have HPUT := Lib.hid hput
      have HROW := Lib.hid hrow
      have HK1 := Lib.hid hk1
      have hil : (i : Int) < (V.l.length : Int) := by omega
      clear hfd hrd hvc h hok hcl hbk hput hrow hk1 hv hvi hvlt hvcl hvl hvs hgb
      generalize ({ V with l := V.l.set i ⟨l, rb, 1, false, true⟩ } : Pool) = V2 at *
      clear hiV
      generalize V.l.length = n at *
      go_enter Tryz.func52, Tryz.ntmps52
      go_wp2_with (first
      | (go_at_call 127; with_reducible refine HF.out.mono ?_; rintro e w1 ⟨rfl, hc1⟩; have H1 := Lib.hid (HH.out.kept0 hc1); have k0 := H1.out.cells.1; have C1 := Lib.hid (hc1.mono (G := b.set) (by simp)); clear hc1)
      | (go_at_call 29; with_reducible refine (HR.out _ H1.out).mono ?_; rintro e w2 ⟨rfl, hc2⟩; have H2 := Lib.hid (H1.out.kept0 hc2); have C2 := Lib.hid (C1.out.trans0 hc2); clear hc2)
      | (go_at_call 128; with_reducible refine (HVC.out _ H2.out).mono ?_; rintro e w3 ⟨rfl, h3, hc3⟩; have H3 := Lib.hid h3; have C3 := Lib.hid (C2.out.trans1 hc3); clear h3 hc3; have k1 := HK1.out _ H3.out; have hpr := HROW.out _ H3.out)
      | (go_at_call 123; with_reducible refine (HBK.out _ H3.out).mono ?_; rintro e w4 ⟨rfl, rfl⟩))
      go_ret2
      exact ⟨rfl, (HPUT.out _ H3.out).1, C3.out.trans1 (HPUT.out _ H3.out).2⟩
  · rw [if_pos hre]
    have hb : (re == 0) = false := by simpa using hre
    have hb2 : (re != 0) = true := by simpa using hre
    clear hfd hrd hvc hvk h hok hcl hre
    go_enter Tryz.func52, Tryz.ntmps52
    go_wp2_with (first
      | (go_at_call 127; with_reducible refine HF.out.mono ?_; rintro e w1 ⟨rfl, hc1⟩; have H1 := Lib.hid (HH.out.kept0 hc1); have k0 := H1.out.cells.1; have C1 := Lib.hid (hc1.mono (G := b.set) (by simp)); clear hc1)
      | (go_at_call 29; with_reducible refine (HR.out _ H1.out).mono ?_; rintro e w2 ⟨rfl, hc2⟩; have H2 := Lib.hid (H1.out.kept0 hc2); have C2 := Lib.hid (C1.out.trans0 hc2); clear hc2))
    go_ret2
    exact ⟨rfl, H2.out, C2.out⟩

end Go.Proofs.YtjbpdgknhbnfgaaGreat

namespace Go.Proofs.YtjbpdgknhbnfgaaGreat
open Go.RowKit
set_option maxRecDepth 100000

theorem get1 {w : World} (bs : Bytes) (g : Nat) {T : TypeId} {u : Value} (hb : Blk w g T [u]) :
    Calls Tryz.prog 122 #[strV bs, ptrV g] w fun e w' => e = .returned (intV 0) ∧ Blk w' g T [strV bs] ∧ Chg [g] w w' := by
  have c0 := hb.cell 0
  simp at c0
  have f0 := hb.free 0
  have HB := Lib.hid (hb.set 0 (strV bs))
  clear hb
  go_enter Tryz.func122, Tryz.ntmps122
  go_wp2_with fail
  go_ret
  exact ⟨rfl, HB.out, (Chg.refl _ _).setCell _ _ (.inl (by simp))⟩

end Go.Proofs.YtjbpdgknhbnfgaaGreat

namespace Go.Proofs.YtjbpdgknhbnfgaaGreat
open Go.RowKit
set_option maxRecDepth 100000

def Pool.hold (Q : Pool) (l : Int) : Bytes × Int × Pool :=
  if 0 ≤ Q.find l then
    ((Q.l.getD (Q.find l).toNat Frame.empty).payload, 0, { Q with l := Q.l.set (Q.find l).toNat { Q.l.getD (Q.find l).toNat Frame.empty with held := (Q.l.getD (Q.find l).toNat Frame.empty).held + 1, used := true } })
  else Q.holdMiss l

def Pool.Held (Q : Pool) : Prop := ∀ f ∈ Q.l, 0 ≤ f.held ∧ f.held ≤ 1099511627775

theorem pool_hold {w : World} {b : PoolB} {Q : Pool} (h : PoolAt w b Q) (hok : Q.s.Ok) (hcl : Q.Clean) (hh : Q.Held) (l : Int) :
    Calls Tryz.prog 52 #[ptrV b.p, intV l] w fun e w' => e = .returned (.tuple #[strV (Q.hold l).1, intV (Q.hold l).2.1]) ∧ PoolAt w' b (Q.hold l).2.2 ∧ Chg b.set w w' := by
  unfold Pool.hold
  by_cases hf : 0 ≤ Q.find l
  · rw [if_pos hf]
    obtain ⟨i, he, hi, -⟩ := Pool.find_pos hf
    have hg : Q.l.getD i Frame.empty = Q.l[i] := by simp [List.getD, hi]
    rw [he, Int.toNat_natCast, hg]
    have hb := hh Q.l[i] (List.getElem_mem hi)
    exact pool_hold_hit h l i he hi hb.1 (by omega)
  · rw [if_neg hf]
    exact pool_hold_miss h hok hcl l (by omega)

end Go.Proofs.YtjbpdgknhbnfgaaGreat

namespace Go.Proofs.YtjbpdgknhbnfgaaGreat

theorem findIdx_of_map (pr : Frame → Bool) : ∀ (L M : List Frame), L.map pr = M.map pr → L.findIdx pr = M.findIdx pr
  | [], [], _ => rfl
  | [], _ :: _, h => by simp at h
  | _ :: _, [], h => by simp at h
  | f :: L, g :: M, h => by
    simp only [List.map_cons, List.cons.injEq] at h
    have ih := findIdx_of_map pr L M h.2
    simp only [List.findIdx_cons, h.1, ih]
theorem idxWhere_of_map {L M : List Frame} {pr : Frame → Bool} (h : L.map pr = M.map pr) : idxWhere L pr = idxWhere M pr := by
  have hl : L.length = M.length := by simpa using congrArg List.length h
  unfold idxWhere
  rw [findIdx_of_map pr L M h, hl]

theorem Pool.find_of_map {Q R : Pool} (h : Q.l.map Frame.page = R.l.map Frame.page) (l : Int) : Q.find l = R.find l := by
  unfold Pool.find
  split
  · rfl
  · apply idxWhere_of_map
    have := congrArg (List.map (fun p => p == l)) h
    rw [List.map_map, List.map_map] at this
    exact this

theorem pages_set (L : List Frame) (i : Nat) (hi : i < L.length) (f' : Frame) (hf : f'.page = L[i].page) : (L.set i f').map Frame.page = L.map Frame.page := by
  rw [List.map_set, hf]
  apply List.ext_getElem
  · simp
  · intro j h1 h2
    rw [List.getElem_set]
    split
    · rename_i e
      subst e
      simp
    · rfl

end Go.Proofs.YtjbpdgknhbnfgaaGreat
