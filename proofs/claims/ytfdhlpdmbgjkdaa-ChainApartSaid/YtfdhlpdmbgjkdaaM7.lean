/- A part of the walks of the program's functions, each a contract that its caller uses; no condition but what each theorem names. The walk of victim. The walk of back. The walk of Hold where a frame has the page. The walk of the pool's New. The walks of chain.Need and chain.two. A whole frame is stored. The walk of Hold where no frame has the page and no frame is dirty. The walk of Hold where no frame has the page and no frame is dirty. Hold as a whole, as plain Lean; the closure of Get. Hold as a whole. Where a page is found, as plain Lean. What a Hold that went well leaves, as plain Lean. Plain Lean: numbers as bytes and back; a page's bytes and back; areas of a disk that works. -/
import Derived.Test.YtfdhlpdmbgjkdaaM6
import Derived.WalkMore
import Derived.Scope

namespace Go.Proofs.Ytfdhlpdmbgjkdaa
open Go.RowKit
set_option maxRecDepth 100000

def Pool.round : Nat → Pool → Int × Pool
  | 0, Q => (-1, Q)
  | k + 1, Q =>
    if 0 < (Q.l.getD Q.hand Frame.empty).held then Q.next.round k
    else if (Q.l.getD Q.hand Frame.empty).used then Pool.round k { Q.next with l := Q.l.set Q.hand { Q.l.getD Q.hand Frame.empty with used := false } }
    else (Q.hand, Q.next)
def Pool.victim (Q : Pool) : Int × Pool :=
  if 0 ≤ idxWhere Q.l (fun f => decide (f.page < 0)) then (idxWhere Q.l (fun f => decide (f.page < 0)), Q)
  else if idxWhere Q.l (fun f => f.held == 0) < 0 then (-1, Q)
  else Q.round (2 * Q.l.length)

theorem Pool.getD_hand {Q : Pool} (h : Q.hand < Q.l.length) : Q.l.getD Q.hand Frame.empty = Q.l[Q.hand] := by simp [List.getD, h]

theorem pool_lv {w : World} {b : PoolB} {Q : Pool} (h : PoolAt w b Q) : ∃ g cap, b.lv = .slice (some ⟨g, 0, none⟩) Q.l.length cap ∧ g ∈ b.set ∧ Q.l.length ≤ cap ∧ cap ≤ maxLen := by
  obtain ⟨g, cap, hv, hob, h1, h2, -⟩ := frame_cell h.l 0 h.pos
  exact ⟨g, cap, hv, by simp [PoolB.set, hob], h1, h2⟩

theorem frame_cells2 {w : World} {b : PoolB} {Q : Pool} (h : PoolAt w b Q) {g cap : Nat} (hv : b.lv = .slice (some ⟨g, 0, none⟩) Q.l.length cap) (i : Nat) (hi : i < Q.l.length) :
    w.cell? ⟨g, i * 5, none⟩ = some (intV Q.l[i].page) ∧ w.cell? ⟨g, i * 5 + 1, none⟩ = some (strV Q.l[i].payload) ∧ w.cell? ⟨g, i * 5 + 2, none⟩ = some (intV Q.l[i].held) ∧ w.cell? ⟨g, i * 5 + 3, none⟩ = some (.bool Q.l[i].dirty) ∧ w.cell? ⟨g, i * 5 + 4, none⟩ = some (.bool Q.l[i].used) ∧
    w.frozen? ⟨g, i * 5 + 2, none⟩ = false ∧ w.frozen? ⟨g, i * 5 + 3, none⟩ = false ∧ w.frozen? ⟨g, i * 5 + 4, none⟩ = false := by
  obtain ⟨g', cap', hv', -, -, -, hc⟩ := frame_cell h.l i hi
  rw [hv] at hv'
  simp at hv'
  obtain ⟨rfl, rfl⟩ := hv'
  exact ⟨(hc 0 (by omega)).1, (hc 1 (by omega)).1, (hc 2 (by omega)).1, (hc 3 (by omega)).1, (hc 4 (by omega)).1, (hc 2 (by omega)).2, (hc 3 (by omega)).2, (hc 4 (by omega)).2⟩

structure VSt (w wr : World) (b : PoolB) (Qj : Pool) (R : Int × Pool) (k n : Nat) : Prop where
  at_ : PoolAt wr b Qj
  len : Qj.l.length = n
  chg : Chg b.set w wr
  box : Blk wr w.heap.size 22 [ptrV b.p]
  res : R = Qj.round k

theorem VSt.go {w wr w4 : World} {b : PoolB} {Qj Q' : Pool} {R : Int × Pool} {k m n : Nat} (h : VSt w wr b Qj R k n) (h4 : PoolAt w4 b Q') (hl : Q'.l.length = n) (hc : Chg b.set wr w4) (hnb : w.heap.size ∉ b.set)
    (hr : R = Q'.round m) : VSt w w4 b Q' R m n := ⟨h4, hl, h.chg.trans1 hc, h.box.kept hc hnb, hr⟩

set_option maxHeartbeats 2000000 in
theorem pool_victim {w : World} {b : PoolB} {Q : Pool} (h : PoolAt w b Q) :
    Calls Try.prog 77 #[ptrV b.p] w fun e w' => e = .returned (intV Q.victim.1) ∧ PoolAt w' b Q.victim.2 ∧ Chg b.set w w' := by
  have hnone := fun (wr : World) (hw : PoolAt wr b Q) => pool_none hw
  have hfree := fun (wr : World) (hw : PoolAt wr b Q) => pool_free hw
  have hk := fun (wr : World) (hw : PoolAt wr b Q) => hw.cells
  obtain ⟨g, cap, hv, hgb, hcap1, hcap2⟩ := pool_lv h
  have hfew := h.few
  have hpos := h.pos
  have HN := Lib.hid hnone
  have HF := Lib.hid hfree
  have HH := Lib.hid h
  have hB : Blk (w.alloc (.cells #[ptrV b.p] 22)) w.heap.size 22 [ptrV b.p] := Blk.new w _ _
  have H1 := Lib.hid (h.kept0 ((Chg.refl [] w).alloc (.cells #[ptrV b.p] 22)))
  have HB := Lib.hid hB
  have hmf : ∀ (fn : Fn) (first cap : Array Value) (w : World), (Instr.makeFunc fn first cap).run Try.prog w = .ok (.func fn first cap) w := fun _ _ _ _ => rfl
  have k1 := H1.out.cells.2.1
  have HNB : Hid (w.heap.size ∉ b.set) := Lib.hid (fun hm => by have := h.lt _ hm; omega)
  have HV := Lib.hid hv
  rw [hv] at k1 HN HF
  clear hv
  unfold Pool.victim
  clear hnone hfree hk h hB
  by_cases h0 : 0 ≤ idxWhere Q.l (fun f => decide (f.page < 0))
  · rw [if_pos h0]
    generalize idxWhere Q.l (fun f => decide (f.page < 0)) = x at *
    go_enter Try.func77, Try.ntmps77
    go_wp2_with fail
    refine wp_scope_straight ?_
    go_wp2_with (go_at_call 52; with_reducible refine (HN.out _ H1.out).mono ?_; rintro e w2 ⟨rfl, hc2⟩)
    rw [Exit.noGoto_ret]
    go_ret
    exact ⟨rfl, H1.out.kept0 hc2, (((Chg.refl b.set w).alloc _).trans0 hc2)⟩
  · rw [if_neg h0]
    have h0' : idxWhere Q.l (fun f => decide (f.page < 0)) < 0 := by omega
    clear h0
    by_cases h1 : idxWhere Q.l (fun f => f.held == 0) < 0
    · rw [if_pos h1]
      have hd : decide (0 ≤ idxWhere Q.l (fun f => f.held == 0)) = false := by simp; omega
      rw [hd] at HF
      clear hd h1
      generalize idxWhere Q.l (fun f => decide (f.page < 0)) = x at *
      go_enter Try.func77, Try.ntmps77
      go_wp2_with fail
      refine wp_scope_straight ?_
      go_wp2_with (first
        | (go_at_call 52; with_reducible refine (HN.out _ H1.out).mono ?_; rintro e w2 ⟨rfl, hc2⟩; have H2 := Lib.hid (H1.out.kept0 hc2); have B2 := Lib.hid (HB.out.kept hc2 (by simp)); have j1 := H2.out.cells.2.1; rw [HV.out] at j1; have z2 := B2.out.cell 0; simp at z2)
        | (go_at_call 87; with_reducible refine (HF.out _ H2.out).mono ?_; rintro e w3 ⟨rfl, hc3⟩))
      rw [Exit.noGoto_ret]
      go_ret
      exact ⟨rfl, H2.out.kept0 hc3, ((((Chg.refl b.set w).alloc _).trans0 hc2).trans0 hc3)⟩
    · rw [if_neg h1]
      have hd : decide (0 ≤ idxWhere Q.l (fun f => f.held == 0)) = true := by simp; omega
      rw [hd] at HF
      clear hd h1
      generalize idxWhere Q.l (fun f => decide (f.page < 0)) = x at *
      obtain ⟨R, hR⟩ : ∃ R, R = Q.round (2 * Q.l.length) := ⟨_, rfl⟩
      rw [← hR]
      have HR := Lib.hid hR
      clear hR
      go_enter Try.func77, Try.ntmps77
      go_wp2_with fail
      refine wp_scope_straight ?_
      go_wp2_with (first
        | (go_at_call 52; with_reducible refine (HN.out _ H1.out).mono ?_; rintro e w2 ⟨rfl, hc2⟩; have H2 := Lib.hid (H1.out.kept0 hc2); have B2 := Lib.hid (HB.out.kept hc2 (by simp)); have C2 := Lib.hid (((Chg.refl b.set w).alloc (.cells #[ptrV b.p] 22)).trans0 hc2); have j1 := H2.out.cells.2.1; rw [HV.out] at j1; have z2 := B2.out.cell 0; simp at z2; clear hc2)
        | (go_at_call 87; with_reducible refine (HF.out _ H2.out).mono ?_; rintro e w3 ⟨rfl, hc3⟩; have H3 := Lib.hid (H2.out.kept0 hc3); have B3 := Lib.hid (B2.out.kept hc3 (by simp)); have C3 := Lib.hid (C2.out.trans0 hc3); have i1 := H3.out.cells.2.1; rw [HV.out] at i1; have z3 := B3.out.cell 0; simp at z3; clear hc3))
      have V3 : Hid (VSt w w3 b Q R (2 * Q.l.length) Q.l.length) := Lib.hid ⟨H3.out, rfl, C3.out, B3.out, HR.out⟩
      go_step3
      go_wp2_with fail
      clear H1 H2 B2 C2 B3 C3 H3 HB HF HN HH HR k1 j1 z2 i1 z3
      go_loopg [5, 30] (2 * Q.l.length) (fun k o i wr => ∃ (j : Nat) (Qj : Pool), k + j = 2 * Q.l.length ∧ i = .int .i64 j ∧ o = intV (-1) ∧ VSt w wr b Qj R k Q.l.length)
      case atStart => exact ⟨0, Q, by omega, rfl, rfl, V3.out⟩
      case round =>
        obtain ⟨j, Qj, hj, rfl, rfl, hvs⟩ := hrel
        have z1 := hvs.box.cell 0
        simp at z1
        by_cases hj2 : j = 2 * Q.l.length
        · obtain rfl : gk = 0 := by omega
          have hr := hvs.res
          have HVS := Lib.hid hvs
          have HRR := Lib.hid hr
          clear hvs hr
          go_wp2_with fail
          rw [Exit.noGoto_ret]
          go_ret
          rw [HRR.out]
          exact ⟨rfl, HVS.out.at_, HVS.out.chg⟩
        · obtain ⟨m, rfl⟩ : ∃ m, gk = m + 1 := ⟨gk - 1, by omega⟩
          have hjlt : (j : Int) < 2 * (Q.l.length : Int) := by omega
          have hln := hvs.len
          have hhl := hvs.at_.hand
          have hv2 := victim2 hvs.at_ w.heap.size z1 (g := g) (cap := cap) (by rw [HV.out, hln])
          have hcc : ∀ (w4 : World), PoolAt w4 b Qj.next → w4.cell? ⟨g, Qj.hand * 5 + 2, none⟩ = some (intV Qj.l[Qj.hand].held) ∧ w4.cell? ⟨g, Qj.hand * 5 + 4, none⟩ = some (.bool Qj.l[Qj.hand].used) ∧ w4.frozen? ⟨g, Qj.hand * 5 + 4, none⟩ = false := fun w4 h4 => by
            have ht := frame_cells2 h4 (g := g) (cap := cap) (by show b.lv = .slice _ Qj.l.length _; rw [HV.out, hln]) Qj.hand hhl
            exact ⟨ht.2.2.1, ht.2.2.2.2.1, ht.2.2.2.2.2.2.2⟩
          have hsf := fun (w4 : World) (h4 : PoolAt w4 b Qj.next) => h4.setF (g := g) (cap := cap) (by show b.lv = .slice _ Qj.l.length _; rw [HV.out, hln]) Qj.hand 4 hhl (by omega) (.bool false) { Qj.l[Qj.hand] with used := false } rfl
          have hres := hvs.res
          have hz2 := hvs.at_.cells.2.2
          unfold Pool.round at hres
          rw [Pool.getD_hand hhl] at hres
          have HV2 := Lib.hid hv2
          have HCC := Lib.hid hcc
          have HSF := Lib.hid hsf
          have HVS := Lib.hid hvs
          clear hv2 hcc hsf hvs
          have HPB : Hid (∀ k ∈ [b.p], k ∈ b.set) := Lib.hid (by simp [PoolB.set])
          have HGB := Lib.hid hgb
          have HLN := Lib.hid hln
          by_cases hh : 0 < Qj.l[Qj.hand].held
          · rw [if_pos hh] at hres
            have HRES := Lib.hid hres
            clear hres hgb HSF
            generalize Qj.l[Qj.hand].held = fh at *
            generalize Qj.l[Qj.hand].used = fu at *
            go_wp2_with (go_at_call 86; with_reducible refine HV2.out.mono ?_; rintro e w4 ⟨rfl, h4, hc4⟩; obtain ⟨d2, d4, e4⟩ := HCC.out _ h4; have H4 := Lib.hid h4; have C4 := Lib.hid (hc4.mono HPB.out); clear h4 hc4)
            go_roundg m
            case measure => omega
            case rel => exact ⟨j + 1, Qj.next, by omega, by first | rfl | go_num, rfl, HVS.out.go H4.out HLN.out C4.out HNB.out HRES.out⟩
          · rw [if_neg hh] at hres
            have hh2 : Qj.l[Qj.hand].held ≤ 0 := by omega
            by_cases hu : Qj.l[Qj.hand].used = true
            · rw [if_pos hu] at hres
              rw [hu] at HCC
              have HRES := Lib.hid hres
              clear hres hgb hh hu
              have HSF2 : Hid (∀ w4, PoolAt w4 b Qj.next → PoolAt (w4.setCell ⟨g, Qj.hand * 5 + 4, none⟩ (.bool false)) b { Qj.next with l := Qj.l.set Qj.hand { Qj.l[Qj.hand] with used := false } }) := Lib.hid HSF.out
              clear HSF
              have HL2 : Hid (({ Qj.next with l := Qj.l.set Qj.hand { Qj.l[Qj.hand] with used := false } } : Pool).l.length = Q.l.length) := Lib.hid (by simp [hln])
              generalize ({ Qj.next with l := Qj.l.set Qj.hand { Qj.l[Qj.hand] with used := false } } : Pool) = Q2 at *
              generalize Qj.l[Qj.hand].held = fh at *
              go_wp2_with (go_at_call 86; with_reducible refine HV2.out.mono ?_; rintro e w4 ⟨rfl, h4, hc4⟩; obtain ⟨d2, d4, e4⟩ := HCC.out _ h4; have H4 := Lib.hid h4; have C4 := Lib.hid (hc4.mono HPB.out); clear h4 hc4)
              go_roundg m
              case measure => omega
              case rel => exact ⟨j + 1, Q2, by omega, by first | rfl | go_num, rfl, HVS.out.go (HSF2.out _ H4.out) HL2.out (C4.out.setCell _ _ (.inl HGB.out)) HNB.out HRES.out⟩
            · rw [if_neg hu] at hres
              have hu2 : Qj.l[Qj.hand].used = false := by simpa using hu
              rw [hu2] at HCC
              have HRES := Lib.hid hres
              clear hres hgb hh hu hu2 HSF
              generalize Qj.l[Qj.hand].held = fh at *
              go_wp2_with (go_at_call 86; with_reducible refine HV2.out.mono ?_; rintro e w4 ⟨rfl, h4, hc4⟩; obtain ⟨d2, d4, e4⟩ := HCC.out _ h4; have H4 := Lib.hid h4; have C4 := Lib.hid (hc4.mono HPB.out); clear h4 hc4)
              rw [Exit.noGoto_ret]
              go_ret
              rw [HRES.out]
              exact ⟨rfl, H4.out, HVS.out.chg.trans1 C4.out⟩

end Go.Proofs.Ytfdhlpdmbgjkdaa

namespace Go.Proofs.Ytfdhlpdmbgjkdaa
open Go.RowKit
set_option maxRecDepth 100000

theorem pool_back_clean {w : World} {b : PoolB} {Q : Pool} (h : PoolAt w b Q) (i : Nat) (hi : i < Q.l.length) (hd : Q.l[i].dirty = false) :
    Calls Try.prog 78 #[ptrV b.p, intV i] w fun e w' => e = .returned (intV 0) ∧ w = w' := by
  obtain ⟨g, cap, hv, hgb, hcap1, hcap2⟩ := pool_lv h
  obtain ⟨-, -, -, c3, -⟩ := frame_cells2 h hv i hi
  obtain ⟨-, k1, -⟩ := h.cells
  rw [hv] at k1
  rw [hd] at c3
  have hfew := h.few
  have hil : (i : Int) < (Q.l.length : Int) := by omega
  clear h hv hgb hd
  generalize Q.l.length = n at *
  go_enter Try.func78, Try.ntmps78
  go_wp2_with fail
  go_ret
  exact ⟨rfl, rfl⟩

end Go.Proofs.Ytfdhlpdmbgjkdaa

namespace Go.Proofs.Ytfdhlpdmbgjkdaa
open Go.RowKit
set_option maxRecDepth 100000

theorem pool_hold_hit {w : World} {b : PoolB} {Q : Pool} (h : PoolAt w b Q) (l : Int) (i : Nat) (hf : Q.find l = i) (hi : i < Q.l.length) (h1 : 0 ≤ Q.l[i].held) (h2 : Q.l[i].held ≤ 1099511627776) :
    Calls Try.prog 71 #[ptrV b.p, intV l] w fun e w' => e = .returned (.tuple #[strV Q.l[i].payload, intV 0]) ∧
      PoolAt w' b { Q with l := Q.l.set i { Q.l[i] with held := Q.l[i].held + 1, used := true } } ∧ Chg b.set w w' := by
  obtain ⟨g, cap, hv, hgb, hcap1, hcap2⟩ := pool_lv h
  have hfd := pool_find h l
  rw [hf] at hfd
  have hkeep : ∀ w', Chg [] w w' → w'.cell? ⟨b.p, 1, none⟩ = some (.slice (some ⟨g, 0, none⟩) Q.l.length cap) ∧ w'.cell? ⟨g, i * 5 + 1, none⟩ = some (strV Q.l[i].payload) ∧ w'.cell? ⟨g, i * 5 + 2, none⟩ = some (intV Q.l[i].held) ∧ w'.cell? ⟨g, i * 5 + 4, none⟩ = some (.bool Q.l[i].used) ∧
      w'.frozen? ⟨g, i * 5 + 2, none⟩ = false ∧ w'.frozen? ⟨g, i * 5 + 4, none⟩ = false ∧
      PoolAt ((w'.setCell ⟨g, i * 5 + 2, none⟩ (intV (Q.l[i].held + 1))).setCell ⟨g, i * 5 + 4, none⟩ (.bool true)) b { Q with l := Q.l.set i { Q.l[i] with held := Q.l[i].held + 1, used := true } } := fun w' hc => by
    have h' := h.kept0 hc
    have ht := frame_cells2 h' hv i hi
    refine ⟨?_, ht.2.1, ht.2.2.1, ht.2.2.2.2.1, ht.2.2.2.2.2.1, ht.2.2.2.2.2.2.2, ?_⟩
    · rw [h'.cells.2.1, hv]
    · have h3 := h'.setF hv i 2 hi (by omega) (intV (Q.l[i].held + 1)) { Q.l[i] with held := Q.l[i].held + 1 } rfl
      have h4 := h3.setF (g := g) (cap := cap) (by rw [hv]; simp) i 4 (by simpa using hi) (by omega) (.bool true) { Q.l[i] with held := Q.l[i].held + 1, used := true } (by simp [Frame.cells])
      simpa using h4
  have HF := Lib.hid hfd
  have HK := Lib.hid hkeep
  have HG := Lib.hid hgb
  have hfew := h.few
  have hil : (i : Int) < (Q.l.length : Int) := by omega
  have HH := Lib.hid h
  clear hkeep hfd h hf hv hgb
  generalize ({ Q with l := Q.l.set i { Q.l[i] with held := Q.l[i].held + 1, used := true } } : Pool) = Q' at *
  generalize Q.l[i].held = x at *
  generalize Q.l[i].payload = pl at *
  generalize Q.l[i].used = us at *
  clear hi
  generalize Q.l.length = n at *
  go_enter Try.func71, Try.ntmps71
  go_wp2_with (go_at_call 36; with_reducible refine HF.out.mono ?_; rintro e w' ⟨rfl, hc⟩; obtain ⟨k1, k2, k3, k4, k5, k6, hp⟩ := HK.out _ hc; have HP := Lib.hid hp; clear hp)
  go_ret2
  exact ⟨rfl, HP.out, ((hc.mono (by simp)).setCell _ _ (.inl HG.out)).setCell _ _ (.inl HG.out)⟩

end Go.Proofs.Ytfdhlpdmbgjkdaa

namespace Go.Proofs.Ytfdhlpdmbgjkdaa
open Go.RowKit
set_option maxRecDepth 100000

theorem store_new {w : World} {b : StoreB} {S : Store} (h : StoreAt w b S) (hok : S.Ok) (pl : Bytes) (hlp : pl.length ≤ 60000) :
    Calls Try.prog 35 #[ptrV b.s, strV pl] w fun e w' => e = .returned (.tuple #[intV (S.new pl).1, intV (S.new pl).2.1]) ∧ StoreTo b w w' (S.new pl).2.2 := by
  cases hb : S.broken
  · rcases Nat.lt_or_ge S.hole S.table.length with hm | hm
    · exact store_new_hole h hok hb pl hm hlp
    · exact store_new_tail h hok hb pl (Nat.le_antisymm S.hole_le hm) hlp
  · refine (store_new_broken h hb pl).mono ?_
    rintro e w' ⟨rfl, rfl⟩
    unfold Store.new
    rw [if_pos hb]
    exact ⟨rfl, StoreTo.same h h (Chg.refl [] _) (by simp)⟩

theorem pool_make {w : World} {b : PoolB} {Q : Pool} (h : PoolAt w b Q) (hok : Q.s.Ok) (pl : Bytes) (hlp : pl.length ≤ 60000) :
    Calls Try.prog 24 #[ptrV b.p, strV pl] w fun e w' => e = .returned (.tuple #[intV (Q.s.new pl).1, intV (Q.s.new pl).2.1]) ∧
      ∃ sb, PoolAt w' { b with s := sb } { Q with s := (Q.s.new pl).2.2 } ∧ Grew b.set (PoolB.set { b with s := sb }) w w' := by
  obtain ⟨k0, -, -⟩ := h.cells
  have hn := store_new h.s hok pl hlp
  generalize Q.s.new pl = r at *
  obtain ⟨r1, r2, rS⟩ := r
  dsimp only at hn ⊢
  have HN := Lib.hid hn
  have HH := Lib.hid h
  clear hn h hok
  go_enter Try.func24, Try.ntmps24
  go_wp2_with (go_at_call 35; with_reducible refine HN.out.mono ?_; rintro e w' ⟨rfl, hs⟩)
  go_ret2
  exact ⟨rfl, HH.out.onS hs⟩

end Go.Proofs.Ytfdhlpdmbgjkdaa

namespace Go.Proofs.Ytfdhlpdmbgjkdaa
open Go.RowKit
set_option maxRecDepth 100000

def chainNeed (n : Nat) : Nat := max ((n + 227) / 228) 1

theorem chain_need (n : Nat) (w : World) (hn : n ≤ 1099511627776) :
    Calls Try.prog 13 #[intV n] w fun e w' => e = .returned (intV (chainNeed n)) ∧ w = w' := by
  unfold chainNeed
  by_cases h1 : (n + 227) / 228 < 1
  · rw [Nat.max_eq_right (by omega)]
    have h2 : ((n : Int) + 227) / 228 < 1 := by omega
    clear h1
    go_enter Try.func13, Try.ntmps13
    go_wp2_with fail
    go_ret
    exact ⟨rfl, rfl⟩
  · rw [Nat.max_eq_left (by omega)]
    have e : (((n + 227) / 228 : Nat) : Int) = ((n : Int) + 227) / 228 := by omega
    rw [e]
    have h2 : 1 ≤ ((n : Int) + 227) / 228 := by omega
    clear h1 e
    go_enter Try.func13, Try.ntmps13
    go_wp2_with fail
    go_ret
    have e2 : ((n : Int) + 228 - 1) / 228 = ((n : Int) + 227) / 228 := by omega
    exact ⟨by rw [← e2]; rfl, rfl⟩

theorem chain_need_neg (n : Int) (w : World) (hn : n < 0) :
    Calls Try.prog 13 #[intV n] w fun e w' => e = .returned (intV 1) ∧ w = w' := by
  go_enter Try.func13, Try.ntmps13
  go_wp2_with fail
  go_ret
  exact ⟨rfl, rfl⟩

end Go.Proofs.Ytfdhlpdmbgjkdaa

namespace Go.Proofs.Ytfdhlpdmbgjkdaa
open Go.RowKit
set_option maxRecDepth 100000

theorem framesCells_put : ∀ (L : List Frame) (i : Nat) (_ : i < L.length) (f' : Frame), framesCells (L.set i f') = lay (framesCells L) (i * 5) f'.cells
  | f :: L, 0, _, f' => by
    simp only [List.set_cons_zero, framesCells, List.flatMap_cons, lay, Nat.zero_mul, List.take_zero, List.nil_append, Nat.zero_add]
    rw [Frame.cells_len, List.drop_append_of_le_length (by rw [Frame.cells_len]; omega)]
    simp [Frame.cells]
  | f :: L, i + 1, h, f' => by
    have ih := framesCells_put L i (by simpa using h) f'
    simp only [List.set_cons_succ, framesCells, List.flatMap_cons] at ih ⊢
    rw [ih]
    unfold lay
    have e1 : (i + 1) * 5 = f.cells.length + i * 5 := by rw [Frame.cells_len]; omega
    rw [e1, List.take_length_add_append, Nat.add_assoc, List.drop_length_add_append, List.append_assoc]

theorem take_lay {α : Type} (cur cs : List α) (off m : Nat) (h : off + cs.length ≤ m) (hm : m ≤ cur.length) : (lay cur off cs).take m = lay (cur.take m) off cs := by
  have hA : (cur.take off).length = off := by rw [List.length_take]; omega
  have hA2 : (cur.take off).length ≤ m := by omega
  have hC : cs.length ≤ m - off := by omega
  unfold lay
  rw [List.take_take, Nat.min_eq_left (by omega : off ≤ m), List.drop_take, List.take_append, List.take_of_length_le hA2, hA, List.take_append, List.take_of_length_le hC, Nat.sub_sub]

theorem own_frame_put {w : World} {v : Value} {L : List Frame} (h : Own w 86 5 v L.length (framesCells L)) {g cap : Nat} (hv : v = .slice (some ⟨g, 0, none⟩) L.length cap) (i : Nat) (hi : i < L.length) (f' : Frame) :
    PtrRow w (.pointer (some ⟨g, i * 5, none⟩)) 5 ∧ Own (putRow w (.pointer (some ⟨g, i * 5, none⟩)) (frameV f')) 86 5 v (L.set i f').length (framesCells (L.set i f')) ∧ Chg [g] w (putRow w (.pointer (some ⟨g, i * 5, none⟩)) (frameV f')) := by
  rcases h.2 with ⟨a, hv', hn⟩ | ⟨g', cap', cur, hv', hB, hn, h0, h1, h2, h3⟩
  · omega
  · rw [hv] at hv'
    simp at hv'
    obtain ⟨rfl, rfl⟩ := hv'
    have hp : putRow w (.pointer (some ⟨g, i * 5, none⟩)) (frameV f') = w.setRow g (lay cur (i * 5) f'.cells).toArray := putRow_blk (off := i * 5) hB f'.cells
    have hlay : (lay cur (i * 5) f'.cells).length = cur.length := lay_length' _ _ _ (by rw [Frame.cells_len]; omega)
    rw [hp]
    refine ⟨PtrRow.mk' hB (by omega), ⟨by rw [framesCells_length], .inr ⟨g, cap, lay cur (i * 5) f'.cells, ?_, hB.row _, by simpa using hn, h0, h1, by rw [hlay]; exact h2, ?_⟩⟩, (Chg.refl _ _).setRow _ _ (.inl (by simp))⟩
    · rw [hv]; simp
    · rw [framesCells_put L i hi f', ← h3, List.length_set]
      exact take_lay _ _ _ _ (by rw [Frame.cells_len]; omega) (by omega)

theorem PoolAt.putF {w : World} {b : PoolB} {Q : Pool} (h : PoolAt w b Q) {g cap : Nat} (hv : b.lv = .slice (some ⟨g, 0, none⟩) Q.l.length cap) (i : Nat) (hi : i < Q.l.length) (f' : Frame) :
    PoolAt (putRow w (.pointer (some ⟨g, i * 5, none⟩)) (frameV f')) b { Q with l := Q.l.set i f' } ∧ Chg b.set w (putRow w (.pointer (some ⟨g, i * 5, none⟩)) (frameV f')) := by
  obtain ⟨-, ho, hc⟩ := own_frame_put h.l hv i hi f'
  obtain ⟨g', cap', hv', hob, -⟩ := frame_cell h.l i hi
  rw [hv] at hv'
  simp at hv'
  rw [← hv'.1] at hob
  refine ⟨⟨h.s.kept hc fun k hk hm => ?_, ho, h.st.kept hc fun hm => ?_, h.np, h.nl, by simpa using h.pos, by simpa using h.few, by simpa using h.hand⟩, hc.mono (by simp [PoolB.set, hob])⟩
  · simp at hm
    subst hm
    exact h.nl k (by rw [hob]; simp) hk
  · exact h.np.1 (by rw [hob]; exact hm)

end Go.Proofs.Ytfdhlpdmbgjkdaa

namespace Go.Proofs.Ytfdhlpdmbgjkdaa
open Go.RowKit
set_option maxRecDepth 100000

def Pool.Clean (Q : Pool) : Prop := ∀ f ∈ Q.l, f.dirty = false
theorem Pool.next_l (Q : Pool) : Q.next.l = Q.l ∧ Q.next.s = Q.s := ⟨rfl, rfl⟩

theorem Pool.round_keeps : ∀ (k : Nat) (Q : Pool), Q.hand < Q.l.length → Q.Clean →
    (Q.round k).2.s = Q.s ∧ (Q.round k).2.l.length = Q.l.length ∧ (Q.round k).2.Clean ∧ (Q.round k).1 < Q.l.length
  | 0, Q, h, hc => ⟨rfl, rfl, hc, by show (-1 : Int) < _; omega⟩
  | k + 1, Q, h, hc => by
    unfold Pool.round
    have hn : Q.next.hand < Q.next.l.length := Nat.mod_lt _ (by show 0 < Q.l.length; omega)
    split
    · exact Pool.round_keeps k Q.next hn hc
    · split
      · have ih := Pool.round_keeps k { Q.next with l := Q.l.set Q.hand { Q.l.getD Q.hand Frame.empty with used := false } } (by rw [List.length_set]; exact hn) (by
          intro f hf
          rcases List.mem_or_eq_of_mem_set hf with h1 | h1
          · exact hc f h1
          · subst h1
            rw [Pool.getD_hand h]
            exact hc Q.l[Q.hand] (List.getElem_mem h))
        rw [List.length_set] at ih
        exact ih
      · exact ⟨rfl, rfl, hc, by show (Q.hand : Int) < _; omega⟩

theorem Pool.victim_keeps (Q : Pool) (h : Q.hand < Q.l.length) (hc : Q.Clean) :
    Q.victim.2.s = Q.s ∧ Q.victim.2.l.length = Q.l.length ∧ Q.victim.2.Clean ∧ Q.victim.1 < Q.l.length := by
  unfold Pool.victim
  split
  · refine ⟨rfl, rfl, hc, ?_⟩
    show idxWhere _ _ < _
    unfold idxWhere
    split <;> omega
  · split
    · exact ⟨rfl, rfl, hc, by show (-1 : Int) < _; omega⟩
    · exact Pool.round_keeps _ Q h hc

end Go.Proofs.Ytfdhlpdmbgjkdaa

namespace Go.Proofs.Ytfdhlpdmbgjkdaa
open Go.RowKit
set_option maxRecDepth 100000

theorem store_frame {ρ : Operand → Value} {w : World} {x y : Operand} {dst type pos after guard} (h : PtrRow w (ρ x) 5) (hy : AggOf (ρ y) 5) :
    (execOp ρ { dst := dst, op := .store 86 x y, type := type, pos := pos, after := after, guard := guard }).run Try.prog w = .ok .skip (putRow w (ρ x) (ρ y)) :=
  exec_store_agg size_frame h hy
attribute [local go_sem ↓] store_frame

def Pool.holdMiss (Q : Pool) (l : Int) : Bytes × Int × Pool :=
  if (Q.s.read l).2 ≠ 0 then ([], (Q.s.read l).2, Q)
  else if Q.victim.1 < 0 then ([], 12, Q.victim.2)
  else ((Q.s.read l).1, 0, { Q.victim.2 with l := Q.victim.2.l.set Q.victim.1.toNat ⟨l, (Q.s.read l).1, 1, false, true⟩ })

set_option maxHeartbeats 1000000 in
theorem pool_hold_miss {w : World} {b : PoolB} {Q : Pool} (h : PoolAt w b Q) (hok : Q.s.Ok) (hcl : Q.Clean) (l : Int) (hf : Q.find l < 0) :
    Calls Try.prog 71 #[ptrV b.p, intV l] w fun e w' => e = .returned (.tuple #[strV (Q.holdMiss l).1, intV (Q.holdMiss l).2.1]) ∧ PoolAt w' b (Q.holdMiss l).2.2 ∧ Chg b.set w w' := by
  have hfd := pool_find h l
  have hrd := fun (wr : World) (hw : PoolAt wr b Q) => store_read hw.s hok l
  have hvc := fun (wr : World) (hw : PoolAt wr b Q) => pool_victim hw
  have hvk := Pool.victim_keeps Q h.hand hcl
  unfold Pool.holdMiss
  generalize Q.find l = fi at *
  generalize Q.s.read l = r at *
  obtain ⟨rb, re⟩ := r
  dsimp only at hrd ⊢
  have HF := Lib.hid hfd
  have HR := Lib.hid hrd
  have HH := Lib.hid h
  by_cases hre : re = 0
  · subst hre
    rw [if_neg (by simp)]
    have hlv := pool_lv h
    generalize Q.victim = vv at *
    obtain ⟨vi, V⟩ := vv
    dsimp only at hvc hvk ⊢
    have HVC := Lib.hid hvc
    by_cases hvi : vi < 0
    · rw [if_pos hvi]
      clear hfd hrd hvc hvk h hok hcl hlv
      go_enter Try.func71, Try.ntmps71
      go_wp2_with (first
      | (go_at_call 36; with_reducible refine HF.out.mono ?_; rintro e w1 ⟨rfl, hc1⟩; have H1 := Lib.hid (HH.out.kept0 hc1); have k0 := H1.out.cells.1; have C1 := Lib.hid (hc1.mono (G := b.set) (by simp)); clear hc1)
      | (go_at_call 76; with_reducible refine (HR.out _ H1.out).mono ?_; rintro e w2 ⟨rfl, hc2⟩; have H2 := Lib.hid (H1.out.kept0 hc2); have C2 := Lib.hid (C1.out.trans0 hc2); clear hc2)
      | (go_at_call 77; with_reducible refine (HVC.out _ H2.out).mono ?_; rintro e w3 ⟨rfl, h3, hc3⟩; have H3 := Lib.hid h3; have C3 := Lib.hid (C2.out.trans1 hc3); clear h3 hc3))
      go_ret2
      exact ⟨rfl, H3.out, C3.out⟩
    · rw [if_neg hvi]
      obtain ⟨i, rfl⟩ : ∃ i : Nat, vi = i := ⟨vi.toNat, by omega⟩
      rw [Int.toNat_natCast]
      obtain ⟨hvs, hvl, hvcl, hvlt⟩ := hvk
      have hiV : i < V.l.length := by omega
      obtain ⟨g, cap, hv, hgb, hcap1, hcap2⟩ := hlv
      rw [← hvl] at hv hcap1
      have hbk := fun (w3 : World) (h3 : PoolAt w3 b V) => pool_back_clean h3 i hiV (hvcl _ (List.getElem_mem hiV))
      have hput := fun (w3 : World) (h3 : PoolAt w3 b V) => h3.putF hv i hiV ⟨l, rb, 1, false, true⟩
      have hrow := fun (w3 : World) (h3 : PoolAt w3 b V) => (own_frame_put h3.l hv i hiV ⟨l, rb, 1, false, true⟩).1
      have hk1 := fun (w3 : World) (h3 : PoolAt w3 b V) => (show w3.cell? ⟨b.p, 1, none⟩ = some (.slice (some ⟨g, 0, none⟩) V.l.length cap) by rw [h3.cells.2.1, hv])
      have hag : AggOf (frameV ⟨l, rb, 1, false, true⟩) 5 := AggOf.mk' (us := (Frame.mk l rb 1 false true).cells) rfl (Frame.cells_one _)
      dsimp only [frameV] at hag hput
      have hfew : V.l.length ≤ 32 := by have := h.few; omega
      have HBK := Lib.hid hbk
      have HPUT := Lib.hid hput
      have HROW := Lib.hid hrow
      have HK1 := Lib.hid hk1
      have hil : (i : Int) < (V.l.length : Int) := by omega
      clear hfd hrd hvc h hok hcl hbk hput hrow hk1 hv hvi hvlt hvcl hvl hvs hgb
      generalize ({ V with l := V.l.set i ⟨l, rb, 1, false, true⟩ } : Pool) = V2 at *
      clear hiV
      generalize V.l.length = n at *
      go_enter Try.func71, Try.ntmps71
      go_wp2_with (first
      | (go_at_call 36; with_reducible refine HF.out.mono ?_; rintro e w1 ⟨rfl, hc1⟩; have H1 := Lib.hid (HH.out.kept0 hc1); have k0 := H1.out.cells.1; have C1 := Lib.hid (hc1.mono (G := b.set) (by simp)); clear hc1)
      | (go_at_call 76; with_reducible refine (HR.out _ H1.out).mono ?_; rintro e w2 ⟨rfl, hc2⟩; have H2 := Lib.hid (H1.out.kept0 hc2); have C2 := Lib.hid (C1.out.trans0 hc2); clear hc2)
      | (go_at_call 77; with_reducible refine (HVC.out _ H2.out).mono ?_; rintro e w3 ⟨rfl, h3, hc3⟩; have H3 := Lib.hid h3; have C3 := Lib.hid (C2.out.trans1 hc3); clear h3 hc3; have k1 := HK1.out _ H3.out; have hpr := HROW.out _ H3.out)
      | (go_at_call 78; with_reducible refine (HBK.out _ H3.out).mono ?_; rintro e w4 ⟨rfl, rfl⟩))
      go_ret2
      exact ⟨rfl, (HPUT.out _ H3.out).1, C3.out.trans1 (HPUT.out _ H3.out).2⟩
  · rw [if_pos hre]
    have hb : (re == 0) = false := by simpa using hre
    have hb2 : (re != 0) = true := by simpa using hre
    clear hfd hrd hvc hvk h hok hcl hre
    go_enter Try.func71, Try.ntmps71
    go_wp2_with (first
      | (go_at_call 36; with_reducible refine HF.out.mono ?_; rintro e w1 ⟨rfl, hc1⟩; have H1 := Lib.hid (HH.out.kept0 hc1); have k0 := H1.out.cells.1; have C1 := Lib.hid (hc1.mono (G := b.set) (by simp)); clear hc1)
      | (go_at_call 76; with_reducible refine (HR.out _ H1.out).mono ?_; rintro e w2 ⟨rfl, hc2⟩; have H2 := Lib.hid (H1.out.kept0 hc2); have C2 := Lib.hid (C1.out.trans0 hc2); clear hc2))
    go_ret2
    exact ⟨rfl, H2.out, C2.out⟩

end Go.Proofs.Ytfdhlpdmbgjkdaa

namespace Go.Proofs.Ytfdhlpdmbgjkdaa
open Go.RowKit
set_option maxRecDepth 100000

theorem get1 {w : World} (bs : Bytes) (g : Nat) {T : TypeId} {u : Value} (hb : Blk w g T [u]) :
    Calls Try.prog 67 #[strV bs, ptrV g] w fun e w' => e = .returned (intV 0) ∧ Blk w' g T [strV bs] ∧ Chg [g] w w' := by
  have c0 := hb.cell 0
  simp at c0
  have f0 := hb.free 0
  have HB := Lib.hid (hb.set 0 (strV bs))
  clear hb
  go_enter Try.func67, Try.ntmps67
  go_wp2_with fail
  go_ret
  exact ⟨rfl, HB.out, (Chg.refl _ _).setCell _ _ (.inl (by simp))⟩

end Go.Proofs.Ytfdhlpdmbgjkdaa

namespace Go.Proofs.Ytfdhlpdmbgjkdaa
open Go.RowKit
set_option maxRecDepth 100000

def Pool.hold (Q : Pool) (l : Int) : Bytes × Int × Pool :=
  if 0 ≤ Q.find l then
    ((Q.l.getD (Q.find l).toNat Frame.empty).payload, 0, { Q with l := Q.l.set (Q.find l).toNat { Q.l.getD (Q.find l).toNat Frame.empty with held := (Q.l.getD (Q.find l).toNat Frame.empty).held + 1, used := true } })
  else Q.holdMiss l

def Pool.Held (Q : Pool) : Prop := ∀ f ∈ Q.l, 0 ≤ f.held ∧ f.held ≤ 1099511627775

theorem pool_hold {w : World} {b : PoolB} {Q : Pool} (h : PoolAt w b Q) (hok : Q.s.Ok) (hcl : Q.Clean) (hh : Q.Held) (l : Int) :
    Calls Try.prog 71 #[ptrV b.p, intV l] w fun e w' => e = .returned (.tuple #[strV (Q.hold l).1, intV (Q.hold l).2.1]) ∧ PoolAt w' b (Q.hold l).2.2 ∧ Chg b.set w w' := by
  unfold Pool.hold
  by_cases hf : 0 ≤ Q.find l
  · rw [if_pos hf]
    obtain ⟨i, he, hi, -⟩ := Pool.find_pos hf
    have hg : Q.l.getD i Frame.empty = Q.l[i] := by simp [List.getD, hi]
    rw [he, Int.toNat_natCast, hg]
    have hb := hh Q.l[i] (List.getElem_mem hi)
    exact pool_hold_hit h l i he hi hb.1 (by omega)
  · rw [if_neg hf]
    exact pool_hold_miss h hok hcl l (by omega)

end Go.Proofs.Ytfdhlpdmbgjkdaa

namespace Go.Proofs.Ytfdhlpdmbgjkdaa

theorem findIdx_of_map (pr : Frame → Bool) : ∀ (L M : List Frame), L.map pr = M.map pr → L.findIdx pr = M.findIdx pr
  | [], [], _ => rfl
  | [], _ :: _, h => by simp at h
  | _ :: _, [], h => by simp at h
  | f :: L, g :: M, h => by
    simp only [List.map_cons, List.cons.injEq] at h
    have ih := findIdx_of_map pr L M h.2
    simp only [List.findIdx_cons, h.1, ih]
theorem idxWhere_of_map {L M : List Frame} {pr : Frame → Bool} (h : L.map pr = M.map pr) : idxWhere L pr = idxWhere M pr := by
  have hl : L.length = M.length := by simpa using congrArg List.length h
  unfold idxWhere
  rw [findIdx_of_map pr L M h, hl]

theorem Pool.find_of_map {Q R : Pool} (h : Q.l.map Frame.page = R.l.map Frame.page) (l : Int) : Q.find l = R.find l := by
  unfold Pool.find
  split
  · rfl
  · apply idxWhere_of_map
    have := congrArg (List.map (fun p => p == l)) h
    rw [List.map_map, List.map_map] at this
    exact this

theorem pages_set (L : List Frame) (i : Nat) (hi : i < L.length) (f' : Frame) (hf : f'.page = L[i].page) : (L.set i f').map Frame.page = L.map Frame.page := by
  rw [List.map_set, hf]
  apply List.ext_getElem
  · simp
  · intro j h1 h2
    rw [List.getElem_set]
    split
    · rename_i e
      subst e
      simp
    · rfl

end Go.Proofs.Ytfdhlpdmbgjkdaa

namespace Go.Proofs.Ytfdhlpdmbgjkdaa

theorem Pool.round_pages : ∀ (k : Nat) (Q : Pool), Q.hand < Q.l.length → (Q.round k).2.l.map Frame.page = Q.l.map Frame.page ∧ (Q.round k).2.l.map Frame.held = Q.l.map Frame.held ∧ (Q.round k).2.l.map Frame.payload = Q.l.map Frame.payload
  | 0, Q, _ => ⟨rfl, rfl, rfl⟩
  | k + 1, Q, h => by
    unfold Pool.round
    have hn : Q.next.hand < Q.next.l.length := Nat.mod_lt _ (by show 0 < Q.l.length; omega)
    split
    · exact Pool.round_pages k Q.next hn
    · split
      · have ih := Pool.round_pages k { Q.next with l := Q.l.set Q.hand { Q.l.getD Q.hand Frame.empty with used := false } } (by rw [List.length_set]; exact hn)
        obtain ⟨i1, i2, i3⟩ := ih
        rw [Pool.getD_hand h] at i1 i2 i3
        rw [Pool.getD_hand h]
        refine ⟨i1.trans (pages_set _ _ h _ rfl), i2.trans ?_, i3.trans ?_⟩
        · apply List.ext_getElem
          · simp
          · intro j h1 h2
            simp only [List.getElem_map, List.getElem_set]
            split
            · rename_i e; subst e; rfl
            · rfl
        · apply List.ext_getElem
          · simp
          · intro j h1 h2
            simp only [List.getElem_map, List.getElem_set]
            split
            · rename_i e; subst e; rfl
            · rfl
      · exact ⟨rfl, rfl, rfl⟩

theorem Pool.victim_pages (Q : Pool) (h : Q.hand < Q.l.length) : Q.victim.2.l.map Frame.page = Q.l.map Frame.page ∧ Q.victim.2.l.map Frame.held = Q.l.map Frame.held ∧ Q.victim.2.l.map Frame.payload = Q.l.map Frame.payload := by
  unfold Pool.victim
  split
  · exact ⟨rfl, rfl, rfl⟩
  · split
    · exact ⟨rfl, rfl, rfl⟩
    · exact Pool.round_pages _ Q h

end Go.Proofs.Ytfdhlpdmbgjkdaa

namespace Go.Proofs.Ytfdhlpdmbgjkdaa

theorem unbe_be : ∀ (k n : Nat), n < 256 ^ k → unbe (be k n) = n
  | 0, n, h => by
    have h0 : n = 0 := by simpa using h
    subst h0
    rfl
  | k + 1, n, h => by
    have h1 : n / 256 < 256 ^ k := by
      rw [Nat.div_lt_iff_lt_mul (by omega)]
      rw [Nat.pow_succ] at h
      exact h
    unfold be
    rw [unbe_snoc, unbe_be k _ h1]
    have h2 : (UInt8.ofNat (n % 256)).toNat = n % 256 := by simp
    rw [h2]
    omega

theorem unpackI_packI (n : Int) (h0 : -9223372036854775808 ≤ n) (h1 : n ≤ 9223372036854775807) : unpackI (packI n) = n := by
  unfold unpackI packI
  have e : ((n + (two63 : Int)) % (two64 : Int)).toNat < 256 ^ 8 := by
    rw [two64_eq, two63_eq]
    omega
  rw [unbe_be 8 _ e, two64_eq, two63_eq]
  omega

def pad (b : Bytes) : Bytes := b ++ List.replicate (232 - b.length) 0
theorem pad_length (b : Bytes) (h : b.length ≤ 232) : (pad b).length = 232 := by simp [pad]; omega
theorem pad_full (b : Bytes) (h : b.length = 232) : pad b = b := by simp [pad, h]

theorem crcFour_length (r : BitVec 32) : (crcFour r).length = 4 := rfl
theorem crcOk_lay (l : Bytes) : crcOk (crcLay l) = true := by
  unfold crcOk crcLay
  rw [List.drop_left' (crcFour_length _), List.take_left' (crcFour_length _)]
  simp

theorem page_body (p : Page) : Page.bytes p = crcFour (crcSum (packI p.id ++ packI p.epoch ++ be 4 p.kind.toNat ++ p.payload ++ List.replicate (232 - p.payload.length) 0)) ++ (packI p.id ++ (packI p.epoch ++ (be 4 p.kind.toNat ++ pad p.payload))) := by
  unfold Page.bytes crcLay pad
  simp only [List.append_assoc]
theorem page_bytes_length (p : Page) (h : p.payload.length ≤ 232) : (Page.bytes p).length = 256 := by
  rw [page_body]
  simp [crcFour_length, packI_length, be_length, pad_length _ h]

theorem pageOf_bytes (p : Page) (hr : p.right = true) (_ : p.payload.length ≤ 232) (hi : p.id ≤ 9223372036854775807) : pageOf (Page.bytes p) = ⟨p.id, p.epoch, p.kind, pad p.payload⟩ := by
  simp only [Page.right, decide_eq_true_eq] at hr
  have d4 : (Page.bytes p).drop 4 = packI p.id ++ (packI p.epoch ++ (be 4 p.kind.toNat ++ pad p.payload)) := by
    rw [page_body]; exact List.drop_left' (crcFour_length _)
  have d12 : (Page.bytes p).drop 12 = packI p.epoch ++ (be 4 p.kind.toNat ++ pad p.payload) := by
    rw [show (12 : Nat) = 4 + 8 from rfl, ← List.drop_drop, d4]; exact List.drop_left' (packI_length _)
  have d20 : (Page.bytes p).drop 20 = be 4 p.kind.toNat ++ pad p.payload := by
    rw [show (20 : Nat) = 12 + 8 from rfl, ← List.drop_drop, d12]; exact List.drop_left' (packI_length _)
  have d24 : (Page.bytes p).drop 24 = pad p.payload := by
    rw [show (24 : Nat) = 20 + 4 from rfl, ← List.drop_drop, d20]; exact List.drop_left' (be_length _ _)
  unfold pageOf
  rw [d4, d12, d20, d24, List.take_left' (packI_length _), List.take_left' (packI_length _), List.take_left' (be_length _ _),
    unpackI_packI _ (by omega) hi, unpackI_packI _ (by omega) (by omega), unbe_be 4 _ (by omega)]
  congr 1
  omega

theorem pageGet_bytes (p : Page) (hr : p.right = true) (h : p.payload.length ≤ 232) (hi : p.id ≤ 9223372036854775807) : pageGet (Page.bytes p) = (⟨p.id, p.epoch, p.kind, pad p.payload⟩, 0) := by
  have ho := pageOf_bytes p hr h hi
  have hc : crcOk (Page.bytes p) = true := crcOk_lay _
  unfold pageGet
  rw [if_neg (by rw [page_bytes_length p h]; simp), if_neg (by rw [hc]; simp), ho]
  rw [if_neg]
  simp only [Page.right, decide_eq_true_eq] at hr ⊢
  simpa using hr

/-! a disk that works and is not armed -/
structure Disk.Up (D : Disk) : Prop where
  ok : D.Ok
  armed : D.armed = 0
  down : D.down = false

theorem Disk.counts_up {D : Disk} (h : D.armed = 0) : D.counts = (0, D) := by unfold Disk.counts; rw [if_pos h]
theorem Disk.Up.at_ {D : Disk} (h : D.Up) {i : Nat} (hi : i < D.loose.length) : D.at_ i = 0 := by
  unfold Disk.at_
  rw [h.down, if_neg (by simp), if_neg (by omega)]
theorem Disk.keep_now (D : Disk) (i : Nat) : (D.keep i).now = D.now ∧ (D.keep i).armed = D.armed ∧ (D.keep i).down = D.down := by unfold Disk.keep; split <;> exact ⟨rfl, rfl, rfl⟩

theorem Disk.write_up {D : Disk} (h : D.Up) (i : Nat) (hi : i < D.loose.length) (s : Bytes) :
    ∃ D', D.write i s = (0, D') ∧ D'.Up ∧ D'.loose.length = D.loose.length ∧ D'.now = lay D.now (64 * i) (padTo 64 s) := by
  obtain ⟨k1, k2, k3⟩ := Disk.keep_now D i
  have ha : ((D.keep i).fill i s).armed = 0 := by
    show (D.keep i).armed = 0
    rw [k2, h.armed]
  unfold Disk.write
  rw [h.at_ hi, if_neg (by simp), Int.toNat_natCast, Disk.counts_up ha]
  refine ⟨_, rfl, ⟨(h.ok.keep hi).fill (by rw [Disk.keep_loose]; exact hi) s, ha, ?_⟩, ?_, ?_⟩
  · show (D.keep i).down = false
    rw [k3, h.down]
  · rw [Disk.fill_loose, Disk.keep_loose]
  · show lay (D.keep i).now _ _ = _
    rw [k1]

theorem lay_get {α : Type} (L : List α) (off : Nat) (cs : List α) (hf : off + cs.length ≤ L.length) (i : Nat) :
    (lay L off cs)[i]? = if off ≤ i ∧ i < off + cs.length then cs[i - off]? else L[i]? := by
  unfold lay
  have hl : (L.take off).length = off := by rw [List.length_take]; omega
  by_cases h1 : i < off
  · rw [List.getElem?_append_left (by omega), List.getElem?_take, if_pos h1, if_neg (by omega)]
  · rw [List.getElem?_append_right (by omega), hl]
    by_cases h2 : i < off + cs.length
    · rw [List.getElem?_append_left (by omega), if_pos ⟨by omega, h2⟩]
    · rw [List.getElem?_append_right (by omega), List.getElem?_drop, if_neg (by omega)]
      congr 1
      omega

theorem lay_two {α : Type} (L : List α) (off : Nat) (a b : List α) (hf : off + (a.length + b.length) ≤ L.length) :
    lay (lay L off a) (off + a.length) b = lay L off (a ++ b) := by
  have h1 : (lay L off a).length = L.length := lay_length' _ _ _ (by omega)
  apply List.ext_getElem?
  intro i
  rw [lay_get _ _ _ (by omega), lay_get _ _ _ (by omega), lay_get _ _ _ (by rw [List.length_append]; exact hf), List.length_append]
  by_cases c1 : off + a.length ≤ i ∧ i < off + a.length + b.length
  · rw [if_pos c1, if_pos (by omega), List.getElem?_append_right (by omega)]
    congr 1
    omega
  · rw [if_neg c1]
    by_cases c2 : off ≤ i ∧ i < off + a.length
    · rw [if_pos c2, if_pos (by omega), List.getElem?_append_left (by omega)]
    · rw [if_neg c2, if_neg (by omega)]

theorem padTo_full {n : Nat} {s : Bytes} (h : s.length = n) : padTo n s = s := by
  subst h
  simp [padTo]

theorem Disk.writes_up : ∀ (k : Nat) {D : Disk} (_ : D.Up) (at_ : Nat) (_ : at_ + k ≤ D.loose.length) (s : Bytes) (_ : s.length = 64 * k),
    ∃ D', D.writes at_ s k = (0, D') ∧ D'.Up ∧ D'.loose.length = D.loose.length ∧ D'.now = lay D.now (64 * at_) s
  | 0, D, h, at_, hk, s, hs => by
    have : s = [] := List.eq_nil_of_length_eq_zero (by omega)
    subst this
    exact ⟨D, rfl, h, rfl, by simp [lay]⟩
  | k + 1, D, h, at_, hk, s, hs => by
    obtain ⟨D1, e1, h1, l1, n1⟩ := Disk.write_up h at_ (by omega) (s.take 64)
    obtain ⟨D2, e2, h2, l2, n2⟩ := Disk.writes_up k h1 (at_ + 1) (by omega) (s.drop 64) (by rw [List.length_drop]; omega)
    have hnl := h.ok.now
    refine ⟨D2, ?_, h2, l2.trans l1, ?_⟩
    · rw [Disk.writes, e1, if_neg (by simp)]
      exact e2
    · have ht : (s.take 64).length = 64 := by rw [List.length_take]; omega
      rw [n2, n1, padTo_full ht, show 64 * (at_ + 1) = 64 * at_ + (s.take 64).length by omega, lay_two _ _ _ _ (by rw [ht, List.length_drop]; omega), List.take_append_drop]

/-- The bytes of a physical page. -/
def Disk.area (D : Disk) (n : Nat) : Bytes := (D.now.drop (64 * (2 + 4 * n))).take 256

theorem area_lay (L : Bytes) (n : Nat) (s : Bytes) (hs : s.length = 256) (hf : 64 * (2 + 4 * n) + 256 ≤ L.length) : ((lay L (64 * (2 + 4 * n)) s).drop (64 * (2 + 4 * n))).take 256 = s := by
  apply List.ext_getElem?
  intro i
  rw [List.getElem?_take, List.getElem?_drop, lay_get _ _ _ (by omega)]
  by_cases c : i < 256
  · rw [if_pos c, if_pos (by omega)]
    congr 1
    omega
  · rw [if_neg c, List.getElem?_eq_none (by omega)]
theorem area_lay_other (L : Bytes) (n m : Nat) (s : Bytes) (hs : s.length = 256) (hf : 64 * (2 + 4 * n) + 256 ≤ L.length) (hne : m ≠ n) :
    ((lay L (64 * (2 + 4 * n)) s).drop (64 * (2 + 4 * m))).take 256 = (L.drop (64 * (2 + 4 * m))).take 256 := by
  apply List.ext_getElem?
  intro i
  rw [List.getElem?_take, List.getElem?_drop, List.getElem?_take, List.getElem?_drop, lay_get _ _ _ (by omega)]
  by_cases c : i < 256
  · rw [if_pos c, if_pos c, if_neg (by omega)]
  · rw [if_neg c, if_neg c]

theorem Disk.many_le (D : Disk) {n : Nat} (h : n < D.many) : 2 + 4 * n + 4 ≤ D.loose.length := by
  unfold Disk.many Disk.sectors at h
  omega

theorem pageWrite_up {D : Disk} (h : D.Up) (n : Nat) (hn : n < D.many) (ep kd : Int) (pl : Bytes) (hr : Page.right ⟨n, ep, kd, pl⟩ = true) (hl : pl.length ≤ 232) :
    ∃ D', pageWrite D ⟨n, ep, kd, pl⟩ = (0, D') ∧ D'.Up ∧ D'.loose.length = D.loose.length ∧ D'.area n = Page.bytes ⟨n, ep, kd, pl⟩ ∧ ∀ m, m ≠ n → D'.area m = D.area m := by
  have hlen := Disk.many_le D hn
  have hnl := h.ok.now
  obtain ⟨D', e, h1, h2, h3⟩ := Disk.writes_up 4 h (2 + n * 4) (by omega) (Page.bytes ⟨n, ep, kd, pl⟩) (page_bytes_length _ hl)
  refine ⟨D', ?_, h1, h2, ?_, fun m hm => ?_⟩
  · rw [pageWrite_ok hr hl (by show (n : Int) < _; omega)]
    exact e
  · unfold Disk.area
    rw [h3, show 64 * (2 + n * 4) = 64 * (2 + 4 * n) by omega]
    exact area_lay _ _ _ (page_bytes_length _ hl) (by omega)
  · unfold Disk.area
    rw [h3, show 64 * (2 + n * 4) = 64 * (2 + 4 * n) by omega]
    exact area_lay_other _ _ _ _ (page_bytes_length _ hl) (by omega) hm

theorem pageRead_up {D : Disk} (h : D.Up) (n : Nat) (hn : n < D.many) (p : Page) (hg : pageGet (D.area n) = (p, 0)) (hi : p.id = n) : pageRead D n = (p, 0) := by
  unfold pageRead
  rw [if_neg (by omega), h.down, if_neg (by simp)]
  dsimp only
  rw [Int.toNat_natCast]
  unfold Disk.area at hg
  rw [hg, if_neg (by simp), if_neg (by simp [hi])]

end Go.Proofs.Ytfdhlpdmbgjkdaa
