/- A part of the walks of the program's functions, each a contract that its caller uses; no condition but what each theorem names. The walks of reference 14's Write, Drop, Abort. The walk of reference 14's Next. The walk of reference 14's Commit. A store that stands for the document's: every call, as the document answers. Format gives the document's first store; a store and the document's side by side. Calls of a store and of the document's, a box beside them. -/
import Derived.Test.YtjbpdgknhbnfgaaGreatM18

namespace Go.Proofs.YtjbpdgknhbnfgaaGreat
open Go.RowKit
set_option maxRecDepth 100000

theorem Ref.at_yes {r : Ref} {l : Int} (h : r.at_ l = true) : ∃ i : Nat, l = i ∧ i < r.now.length := by
  unfold Ref.at_ at h
  simp only [Bool.and_eq_true, decide_eq_true_eq] at h
  exact ⟨l.toNat, by omega, by omega⟩

set_option maxHeartbeats 2000000 in
theorem ref_write {w : World} {b : RefB} {r : Ref} (h : RefAt w b r) (hok : RefOk r) (l : Int) (p : Bytes) (hp : p.length ≤ 60000) :
    Calls Tryz.prog 71 #[ptrV b.p, intV l, strV p] w fun e w' => e = .returned (intV (r.write l p).1) ∧ RefTo b w w' (r.write l p).2 := by
  have HH := Lib.hid h
  obtain ⟨RES, hRES⟩ : ∃ RES, r.write l p = RES := ⟨_, rfl⟩
  rw [hRES]
  unfold Ref.write at hRES
  by_cases hbig : 232 < p.length
  · rw [if_pos hbig] at hRES
    have HRES := Lib.hid hRES
    clear hRES
    have z1 : decide (232 < (p.length : Int)) = true := by simp; omega
    clear h hbig
    go_enter Tryz.func71, Tryz.ntmps71
    go_wp2_with fail
    go_ret
    rw [← HRES.out]
    exact ⟨rfl, RefTo.same HH.out (Chg.refl _ _)⟩
  · rw [if_neg hbig] at hRES
    have z1 : decide (232 < (p.length : Int)) = false := by simp; omega
    have hat := ref_at h (by have := hok.n; omega) l
    cases ha : r.at_ l with
    | false =>
      rw [ha, if_pos rfl] at hRES
      rw [ha] at hat
      have HAT := Lib.hid hat
      have HRES := Lib.hid hRES
      clear hRES hat h hbig ha
      go_enter Tryz.func71, Tryz.ntmps71
      go_wp2_with (first | (go_at_call 139; (with_reducible refine HAT.out.mono ?_); rintro e w' ⟨rfl, rfl⟩))
      go_ret
      rw [← HRES.out]
      exact ⟨rfl, RefTo.same HH.out (Chg.refl _ _)⟩
    | true =>
      rw [ha, if_neg (by simp)] at hRES
      rw [ha] at hat
      obtain ⟨i, rfl, hi⟩ := Ref.at_yes ha
      have HAT := Lib.hid hat
      obtain ⟨g, nc, hnv, -, -, -, c1, -⟩ := slot_cells HH.out.n i hi
      rw [Int.toNat_natCast, Ref.slot_of hi] at hRES
      have hfr := ref_free h (by have := hok.n; omega) (by have := hok.o; omega) hok.m
      have HFR := Lib.hid hfr
      have hiI : (i : Int) < (r.now.length : Int) := by omega
      have hnl := hok.n
      have HFU : Hid (∀ wr : World, Calls Tryz.prog 43 #[strV p] wr fun e w' => e = .returned (strV (pad p)) ∧ Chg [] wr w') := Lib.hid fun wr => ref_full p wr hp
      have HSE : Hid (∀ wr : World, Chg [] w wr → Calls Tryz.prog 140 #[b.nv, intV i, .agg #[.bool true, .bool true, strV (pad p)]] wr fun e w' => ∃ v', e = .returned v' ∧ Own w' 91 3 v' (Ref.setL r.now i ⟨true, true, pad p⟩).length (slotCells (Ref.setL r.now i ⟨true, true, pad p⟩)) ∧ Chg [] wr w' ∧ ∀ k ∈ ownBlk v', wr.heap.size ≤ k) :=
        Lib.hid fun wr hc => ref_set (HH.out.kept0 hc).n (by omega) i (by omega) ⟨true, true, pad p⟩
      have HK1 : Hid (∀ w' : World, Chg [] w w' → w'.cell? ⟨b.p, 1, none⟩ = some b.nv) := Lib.hid fun w' hc => (HH.out.kept0 hc).st.cell 1
      have HF1 : Hid (∀ w' : World, Chg [] w w' → w'.frozen? ⟨b.p, 1, none⟩ = false) := Lib.hid fun w' hc => (HH.out.kept0 hc).st.free 1
      have HFIN : Hid (∀ (w' : World) (v : Value), Own w' 91 3 v (Ref.setL r.now i ⟨true, true, pad p⟩).length (slotCells (Ref.setL r.now i ⟨true, true, pad p⟩)) → Chg [] w w' → (∀ k ∈ ownBlk v, w.heap.size ≤ k) → RefTo b w (w'.setCell ⟨b.p, 1, none⟩ v) { r with now := Ref.setL r.now i ⟨true, true, pad p⟩ }) := Lib.hid fun w' v h1 h2 h3 => RefTo.put HH.out h1 h2 h3
      rw [hnv] at HSE HK1
      have kk := HK1.out w (Chg.refl _ _)
      obtain ⟨x, hx⟩ : ∃ x, r.now[i].fresh = x := ⟨_, rfl⟩
      rw [hx] at c1 hRES
      clear hfr hat h hbig ha hnv hx hnl hp
      cases x with
      | true =>
        rw [if_neg (by simp)] at hRES
        have HR2 := Lib.hid hRES
        clear hRES HFR hi
        go_enter Tryz.func71, Tryz.ntmps71
        go_wp2_with (first | (go_at_call 139; (with_reducible refine HAT.out.mono ?_); rintro e w' ⟨rfl, rfl⟩))
        have C0 : Hid (Chg [] w w) := Lib.hid (Chg.refl _ _)
        clear HAT kk c1
        have k1 := HK1.out w.drew (C0.out.drew)
        refine wp_region_late (fun w' => w'.cell? ⟨b.p, 1, none⟩ = some (.slice (some ⟨g, 0, none⟩) r.now.length nc)) (fun j => decide (10 ≤ j)) (by kernel_rfl) 13 rfl ?_
        refine wpAnyL_pure (v := ?va0) 0 28 rfl rfl (by kernel_rfl) (by kernel_rfl) (by kernel_rfl) (by rfl) (fun _ _ _ h => h) ?hya0 ?resta0
        case hya0 => intro w; go_simp; with_reducible rfl
        simp only [List.setIfInBounds_toArray, List.set_cons_zero, List.set_cons_succ]
        refine wpAnyL_pure (v := ?va1) 1 29 rfl rfl (by kernel_rfl) (by kernel_rfl) (by kernel_rfl) (by rfl) (fun _ _ _ h => h) ?hya1 ?resta1
        case hya1 => intro w; go_simp; with_reducible rfl
        simp only [List.setIfInBounds_toArray, List.set_cons_zero, List.set_cons_succ]
        refine wpAnyL_pure (v := ?va2) 2 30 rfl rfl (by kernel_rfl) (by kernel_rfl) (by kernel_rfl) (by rfl) (fun _ _ _ h => h) ?hya2 ?resta2
        case hya2 => intro w; go_simp; with_reducible rfl
        simp only [List.setIfInBounds_toArray, List.set_cons_zero, List.set_cons_succ]
        refine wpAnyL_pure (v := ?va3) 3 31 rfl rfl (by kernel_rfl) (by kernel_rfl) (by kernel_rfl) (by rfl) (fun _ _ _ h => h) ?hya3 ?resta3
        case hya3 => intro w; go_simp; with_reducible rfl
        simp only [List.setIfInBounds_toArray, List.set_cons_zero, List.set_cons_succ]
        refine wpAnyL_load (v := ?va4) 4 32 rfl rfl (by kernel_rfl) (by kernel_rfl) (by kernel_rfl) (by kernel_rfl) (by rfl) (fun _ _ _ h => h) k1 ?hya4 ?resta4
        case hya4 => intro w hS; obtain s1 := hS; go_simp; with_reducible rfl
        simp only [List.setIfInBounds_toArray, List.set_cons_zero, List.set_cons_succ]
        refine wpAnyL_pure (v := ?va5) 5 33 rfl rfl (by kernel_rfl) (by kernel_rfl) (by kernel_rfl) (by rfl) (fun _ _ _ h => h) ?hya5 ?resta5
        case hya5 => intro w; go_simp; with_reducible rfl
        simp only [List.setIfInBounds_toArray, List.set_cons_zero, List.set_cons_succ]
        refine wpAnyL_pure (v := ?va6) 6 34 rfl rfl (by kernel_rfl) (by kernel_rfl) (by kernel_rfl) (by rfl) (fun _ _ _ h => h) ?hya6 ?resta6
        case hya6 => intro w; go_simp; with_reducible rfl
        simp only [List.setIfInBounds_toArray, List.set_cons_zero, List.set_cons_succ]
        refine wpAnyL_call (f := 43) (args := #[strV p]) 7 35 rfl rfl (by kernel_rfl) (by rfl) ?hra7 (fun v w' => v = strV (pad p) ∧ Chg [] w.drew w') ?hca7 ?resta7
        case hra7 => go_simp
        case hca7 => exact (HFU.out _).mono fun e w' ⟨h1, h2⟩ => ⟨_, h1, rfl, h2⟩
        rintro v7 w7 ⟨rfl, c7⟩
        have k7 := HK1.out w7 (C0.out.drew.trans0 c7)
        refine ⟨fun _ _ => k7, ?_⟩
        simp only [List.setIfInBounds_toArray, List.set_cons_zero, List.set_cons_succ]
        refine wpAnyL_pure (v := ?va8) 8 36 rfl rfl (by kernel_rfl) (by kernel_rfl) (by kernel_rfl) (by rfl) (fun _ _ _ h => h) ?hya8 ?resta8
        case hya8 => intro w; go_simp; with_reducible rfl
        simp only [List.setIfInBounds_toArray, List.set_cons_zero, List.set_cons_succ]
        refine wpAnyL_call (f := 140) (args := #[.slice (some ⟨g, 0, none⟩) r.now.length nc, intV i, .agg #[.bool true, .bool true, strV (pad p)]]) 9 37 rfl rfl (by kernel_rfl) (by rfl) ?hra9 (fun v w' => ∃ a c, v = .slice a (Ref.setL r.now i ⟨true, true, pad p⟩).length c ∧ Own w' 91 3 v (Ref.setL r.now i ⟨true, true, pad p⟩).length (slotCells (Ref.setL r.now i ⟨true, true, pad p⟩)) ∧ Chg [] w7 w' ∧ ∀ k ∈ ownBlk v, w7.heap.size ≤ k) ?hca9 ?resta9
        case hra9 => go_simp
        case hca9 => exact (HSE.out w7 (C0.out.drew.trans0 c7)).mono fun e w' ⟨v, h1, h2, h3, h4⟩ => (by obtain ⟨a, c, h5, -, -⟩ := h2.shape; exact ⟨v, h1, a, c, h5, h2, h3, h4⟩)
        rintro v9 w9 ⟨a9, n9, rfl, o9, c9, m9⟩
        have C9 := Lib.hid ((C0.out.drew.trans0 c7).trans0 c9)
        have k9 := HK1.out w9 C9.out
        have z9 := HF1.out w9 C9.out
        refine ⟨fun _ _ => k9, ?_⟩
        have HF := Lib.hid (HFIN.out w9 _ o9 C9.out (fun k hk => Nat.le_trans (C0.out.drew.trans0 c7).size (m9 k hk)))
        clear o9 m9 c9 k7
        simp only [List.setIfInBounds_toArray, List.set_cons_zero, List.set_cons_succ]
        refine wpAnyL_pure (v := ?va10) 10 38 rfl rfl (by kernel_rfl) (by kernel_rfl) (by kernel_rfl) (by rfl) (fun _ _ _ h => h) ?hya10 ?resta10
        case hya10 => intro w; go_simp; with_reducible rfl
        simp only [List.setIfInBounds_toArray, List.set_cons_zero, List.set_cons_succ]
        refine wpAnyL_pure (v := ?va11) 11 39 rfl rfl (by kernel_rfl) (by kernel_rfl) (by kernel_rfl) (by rfl) (fun _ _ _ h => h) ?hya11 ?resta11
        case hya11 => intro w; go_simp; with_reducible rfl
        simp only [List.setIfInBounds_toArray, List.set_cons_zero, List.set_cons_succ]
        refine wpAnyL_store (w' := ?wa12) 12 rfl rfl (by kernel_rfl) (by rfl) rfl ?hsa12 ?resta12
        case hsa12 => go_simp; with_reducible rfl
        refine wpAnyL_done (by kernel_rfl) ?_
        go_wp2_with fail
        go_ret
        rw [← HR2.out]
        exact ⟨rfl, HF.out⟩
      | false =>
        by_cases hfl : r.free < 1
        · rw [if_pos ⟨rfl, hfl⟩] at hRES
          have HR2 := Lib.hid hRES
          have z3 : decide (r.free < 1) = true := by simpa using hfl
          clear hRES hfl hi
          go_enter Tryz.func71, Tryz.ntmps71
          go_wp2_with (first | (go_at_call 139; (with_reducible refine HAT.out.mono ?_); rintro e w' ⟨rfl, rfl⟩) | (go_at_call 73; (with_reducible refine HFR.out.mono ?_); rintro e w' ⟨rfl, nq, rfl⟩))
          go_ret
          rw [← HR2.out]
          exact ⟨rfl, RefTo.same HH.out ((Chg.refl _ _).drewN _)⟩
        · rw [if_neg (fun h => hfl h.2)] at hRES
          have HR2 := Lib.hid hRES
          have z3 : decide (r.free < 1) = false := by simpa using hfl
          clear hRES hfl hi
          go_enter Tryz.func71, Tryz.ntmps71
          go_wp2_with (first | (go_at_call 139; (with_reducible refine HAT.out.mono ?_); rintro e w' ⟨rfl, rfl⟩) | (go_at_call 73; (with_reducible refine HFR.out.mono ?_); rintro e w' ⟨rfl, nq, rfl⟩))
          have C0 : Hid (Chg [] w (w.drewN nq)) := Lib.hid ((Chg.refl _ _).drewN _)
          clear HAT HFR kk c1
          obtain ⟨w0, hw0⟩ : ∃ w0, w.drewN nq = w0 := ⟨_, rfl⟩
          rw [hw0] at C0
          rw [hw0]
          clear hw0
          have k1 := HK1.out w0.drew (C0.out.drew)
          refine wp_region_late (fun w' => w'.cell? ⟨b.p, 1, none⟩ = some (.slice (some ⟨g, 0, none⟩) r.now.length nc)) (fun j => decide (10 ≤ j)) (by kernel_rfl) 13 rfl ?_
          refine wpAnyL_pure (v := ?vb0) 0 28 rfl rfl (by kernel_rfl) (by kernel_rfl) (by kernel_rfl) (by rfl) (fun _ _ _ h => h) ?hyb0 ?restb0
          case hyb0 => intro w; go_simp; with_reducible rfl
          simp only [List.setIfInBounds_toArray, List.set_cons_zero, List.set_cons_succ]
          refine wpAnyL_pure (v := ?vb1) 1 29 rfl rfl (by kernel_rfl) (by kernel_rfl) (by kernel_rfl) (by rfl) (fun _ _ _ h => h) ?hyb1 ?restb1
          case hyb1 => intro w; go_simp; with_reducible rfl
          simp only [List.setIfInBounds_toArray, List.set_cons_zero, List.set_cons_succ]
          refine wpAnyL_pure (v := ?vb2) 2 30 rfl rfl (by kernel_rfl) (by kernel_rfl) (by kernel_rfl) (by rfl) (fun _ _ _ h => h) ?hyb2 ?restb2
          case hyb2 => intro w; go_simp; with_reducible rfl
          simp only [List.setIfInBounds_toArray, List.set_cons_zero, List.set_cons_succ]
          refine wpAnyL_pure (v := ?vb3) 3 31 rfl rfl (by kernel_rfl) (by kernel_rfl) (by kernel_rfl) (by rfl) (fun _ _ _ h => h) ?hyb3 ?restb3
          case hyb3 => intro w; go_simp; with_reducible rfl
          simp only [List.setIfInBounds_toArray, List.set_cons_zero, List.set_cons_succ]
          refine wpAnyL_load (v := ?vb4) 4 32 rfl rfl (by kernel_rfl) (by kernel_rfl) (by kernel_rfl) (by kernel_rfl) (by rfl) (fun _ _ _ h => h) k1 ?hyb4 ?restb4
          case hyb4 => intro w hS; obtain s1 := hS; go_simp; with_reducible rfl
          simp only [List.setIfInBounds_toArray, List.set_cons_zero, List.set_cons_succ]
          refine wpAnyL_pure (v := ?vb5) 5 33 rfl rfl (by kernel_rfl) (by kernel_rfl) (by kernel_rfl) (by rfl) (fun _ _ _ h => h) ?hyb5 ?restb5
          case hyb5 => intro w; go_simp; with_reducible rfl
          simp only [List.setIfInBounds_toArray, List.set_cons_zero, List.set_cons_succ]
          refine wpAnyL_pure (v := ?vb6) 6 34 rfl rfl (by kernel_rfl) (by kernel_rfl) (by kernel_rfl) (by rfl) (fun _ _ _ h => h) ?hyb6 ?restb6
          case hyb6 => intro w; go_simp; with_reducible rfl
          simp only [List.setIfInBounds_toArray, List.set_cons_zero, List.set_cons_succ]
          refine wpAnyL_call (f := 43) (args := #[strV p]) 7 35 rfl rfl (by kernel_rfl) (by rfl) ?hrb7 (fun v w' => v = strV (pad p) ∧ Chg [] w0.drew w') ?hcb7 ?restb7
          case hrb7 => go_simp
          case hcb7 => exact (HFU.out _).mono fun e w' ⟨h1, h2⟩ => ⟨_, h1, rfl, h2⟩
          rintro v7 w7 ⟨rfl, c7⟩
          have k7 := HK1.out w7 (C0.out.drew.trans0 c7)
          refine ⟨fun _ _ => k7, ?_⟩
          simp only [List.setIfInBounds_toArray, List.set_cons_zero, List.set_cons_succ]
          refine wpAnyL_pure (v := ?vb8) 8 36 rfl rfl (by kernel_rfl) (by kernel_rfl) (by kernel_rfl) (by rfl) (fun _ _ _ h => h) ?hyb8 ?restb8
          case hyb8 => intro w; go_simp; with_reducible rfl
          simp only [List.setIfInBounds_toArray, List.set_cons_zero, List.set_cons_succ]
          refine wpAnyL_call (f := 140) (args := #[.slice (some ⟨g, 0, none⟩) r.now.length nc, intV i, .agg #[.bool true, .bool true, strV (pad p)]]) 9 37 rfl rfl (by kernel_rfl) (by rfl) ?hrb9 (fun v w' => ∃ a c, v = .slice a (Ref.setL r.now i ⟨true, true, pad p⟩).length c ∧ Own w' 91 3 v (Ref.setL r.now i ⟨true, true, pad p⟩).length (slotCells (Ref.setL r.now i ⟨true, true, pad p⟩)) ∧ Chg [] w7 w' ∧ ∀ k ∈ ownBlk v, w7.heap.size ≤ k) ?hcb9 ?restb9
          case hrb9 => go_simp
          case hcb9 => exact (HSE.out w7 (C0.out.drew.trans0 c7)).mono fun e w' ⟨v, h1, h2, h3, h4⟩ => (by obtain ⟨a, c, h5, -, -⟩ := h2.shape; exact ⟨v, h1, a, c, h5, h2, h3, h4⟩)
          rintro v9 w9 ⟨a9, n9, rfl, o9, c9, m9⟩
          have C9 := Lib.hid ((C0.out.drew.trans0 c7).trans0 c9)
          have k9 := HK1.out w9 C9.out
          have z9 := HF1.out w9 C9.out
          refine ⟨fun _ _ => k9, ?_⟩
          have HF := Lib.hid (HFIN.out w9 _ o9 C9.out (fun k hk => Nat.le_trans (C0.out.drew.trans0 c7).size (m9 k hk)))
          clear o9 m9 c9 k7
          simp only [List.setIfInBounds_toArray, List.set_cons_zero, List.set_cons_succ]
          refine wpAnyL_pure (v := ?vb10) 10 38 rfl rfl (by kernel_rfl) (by kernel_rfl) (by kernel_rfl) (by rfl) (fun _ _ _ h => h) ?hyb10 ?restb10
          case hyb10 => intro w; go_simp; with_reducible rfl
          simp only [List.setIfInBounds_toArray, List.set_cons_zero, List.set_cons_succ]
          refine wpAnyL_pure (v := ?vb11) 11 39 rfl rfl (by kernel_rfl) (by kernel_rfl) (by kernel_rfl) (by rfl) (fun _ _ _ h => h) ?hyb11 ?restb11
          case hyb11 => intro w; go_simp; with_reducible rfl
          simp only [List.setIfInBounds_toArray, List.set_cons_zero, List.set_cons_succ]
          refine wpAnyL_store (w' := ?wb12) 12 rfl rfl (by kernel_rfl) (by rfl) rfl ?hsb12 ?restb12
          case hsb12 => go_simp; with_reducible rfl
          refine wpAnyL_done (by kernel_rfl) ?_
          go_wp2_with fail
          go_ret
          rw [← HR2.out]
          exact ⟨rfl, HF.out⟩

set_option maxHeartbeats 1000000 in
theorem ref_drop {w : World} {b : RefB} {r : Ref} (h : RefAt w b r) (hok : RefOk r) (l : Int) :
    Calls Tryz.prog 68 #[ptrV b.p, intV l] w fun e w' => e = .returned (intV (r.drop l).1) ∧ RefTo b w w' (r.drop l).2 := by
  have HH := Lib.hid h
  obtain ⟨RES, hRES⟩ : ∃ RES, r.drop l = RES := ⟨_, rfl⟩
  rw [hRES]
  unfold Ref.drop at hRES
  have hat := ref_at h (by have := hok.n; omega) l
  cases ha : r.at_ l with
  | false =>
    rw [ha, if_pos rfl] at hRES
    rw [ha] at hat
    have HAT := Lib.hid hat
    have HRES := Lib.hid hRES
    clear hRES hat h ha
    go_enter Tryz.func68, Tryz.ntmps68
    go_wp2_with (first | (go_at_call 139; (with_reducible refine HAT.out.mono ?_); rintro e w' ⟨rfl, rfl⟩))
    go_ret
    rw [← HRES.out]
    exact ⟨rfl, RefTo.same HH.out (Chg.refl _ _)⟩
  | true =>
    rw [ha, if_neg (by simp)] at hRES
    rw [ha] at hat
    obtain ⟨i, rfl, hi⟩ := Ref.at_yes ha
    rw [Int.toNat_natCast] at hRES
    have HAT := Lib.hid hat
    obtain ⟨na, nc, hnv, -, -⟩ := HH.out.n.shape
    have hnl := hok.n
    have HSE : Hid (Calls Tryz.prog 140 #[b.nv, intV i, .agg #[.bool false, .bool false, .string ⟨#[]⟩]] w fun e w' => ∃ v', e = .returned v' ∧ Own w' 91 3 v' (Ref.setL r.now i RSlot.none).length (slotCells (Ref.setL r.now i RSlot.none)) ∧ Chg [] w w' ∧ ∀ k ∈ ownBlk v', w.heap.size ≤ k) :=
      Lib.hid (ref_set HH.out.n (by omega) i (by omega) RSlot.none)
    have HK1 : Hid (∀ w' : World, Chg [] w w' → w'.cell? ⟨b.p, 1, none⟩ = some b.nv) := Lib.hid fun w' hc => (HH.out.kept0 hc).st.cell 1
    have HF1 : Hid (∀ w' : World, Chg [] w w' → w'.frozen? ⟨b.p, 1, none⟩ = false) := Lib.hid fun w' hc => (HH.out.kept0 hc).st.free 1
    rw [hnv] at HSE HK1
    have kk := HK1.out w (Chg.refl _ _)
    have HR2 := Lib.hid hRES
    clear hRES hat h ha hnv hnl hi
    go_enter Tryz.func68, Tryz.ntmps68
    go_wp2_with (first | (go_at_call 139; (with_reducible refine HAT.out.mono ?_); rintro e w' ⟨rfl, rfl⟩) | (go_at_call 140; (with_reducible refine HSE.out.mono ?_); rintro e w3 ⟨v3, rfl, ho3, hc3, hn3⟩; obtain ⟨ta, tc, rfl, -, -⟩ := ho3.shape; have k3 := HK1.out w3 hc3; have z3 := HF1.out w3 hc3; have HF := Lib.hid (RefTo.put HH.out ho3 hc3 hn3); clear ho3 hc3 hn3))
    go_ret
    rw [← HR2.out]
    exact ⟨rfl, HF.out⟩

theorem ref_abort {w : World} {b : RefB} {r : Ref} (h : RefAt w b r) :
    Calls Tryz.prog 70 #[ptrV b.p] w fun e w' => e = .returned (.tuple #[]) ∧ RefTo b w w' r.abort := by
  obtain ⟨-, k1, k2, -⟩ := h.cells
  have z1 := h.st.free 1
  obtain ⟨na, nc, hnv, -, -⟩ := h.n.shape
  obtain ⟨oa, oc, hov, -, -⟩ := h.o.shape
  have hc2 : Chg [b.p] w (w.setCell ⟨b.p, 1, none⟩ b.ov) := (Chg.refl _ _).setCell _ _ (.inl (by simp))
  have hf : RefTo b w (w.setCell ⟨b.p, 1, none⟩ b.ov) r.abort := by
    refine ⟨{ b with nv := b.ov }, rfl, ⟨h.st.set 1 b.ov, h.o.other _ _ h.po, h.o.other _ _ h.po, h.po, h.po⟩, hc2, fun k hk => .inl ?_⟩
    simp only [RefB.set, List.mem_cons, List.mem_append] at hk ⊢
    rcases hk with hk | hk | hk <;> simp [hk]
  rw [hov] at k2 hf
  rw [hnv] at k1
  have HF := Lib.hid hf
  clear h hnv hov hc2 hf
  go_enter Tryz.func70, Tryz.ntmps70
  go_wp2_with fail
  go_end0
  exact ⟨rfl, HF.out⟩

end Go.Proofs.YtjbpdgknhbnfgaaGreat

namespace Go.Proofs.YtjbpdgknhbnfgaaGreat
open Go.RowKit
set_option maxRecDepth 100000

theorem trim_nil : Ref.trim [] = [] := rfl
theorem trim_yes (l : List RSlot) (x : RSlot) (h : x.is = true) : Ref.trim (l ++ [x]) = l ++ [x] := by
  unfold Ref.trim
  rw [List.reverse_append, List.reverse_singleton, List.singleton_append, List.dropWhile_cons]
  simp [h]
theorem trim_no (l : List RSlot) (x : RSlot) (h : x.is = false) : Ref.trim (l ++ [x]) = Ref.trim l := by
  unfold Ref.trim
  rw [List.reverse_append, List.reverse_singleton, List.singleton_append, List.dropWhile_cons]
  simp [h]
theorem trim_take_yes (N : List RSlot) (k : Nat) (hk : k < N.length) (h : N[k].is = true) : Ref.trim (N.take (k + 1)) = N.take (k + 1) := by
  rw [List.take_succ_eq_append_getElem hk, trim_yes _ _ h]
theorem trim_take_no (N : List RSlot) (k : Nat) (hk : k < N.length) (h : N[k].is = false) : Ref.trim (N.take (k + 1)) = Ref.trim (N.take k) := by
  rw [List.take_succ_eq_append_getElem hk, trim_no _ _ h]

theorem slotCells_row (L : List RSlot) (i : Nat) (h : i < L.length) : ((slotCells L).drop (i * 3)).take 3 = L[i].cells := by
  apply List.ext_getElem?
  intro j
  rw [List.getElem?_take]
  by_cases hj : j < 3
  · rw [if_pos hj, List.getElem?_drop, slotCells_at L i h j hj]
  · rw [if_neg hj, List.getElem?_eq_none (by simp [RSlot.cells]; omega)]
theorem slot_row {w : World} {v : Value} {L : List RSlot} (h : Own w 91 3 v L.length (slotCells L)) (i : Nat) (hi : i < L.length) :
    ∃ g cap, v = .slice (some ⟨g, 0, none⟩) L.length cap ∧ PtrRow w (.pointer (some ⟨g, i * 3, none⟩)) 3 ∧ rowOf w (.pointer (some ⟨g, i * 3, none⟩)) 3 = #[.bool L[i].is, .bool L[i].fresh, strV L[i].b] := by
  obtain ⟨g, cap, cur, hv, hob, ⟨T, hB⟩, hn, hcm, hcl, hct⟩ := h.pos (by omega)
  refine ⟨g, cap, hv, PtrRow.mk' hB (by omega), ?_⟩
  rw [rowOf_blk hB]
  have e : (cur.drop (i * 3)).take 3 = L[i].cells := by
    rw [← slotCells_row L i hi, ← hct, List.drop_take, List.take_take, Nat.min_eq_left (by omega)]
  rw [e]
  rfl
theorem load_slot {ρ : Operand → Value} {w : World} {x : Operand} {dst type pos after guard} (h : PtrRow w (ρ x) 3) :
    (execOp ρ { dst := dst, op := .load 91 x, type := type, pos := pos, after := after, guard := guard }).run Tryz.prog w = .ok (.value (.agg (rowOf w (ρ x) 3))) w :=
  exec_load_agg Tryz.underlying91 rfl size_slot h

def unfr (x : RSlot) : RSlot := { x with fresh := false }
theorem next_take (r : Ref) (k : Nat) (h : Ref.trim r.now = r.now.take k) : r.next = (r.now.take k).map unfr := by
  unfold Ref.next
  rw [h]
  rfl
theorem unfr_succ (N : List RSlot) (k : Nat) (hk : k < N.length) : slotCells ((N.take (k + 1)).map unfr) = slotCells ((N.take k).map unfr) ++ [.bool N[k].is, .bool false, strV N[k].b] := by
  rw [List.take_succ_eq_append_getElem hk, List.map_append, List.map_singleton, slotCells_snoc]
  rfl

structure NextSt (w wr : World) (N : List RSlot) (k : Nat) (v : Value) : Prop where
  own : Own wr 91 3 v k (slotCells ((N.take k).map unfr))
  new : ∀ x ∈ ownBlk v, w.heap.size ≤ x
  chg : Chg [] w wr
theorem NextSt.next {w wr wx w3 : World} {N : List RSlot} {k c3 : Nat} {v : Value} {ad3 : Option Addr} (h : NextSt w wr N k v) (hk : k < N.length)
    (hx : Chg [] wr wx) (hown : Own w3 91 3 (.slice ad3 (k + 1) c3) (k + 1) (slotCells ((N.take k).map unfr) ++ [.bool N[k].is, .bool false, strV N[k].b]))
    (hc : Chg (ownBlk v) wx w3) (hg : ∀ k' ∈ ownBlk (.slice ad3 (k + 1) c3), k' ∈ ownBlk v ∨ wx.heap.size ≤ k') : NextSt w w3 N (k + 1) (.slice ad3 (k + 1) c3) := by
  rw [← unfr_succ N k hk] at hown
  have h1 := h.chg.size
  have h2 := hx.size
  refine ⟨hown, fun k' hk' => ?_, (h.chg.trans0 hx).trans hc fun g hg' => .inr (h.new g hg')⟩
  rcases hg k' hk' with h3 | h3
  · exact h.new k' h3
  · omega

attribute [local go_sem ↓] store_slot load_slot

set_option maxHeartbeats 2000000 in
theorem ref_next {w : World} {b : RefB} {r : Ref} (h : RefAt w b r) (hn : r.now.length ≤ 60000) :
    Calls Tryz.prog 19 #[ptrV b.p] w fun e w' => ∃ v, e = .returned v ∧ Own w' 91 3 v r.next.length (slotCells r.next) ∧ Chg [] w w' ∧ ∀ x ∈ ownBlk v, w.heap.size ≤ x := by
  obtain ⟨na, nc, hnv, hn1, hn2⟩ := h.n.shape
  have HK : Hid (∀ wr : World, Chg [] w wr → wr.cell? ⟨b.p, 1, none⟩ = some (.slice na r.now.length nc)) := Lib.hid fun wr hc => by rw [← hnv]; exact (h.kept0 hc).st.cell 1
  have HN : Hid (∀ wr : World, Chg [] w wr → Own wr 91 3 (.slice na r.now.length nc) r.now.length (slotCells r.now)) := Lib.hid fun wr hc => by rw [← hnv]; exact (h.kept0 hc).n
  have HX : Hid (∀ k, Ref.trim r.now = r.now.take k → r.next = (r.now.take k).map unfr) := Lib.hid (next_take r)
  generalize r.next = RES at *
  generalize r.now = N at *
  clear h hnv
  have k1 := HK.out w (Chg.refl _ _)
  go_enter Tryz.func19, Tryz.ntmps19
  go_upto_block 0 with (fail)
  clear k1
  have HN0 := Lib.hid hn
  go_cut [4] (fun n wx => ∃ k : Nat, k ≤ N.length ∧ n = .int .i64 k ∧ Ref.trim N = N.take k ∧ Chg [] w wx)
  case first =>
    go_wp2_with fail
    go_loopw [4] (fun n wr => ∃ k : Nat, k ≤ N.length ∧ n = .int .i64 k ∧ Ref.trim N = Ref.trim (N.take k) ∧ Chg [] w wr) (fun n _ => (intOf n).toNat)
    case atStart => exact ⟨N.length, Nat.le_refl _, rfl, by rw [List.take_length], Chg.refl _ _⟩
    case round =>
      obtain ⟨k, hk, rfl, ht, hc⟩ := hrel
      have HT := Lib.hid ht
      have HC := Lib.hid hc
      have k1 := HK.out _ hc
      clear ht
      rcases k with _ | k
      · clear hk hn
        go_wp2_with fail
        go_meet
        case rel => exact ⟨0, Nat.zero_le _, rfl, by rw [HT.out]; simp [trim_nil], HC.out⟩
      · have hlt : k < N.length := hk
        obtain ⟨g, cap, hv, -, -, c0, -⟩ := slot_cells (HN.out _ hc) k hlt
        simp only [Value.slice.injEq] at hv
        obtain ⟨rfl, -, rfl⟩ := hv
        have hsub : ((k + 1 : Nat) : Int) - 1 = (k : Int) := by omega
        have hd : decide (0 < ((k + 1 : Nat) : Int)) = true := by simp
        have hkI : (k : Int) < (N.length : Int) := by omega
        have hkb : (k : Int) ≤ 60000 := by omega
        have HKL := Lib.hid hk
        obtain ⟨x, hx⟩ : ∃ x, N[k].is = x := ⟨_, rfl⟩
        have c1 : wr.cell? ⟨g, k * 3, none⟩ = some (.bool x) := by rw [← hx]; exact c0
        have HX := Lib.hid hx
        clear hx hk hc c0
        cases x with
        | true =>
          go_wp2_with fail
          go_meet
          case rel => exact ⟨k + 1, HKL.out, rfl, by rw [HT.out, trim_take_yes N k (by have := HKL.out; omega) HX.out], HC.out⟩
        | false =>
          go_wp2_with fail
          go_roundw
          case rel => exact ⟨k, by have := HKL.out; omega, by go_num, by rw [HT.out, trim_take_no N k (by have := HKL.out; omega) HX.out], HC.out⟩
          case measure => simp [intOf]
  case rest =>
    obtain ⟨K, hK, rfl, hT, hc⟩ := hcut
    have HRES := Lib.hid (HX.out K hT)
    have HCX := Lib.hid hc
    clear HX hT hc
    have hKb : (K : Int) ≤ 60000 := by omega
    go_wp2_with fail
    go_loopg [3, 5] K (fun m v i wr => ∃ (k c : Nat) (ad : Option Addr), m + k = K ∧ i = .int .i64 k ∧ v = .slice ad k c ∧ k ≤ c ∧ c ≤ maxLen ∧ NextSt w wr N k (.slice ad k c))
    case atStart => exact ⟨0, 0, none, by omega, rfl, rfl, Nat.le_refl _, by unfold maxLen; omega, Own.bare _ _ _ _, by simp [ownBlk], HCX.out⟩
    case round =>
      obtain ⟨k, c, ad, hk, rfl, rfl, hkc, hcm, hs⟩ := hrel
      have HS := Lib.hid hs
      clear hs
      by_cases hlt : k < K
      · have hltI : (k : Int) < (K : Int) := by omega
        have hkn : k < N.length := by omega
        have hknI : (k : Int) < (N.length : Int) := by omega
        have k1 := HK.out _ HS.out.chg
        obtain ⟨g, cap, hv, hpr, hro⟩ := slot_row (HN.out _ HS.out.chg) k hkn
        simp only [Value.slice.injEq] at hv
        obtain ⟨rfl, -, rfl⟩ := hv
        obtain ⟨m, rfl⟩ : ∃ m, gk = m + 1 := ⟨gk - 1, by omega⟩
        have hkb : (k : Int) ≤ 60000 := by omega
        go_wp2_with (refine wpList_append rfl (.tmp 41) (.tmp 43) 43 43 rfl 91 3 24 (.agg #[.bool false, .bool false, .string ⟨#[]⟩]) Tryz.underlying43 info_slot rfl (by omega) (.slice ad k c) k 1 (slotCells ((N.take k).map unfr)) [.bool N[k].is, .bool false, strV N[k].b] rfl (by exact (HS.out.own.alloc _).alloc _) (by exact src_new' Tryz.underlying43 _ 91 [.bool N[k].is, .bool false, strV N[k].b] _ 1 1 (by simp) rfl (by simp [Value.oneCell'])) (by omega) (by unfold maxLen; omega) ?_; intro ad3 c3 w3 hown3 hc3 hg3 hcm3 hnc3; have S3 := Lib.hid (HS.out.next hkn (((Chg.refl [] wr).alloc _).alloc _) hown3 hc3 hg3); clear hown3 hc3 hg3)
        go_roundg m
        case measure => omega
        case rel => exact ⟨k + 1, c3, ad3, by omega, by go_num, rfl, hnc3, hcm3, S3.out⟩
      · obtain rfl : k = K := by omega
        go_wp2_with fail
        go_ret
        rw [HRES.out]
        have hl : ((N.take k).map unfr).length = k := by rw [List.length_map, List.length_take]; omega
        have ho := HS.out.own
        exact ⟨_, rfl, by rw [hl]; exact ho, HS.out.chg, HS.out.new⟩

end Go.Proofs.YtjbpdgknhbnfgaaGreat

namespace Go.Proofs.YtjbpdgknhbnfgaaGreat
open Go.RowKit
set_option maxRecDepth 100000

theorem RefTo.commit {w w' : World} {b : RefB} {r : Ref} {v : Value} {L : List RSlot} (h : RefAt w b r) (ho : Own w' 91 3 v L.length (slotCells L)) (hc : Chg [] w w') (hn : ∀ k ∈ ownBlk v, w.heap.size ≤ k) :
    RefTo b w (((w'.setCell ⟨b.p, 2, none⟩ v).setCell ⟨b.p, 1, none⟩ v).setCell ⟨b.p, 3, none⟩ (intV (r.epoch + 1))) { r with now := L, old := L, epoch := r.epoch + 1 } := by
  have h2 := h.kept0 hc
  have hlt := h.st.lt
  have hpv : b.p ∉ ownBlk v := fun hm => by have := hn _ hm; omega
  have hc2 : Chg [b.p] w' (((w'.setCell ⟨b.p, 2, none⟩ v).setCell ⟨b.p, 1, none⟩ v).setCell ⟨b.p, 3, none⟩ (intV (r.epoch + 1))) := (((Chg.refl _ _).setCell _ _ (.inl (by simp))).setCell _ _ (.inl (by simp))).setCell _ _ (.inl (by simp))
  have hov : Own (((w'.setCell ⟨b.p, 2, none⟩ v).setCell ⟨b.p, 1, none⟩ v).setCell ⟨b.p, 3, none⟩ (intV (r.epoch + 1))) 91 3 v L.length (slotCells L) := ((ho.other _ _ hpv).other _ _ hpv).other _ _ hpv
  refine ⟨{ b with nv := v, ov := v }, rfl, ⟨((h2.st.set 2 v).set 1 v).set 3 (intV (r.epoch + 1)), hov, hov, hpv, hpv⟩, (hc.mono (by simp)).trans1 hc2, fun k hk => ?_⟩
  simp only [RefB.set, List.mem_cons, List.mem_append] at hk ⊢
  rcases hk with hk | hk | hk
  · simp [hk]
  · exact .inr (hn k hk)
  · exact .inr (hn k hk)

theorem Ref.next_len (r : Ref) : r.next.length ≤ r.now.length := by
  unfold Ref.next Ref.trim
  rw [List.length_map, List.length_reverse]
  exact Nat.le_trans (List.dropWhile_sublist _).length_le (by simp)

set_option maxHeartbeats 2000000 in
theorem ref_commit {w : World} {b : RefB} {r : Ref} (h : RefAt w b r) (hok : RefOk r) (hep : 0 ≤ r.epoch ∧ r.epoch ≤ 1152921504606846976) :
    Calls Tryz.prog 69 #[ptrV b.p] w fun e w' => e = .returned (intV r.commit.1) ∧ RefTo b w w' r.commit.2 := by
  have HH := Lib.hid h
  obtain ⟨RES, hRES⟩ : ∃ RES, r.commit = RES := ⟨_, rfl⟩
  rw [hRES]
  unfold Ref.commit at hRES
  have hnl := hok.n
  have hol := hok.o
  have hmm := hok.m
  have hnx : r.next.length ≤ 512 := Nat.le_trans r.next_len hnl
  have HN : Hid (Calls Tryz.prog 19 #[ptrV b.p] w fun e w' => ∃ v, e = .returned v ∧ (∃ a c, v = .slice a r.next.length c) ∧ Own w' 91 3 v r.next.length (slotCells r.next) ∧ Chg [] w w' ∧ ∀ x ∈ ownBlk v, w.heap.size ≤ x) :=
    Lib.hid ((ref_next h (by omega)).mono fun e w' ⟨v, h1, h2, h3, h4⟩ => ⟨v, h1, (by obtain ⟨a, c, h5, -, -⟩ := h2.shape; exact ⟨a, c, h5⟩), h2, h3, h4⟩)
  have HF : Hid (∀ w', Chg [] w w' → Calls Tryz.prog 73 #[ptrV b.p] w' fun e w'' => e = .returned (intV r.free) ∧ ∃ k, w'' = w'.drewN k) := Lib.hid fun w' hc => ref_free (HH.out.kept0 hc) (by omega) (by omega) hmm
  have HD : Hid (∀ w', Calls Tryz.prog 141 #[intV r.next.length] w' fun e w'' => e = .returned (intV (rootNeed r.next.length)) ∧ w' = w'') := Lib.hid fun w' => ref_need _ w' (by omega) (by omega)
  have HP : Hid (∀ (w' : World) (v : Value), Own w' 91 3 v r.next.length (slotCells r.next) → Chg [] w w' → (∀ k ∈ ownBlk v, w.heap.size ≤ k) → RefTo b w (((w'.setCell ⟨b.p, 2, none⟩ v).setCell ⟨b.p, 1, none⟩ v).setCell ⟨b.p, 3, none⟩ (intV (r.epoch + 1))) { r with now := r.next, old := r.next, epoch := r.epoch + 1 }) := Lib.hid fun w' v h1 h2 h3 => RefTo.commit HH.out h1 h2 h3
  have HS : Hid (∀ w', Chg [] w w' → w'.cell? ⟨b.p, 3, none⟩ = some (intV r.epoch) ∧ w'.frozen? ⟨b.p, 1, none⟩ = false ∧ w'.frozen? ⟨b.p, 2, none⟩ = false ∧ w'.frozen? ⟨b.p, 3, none⟩ = false ∧ w'.cell? ⟨b.p, 1, none⟩ = some b.nv ∧ w'.cell? ⟨b.p, 2, none⟩ = some b.ov) := Lib.hid fun w' hc => by
    have := (HH.out.kept0 hc).st
    exact ⟨this.cell 3, this.free 1, this.free 2, this.free 3, this.cell 1, this.cell 2⟩
  generalize r.next = NX at *
  by_cases hf : r.free < rootNeed NX.length
  · rw [if_pos hf] at hRES
    have HRES := Lib.hid hRES
    have z1 : decide (r.free < rootNeed NX.length) = true := by simpa using hf
    clear hRES hf h
    go_enter Tryz.func69, Tryz.ntmps69
    go_wp2_with (first | (go_at_call 19; (with_reducible refine HN.out.mono ?_); rintro e w1 ⟨v, rfl, ⟨va, vc, rfl⟩, o1, c1, n1⟩; have C1 := Lib.hid c1; have O1 := Lib.hid o1; have N1 := Lib.hid n1; have S1 := HS.out w1 c1; clear o1 c1 n1) | (go_at_call 141; (with_reducible refine (HD.out _).mono ?_); rintro e w2 ⟨rfl, rfl⟩) | (go_at_call 73; (with_reducible refine (HF.out _ C1.out).mono ?_); rintro e w3 ⟨rfl, nq, rfl⟩))
    go_ret
    rw [← HRES.out]
    exact ⟨rfl, RefTo.same HH.out (C1.out.drewN _)⟩
  · rw [if_neg hf] at hRES
    have HRES := Lib.hid hRES
    have z1 : decide (r.free < rootNeed NX.length) = false := by simpa using hf
    have hw : IntKind.i64.wrap (r.epoch + 1) = r.epoch + 1 := IntWalk.i64_in _ (by omega)
    clear hRES hf h
    go_enter Tryz.func69, Tryz.ntmps69
    go_wp2_with (first | (go_at_call 19; (with_reducible refine HN.out.mono ?_); rintro e w1 ⟨v, rfl, ⟨va, vc, rfl⟩, o1, c1, n1⟩; have C1 := Lib.hid c1; have O1 := Lib.hid o1; have N1 := Lib.hid n1; have S1 := HS.out w1 c1; clear o1 c1 n1) | (go_at_call 141; (with_reducible refine (HD.out _).mono ?_); rintro e w2 ⟨rfl, rfl⟩) | (go_at_call 73; (with_reducible refine (HF.out _ C1.out).mono ?_); rintro e w3 ⟨rfl, nq, rfl⟩))
    go_ret
    rw [← HRES.out]
    exact ⟨rfl, HP.out _ _ (O1.out.drewN _) (C1.out.drewN _) N1.out⟩

end Go.Proofs.YtjbpdgknhbnfgaaGreat

namespace Go.Proofs.YtjbpdgknhbnfgaaGreat
open Go.RowKit
set_option maxRecDepth 100000

/-! plain -/
theorem range_filter_more : ∀ (n k : Nat) (p : Nat → Bool), (∀ i, n ≤ i → p i = false) → (List.range (n + k)).filter p = (List.range n).filter p
  | _, 0, _, _ => rfl
  | n, k + 1, p, h => by
    rw [← Nat.add_assoc, List.range_succ, List.filter_append, range_filter_more n k p h]
    simp [h (n + k) (by omega)]
theorem filter_range_eq {n m : Nat} (hn : n ≤ 512) (hm : m ≤ 512) (p q s : Nat → Bool) (h1 : ∀ i, i < n → p i = s i) (h2 : ∀ i, i < m → q i = s i) (g1 : ∀ i, n ≤ i → s i = false) (g2 : ∀ i, m ≤ i → s i = false) : (List.range n).filter p = (List.range m).filter q := by
  have e1 : (List.range n).filter p = (List.range n).filter s := List.filter_congr fun i hi => h1 i (List.mem_range.1 hi)
  have e2 : (List.range m).filter q = (List.range m).filter s := List.filter_congr fun i hi => h2 i (List.mem_range.1 hi)
  obtain ⟨k, hk⟩ : ∃ k, 512 = n + k := ⟨512 - n, by omega⟩
  obtain ⟨j, hj⟩ : ∃ j, 512 = m + j := ⟨512 - m, by omega⟩
  rw [e1, e2, ← range_filter_more n k s g1, ← hk, ← range_filter_more m j s g2, ← hj]

theorem Store.Rel.pages {S : Store} {r : Ref} (h : S.Rel r) : S.pages = Ref.pages r.now := by
  unfold Store.pages Ref.pages
  congr 1
  have hkey : ∀ i, decide (0 ≤ tabF S.table i) = (Ref.slot r.now i).is := fun i => by
    have hi := Ref.nowF_is r.now i
    cases hx : Ref.nowF r.now i with
    | none =>
      rw [hx] at hi
      have := h.core.now0 i hx
      rw [this]
      cases h2 : (Ref.slot r.now i).is with
      | false => rfl
      | true => rw [h2] at hi; cases hi
    | some x =>
      rw [hx] at hi
      obtain ⟨n, h1, -⟩ := h.core.now1 i x.1 x.2 hx
      rw [h1]
      cases h2 : (Ref.slot r.now i).is with
      | false => rw [h2] at hi; cases hi
      | true => simp
  refine filter_range_eq h.ok.tl h.nl _ _ (fun i => decide (0 ≤ tabF S.table i)) (fun i hi => ?_) (fun i _ => (hkey i).symm) (fun i hi => ?_) (fun i hi => ?_)
  · have : tabF S.table i = S.table.getD i 0 := by simp [tabF, List.getD, hi]
    rw [this]
  · have : tabF S.table i = -1 := by unfold tabF; rw [List.getD, List.getElem?_eq_none hi]; rfl
    show decide (0 ≤ tabF S.table i) = false
    rw [this]
    rfl
  · show decide (0 ≤ tabF S.table i) = false
    rw [hkey, Ref.slot_far hi]
    rfl

theorem Store.Rel.count {S : Store} {r : Ref} (h : S.Rel r) : ∃ u : Nat, FMap.countV S.m = .tuple #[intV r.free, intV u, intV r.freshN, intV r.leaving] ∧ (u : Int) + r.leaving = r.kept ∧ u ≤ 1024 := by
  refine ⟨List.countP (fun x => x == 1) S.m, ?_, ?_, ?_⟩
  · unfold FMap.countV
    rw [list_len, list_len, list_len, list_len, h.free, h.core.c2, h.core.c3, ← Ref.freshN_eq r h.nl, ← Ref.leaving_eq r h.ol2]
  · rw [h.kept, h.core.c3, ← Ref.leaving_eq r h.ol2]
    omega
  · have h1 : List.countP (fun x => x == 1) S.m ≤ S.m.length := List.countP_le_length
    have h2 := (Disk.pages_le S.d).2
    have h3 := h.core.len
    omega

def Ref.Aged (r : Ref) : Prop := ∀ x ∈ r.old, x.fresh = false
theorem Ref.next_aged (r : Ref) : ∀ x ∈ r.next, x.fresh = false := fun x hx => by
  unfold Ref.next at hx
  obtain ⟨y, -, rfl⟩ := List.mem_map.1 hx
  rfl
theorem Ref.new_old (r : Ref) (p : Bytes) : (r.new p).2.2.old = r.old ∧ (r.new p).2.2.epoch = r.epoch := by
  unfold Ref.new
  split
  · exact ⟨rfl, rfl⟩
  · split <;> exact ⟨rfl, rfl⟩
theorem Ref.write_old (r : Ref) (l : Int) (p : Bytes) : (r.write l p).2.old = r.old ∧ (r.write l p).2.epoch = r.epoch := by
  unfold Ref.write
  split
  · exact ⟨rfl, rfl⟩
  · split
    · exact ⟨rfl, rfl⟩
    · split <;> exact ⟨rfl, rfl⟩
theorem Ref.drop_old (r : Ref) (l : Int) : (r.drop l).2.old = r.old ∧ (r.drop l).2.epoch = r.epoch := by
  unfold Ref.drop
  split <;> exact ⟨rfl, rfl⟩
theorem Ref.commit_aged (r : Ref) (h : r.Aged) : r.commit.2.Aged := by
  unfold Ref.commit
  split
  · exact h
  · exact r.next_aged
theorem Ref.commit_epoch (r : Ref) : r.commit.2.epoch = r.epoch ∨ r.commit.2.epoch = r.epoch + 1 := by
  unfold Ref.commit
  split
  · exact .inl rfl
  · exact .inr rfl

/-! in memory -/
structure ShadIs (w : World) (b : StoreB) (r : Ref) : Prop where
  ex : ∃ S, StoreAt w b S ∧ S.Rel r
  aged : r.Aged
def ShadTo (b : StoreB) (w w' : World) (r' : Ref) : Prop := ∃ b', b'.sd = b.sd ∧ ShadIs w' b' r' ∧ Grew b.set b'.set w w'
theorem ShadIs.lt {w : World} {b : StoreB} {r : Ref} (h : ShadIs w b r) : ∀ k ∈ b.set, k < w.heap.size := by
  obtain ⟨S, h1, -⟩ := h.ex
  exact h1.lt
theorem ShadIs.kept {w w' : World} {F : List Nat} {b : StoreB} {r : Ref} (h : ShadIs w b r) (hc : Chg F w w') (hn : ∀ k ∈ b.set, k ∉ F) : ShadIs w' b r := by
  obtain ⟨S, h1, h2⟩ := h.ex
  exact ⟨⟨S, h1.kept hc hn, h2⟩, h.aged⟩
theorem ShadIs.kept0 {w w' : World} {b : StoreB} {r : Ref} (h : ShadIs w b r) (hc : Chg [] w w') : ShadIs w' b r := h.kept hc (by simp)
theorem ShadIs.refOk {w : World} {b : StoreB} {r : Ref} (h : ShadIs w b r) : RefOk r := by
  obtain ⟨S, -, h2⟩ := h.ex
  have h3 := (Disk.pages_le S.d).2
  have h4 := h2.many
  exact ⟨h2.nl, h2.ol2, by omega, by omega⟩
theorem StoreTo.shad {b : StoreB} {w w' : World} {S' : Store} {r' : Ref} (h : StoreTo b w w' S') (h1 : S'.Rel r') (h2 : r'.Aged) : ShadTo b w w' r' := by
  obtain ⟨b', e, h3, g⟩ := h
  exact ⟨b', e, ⟨⟨S', h3, h1⟩, h2⟩, g⟩

theorem shad_new {w : World} {b : StoreB} {r : Ref} (h : ShadIs w b r) (p : Bytes) (hp : p.length ≤ 60000) :
    Calls Tryz.prog 28 #[ptrV b.s, strV p] w fun e w' => e = .returned (.tuple #[intV (r.new p).1, intV (r.new p).2.1]) ∧ ShadTo b w w' (r.new p).2.2 := by
  obtain ⟨S, h1, h2⟩ := h.ex
  obtain ⟨e1, e2, e3⟩ := h2.new p
  rw [← e1, ← e2]
  exact (store_new h1 h2.ok p hp).mono fun e w' ⟨g1, g2⟩ => ⟨g1, g2.shad e3 (fun x hx => h.aged x (by rw [(r.new_old p).1] at hx; exact hx))⟩
theorem shad_write {w : World} {b : StoreB} {r : Ref} (h : ShadIs w b r) (l : Int) (p : Bytes) (hp : p.length ≤ 60000) :
    Calls Tryz.prog 32 #[ptrV b.s, intV l, strV p] w fun e w' => e = .returned (intV (r.write l p).1) ∧ ShadTo b w w' (r.write l p).2 := by
  obtain ⟨S, h1, h2⟩ := h.ex
  obtain ⟨e1, e3⟩ := h2.write l p
  rw [← e1]
  exact (store_write h1 h2.ok l p hp).mono fun e w' ⟨g1, g2⟩ => ⟨g1, g2.shad e3 (fun x hx => h.aged x (by rw [(r.write_old l p).1] at hx; exact hx))⟩
theorem shad_drop {w : World} {b : StoreB} {r : Ref} (h : ShadIs w b r) (l : Int) :
    Calls Tryz.prog 33 #[ptrV b.s, intV l] w fun e w' => e = .returned (intV (r.drop l).1) ∧ ShadTo b w w' (r.drop l).2 := by
  obtain ⟨S, h1, h2⟩ := h.ex
  obtain ⟨e1, e3⟩ := h2.drop l
  rw [← e1]
  exact (store_drop h1 h2.ok l).mono fun e w' ⟨g1, g2⟩ => ⟨g1, g2.shad e3 (fun x hx => h.aged x (by rw [(r.drop_old l).1] at hx; exact hx))⟩
theorem shad_abort {w : World} {b : StoreB} {r : Ref} (h : ShadIs w b r) :
    Calls Tryz.prog 35 #[ptrV b.s] w fun e w' => e = .returned (.bool true) ∧ ShadTo b w w' r.abort := by
  obtain ⟨S, h1, h2⟩ := h.ex
  have ho : S.old.length ≤ 60000 := by have := h2.ol; have := h2.ol2; omega
  exact (store_abort h1 ho).mono fun e w' ⟨g1, g2⟩ => ⟨g1, g2.shad (h2.abort h.aged) h.aged⟩
theorem shad_commit {w : World} {b : StoreB} {r : Ref} (h : ShadIs w b r) (hep : r.epoch ≤ 1099511627774) :
    Calls Tryz.prog 34 #[ptrV b.s] w fun e w' => e = .returned (intV r.commit.1) ∧ ShadTo b w w' r.commit.2 := by
  obtain ⟨S, h1, h2⟩ := h.ex
  have hse : S.epoch ≤ 1099511627774 := by rw [h2.ep]; exact hep
  obtain ⟨e1, e3⟩ := h2.commit hse
  have hp5 : S.parts.length ≤ 5 := by
    have h3 := h2.pl
    have h4 := h2.ol
    have h5 := h2.ol2
    have := rootNeed_le (n := (S.old.length : Int)) (by omega) (by omega)
    omega
  rw [← e1]
  by_cases hf : S.need ≤ ((FMap.list S.m 0).length : Int)
  · obtain ⟨D1, D2, D3, D4, P⟩ := h2.plan hse hf
    refine (store_commit_of h1 h2.ok h2.br h2.rt.sl hp5 P.laid fun _ w1 b1 pv g1 g2 g3 => ?_).mono fun e w' ⟨g1, g2⟩ => ⟨g1, g2.shad e3 (r.commit_aged h.aged)⟩
    exact store_lay_ok g1 P.ok h2.up S.taken.1 g2 g3 P.ids P.right h2.rt.sl P.two P.e1 P.e2 P.e3 P.e4
  · obtain ⟨D', hl⟩ := S.laid_keeps
    exact (store_commit_of h1 h2.ok h2.br h2.rt.sl hp5 hl fun hc => absurd hc hf).mono fun e w' ⟨g1, g2⟩ => ⟨g1, g2.shad e3 (r.commit_aged h.aged)⟩
theorem shad_epoch {w : World} {b : StoreB} {r : Ref} (h : ShadIs w b r) :
    Calls Tryz.prog 27 #[ptrV b.s] w fun e w' => e = .returned (intV r.epoch) ∧ w = w' := by
  obtain ⟨S, h1, h2⟩ := h.ex
  rw [← h2.ep]
  exact store_epoch h1
theorem shad_count {w : World} {b : StoreB} {r : Ref} (h : ShadIs w b r) :
    Calls Tryz.prog 23 #[ptrV b.s] w fun e w' => ∃ u : Nat, e = .returned (.tuple #[intV r.free, intV u, intV r.freshN, intV r.leaving]) ∧ (u : Int) + r.leaving = r.kept ∧ u ≤ 1024 ∧ Chg [] w w' := by
  obtain ⟨S, h1, h2⟩ := h.ex
  obtain ⟨u, e1, e2, e3⟩ := h2.count
  exact (store_count h1).mono fun e w' ⟨g1, g2⟩ => ⟨u, by rw [g1, e1], e2, e3, g2⟩
theorem shad_pages {w : World} {b : StoreB} {r : Ref} (h : ShadIs w b r) :
    Calls Tryz.prog 36 #[ptrV b.s] w fun e w' => ∃ a c, e = .returned (.slice a (Ref.pages r.now).length c) ∧ Own w' 3 1 (.slice a (Ref.pages r.now).length c) (Ref.pages r.now).length (ints (Ref.pages r.now)) ∧ Chg [] w w' := by
  obtain ⟨S, h1, h2⟩ := h.ex
  rw [← h2.pages]
  exact store_pages h1 h2.ok
theorem shad_read {w : World} {b : StoreB} {r : Ref} (h : ShadIs w b r) (i : Nat) :
    Calls Tryz.prog 29 #[ptrV b.s, intV i] w fun e w' => e = .returned (if (Ref.slot r.now i).is then .tuple #[strV (Ref.slot r.now i).b, intV 0] else .tuple #[strV [], intV 3]) ∧ Chg [] w w' := by
  obtain ⟨S, h1, h2⟩ := h.ex
  refine (store_read h1 h2.ok i).mono fun e w' ⟨g1, g2⟩ => ⟨?_, g2⟩
  rw [g1, h2.read i]
  unfold Ref.nowF
  cases (Ref.slot r.now i).is <;> rfl
theorem shad_open {w : World} {b : StoreB} {r : Ref} (h : ShadIs w b r) :
    Calls Tryz.prog 30 #[ptrV b.d.d] w fun e w' => ∃ sb : StoreB, e = .returned (.tuple #[ptrV sb.s, intV 0]) ∧ sb.d = b.d ∧ ShadIs w' sb r.abort ∧ Chg b.d.set w w' ∧ ∀ k ∈ sb.set, k ∈ b.d.set ∨ w.heap.size ≤ k := by
  obtain ⟨S, h1, h2⟩ := h.ex
  obtain ⟨e1, e2⟩ := h2.opened h.aged
  refine (shadow_open h1.d).mono fun e w' hO => ?_
  unfold Opened OpenedAs at hO
  rw [e1] at hO
  obtain ⟨-, hc, sb, g1, g2, g3, g4⟩ := hO
  exact ⟨sb, g1, g2, ⟨⟨_, g3, e2⟩, h.aged⟩, hc, g4⟩

end Go.Proofs.YtjbpdgknhbnfgaaGreat

namespace Go.Proofs.YtjbpdgknhbnfgaaGreat
open Go.RowKit
set_option maxRecDepth 100000

theorem rootGet_zero : rootGet (padTo 64 []) = none := by kernel_rfl

theorem format_disk (pg : Nat) (h1 : 1 ≤ pg) (h2 : pg ≤ 1000) : ∃ D1 D2 D3 : Disk, (Disk.new (2 + 4 * pg)).write 0 (Root.bytes ⟨1, 0, []⟩) = (0, D1) ∧ D1.write 1 [] = (0, D2) ∧ D2.sync = (0, D3) ∧
    Store.Rel ⟨D3, List.replicate pg 0, [], [], [], 1, 0, false⟩ ⟨pg, [], [], 1⟩ := by
  have h0 := Disk.new_up (2 + 4 * pg) (by omega)
  have hl : (Disk.new (2 + 4 * pg)).loose.length = 2 + 4 * pg := by simp [Disk.new]
  have hnl : (Disk.new (2 + 4 * pg)).now.length = 64 * (2 + 4 * pg) := by simp [Disk.new]
  have hbl : (Root.bytes ⟨1, 0, []⟩).length = 64 := Root.bytes_length _ (by simp)
  have hzl : (padTo 64 []).length = 64 := by simp [padTo]
  obtain ⟨D1, e1, u1, l1, w1⟩ := Disk.write_up h0 0 (by omega) (Root.bytes ⟨1, 0, []⟩)
  obtain ⟨D2, e2, u2, l2, w2⟩ := Disk.write_up u1 1 (by omega) []
  obtain ⟨D3, e3, u3, l3, w3⟩ := Disk.sync_up u2
  have hp : D3.pages = pg := by rw [Store.pages_of_loose (l3.trans (l2.trans l1)), Disk.new_pages pg h2]
  have hn1 : D1.now.length = 64 * (2 + 4 * pg) := by have := u1.ok.now; rw [l1, hl] at this; exact this
  have s1 : Disk.sector D3.now 1 = padTo 64 [] := by
    rw [w3, w2, sector_lay hzl (by omega), if_pos rfl]
  have s0 : Disk.sector D3.now 0 = Root.bytes ⟨1, 0, []⟩ := by
    rw [w3, w2, sector_lay hzl (by omega), if_neg (by omega), w1, padTo_full hbl, sector_lay hbl (by omega), if_pos rfl]
  have hcount : ∀ x : Int, x ≠ 0 → List.countP (fun k => k == x) (List.replicate pg (0 : Int)) = 0 := fun x hx => by
    rw [List.countP_eq_zero]
    intro k hk
    rw [List.eq_of_mem_replicate hk]
    simp
    omega
  have hnone : ∀ i, Ref.nowF [] i = none := fun i => rfl
  have honone : ∀ i, Ref.oldF [] i = none := fun i => rfl
  have htab : ∀ i, tabF [] i = -1 := fun i => rfl
  have hright : Root.right ⟨1, 0, []⟩ = true := Root.right_of ⟨by simp, by simp⟩ ⟨by simp, by simp⟩ (by simp [rootNeed]) (by simp) (by simp)
  refine ⟨D1, D2, D3, e1, e2, e3, ⟨⟨by show (0 : Int) ≤ 1; omega, by show (1 : Int) ≤ _; omega⟩, by simp, by simp [hp], by simp, by simp⟩, u3, by show 1 ≤ D3.pages; omega, rfl, by show (D3.pages : Int) = pg; rw [hp], rfl, by show (1 : Int) ≤ 1; omega, ?_, by simp, rfl, by simp, by simp, by simp [rootNeed], ?_⟩
  · refine ⟨by simp [hp], fun x hx => .inl (List.eq_of_mem_replicate hx), fun i _ => ⟨hnone i, honone i⟩, fun i _ => htab i, fun i f b h => ?_, fun i _ => htab i, fun i b h => ?_, fun i b h => ?_, by simp, fun i j _ h => ?_, fun i j _ h => ?_, fun i h => ?_, by simp, ?_, ?_, ?_⟩
    · rw [show Ref.nowF (⟨pg, [], [], 1⟩ : Ref).now i = none from hnone i] at h; cases h
    · rw [show Ref.oldF (⟨pg, [], [], 1⟩ : Ref).old i = none from honone i] at h; cases h
    · rw [show Ref.nowF (⟨pg, [], [], 1⟩ : Ref).now i = none from hnone i] at h; cases h
    · exact absurd (show (0 : Int) ≤ -1 from h) (by omega)
    · exact absurd (show (0 : Int) ≤ -1 from h) (by omega)
    · exact absurd (show (0 : Int) ≤ -1 from h) (by omega)
    · show List.countP (fun k => k == 1) (List.replicate pg (0 : Int)) = _
      rw [hcount 1 (by omega)]
      have : C (keptB (Ref.nowF [])) = 0 := C_zero fun i => rfl
      exact this.symm
    · show List.countP (fun k => k == 2) (List.replicate pg (0 : Int)) = _
      rw [hcount 2 (by omega)]
      have : C (freshB (Ref.nowF [])) = 0 := C_zero fun i => rfl
      exact this.symm
    · show List.countP (fun k => k == 3) (List.replicate pg (0 : Int)) = _
      rw [hcount 3 (by omega)]
      have : C (leftB (Ref.nowF []) (Ref.oldF [])) = 0 := C_zero fun i => rfl
      exact this.symm
  · refine ⟨.inl rfl, ?_, fun x hx => ?_, fun i p hp => by simp at hp⟩
    · show rootGet (Disk.sector D3.now 0) = _
      rw [s0]
      exact rootGet_bytes _ hright ⟨by simp, by simp⟩ ⟨by simp, by simp⟩ (by simp) (by simp)
    · have hx' : rootGet (Disk.sector D3.now 1) = some x := hx
      rw [s1, rootGet_zero] at hx'
      cases hx'

theorem shad_format {w : World} {b : DiskB} {pg : Nat} (h1 : 1 ≤ pg) (h2 : pg ≤ 1000) (h : DiskAt w b (Disk.new (2 + 4 * pg))) :
    Calls Tryz.prog 31 #[ptrV b.d] w fun e w' => ∃ sb : StoreB, e = .returned (.tuple #[ptrV sb.s, intV 0]) ∧ sb.d = b ∧ ShadIs w' sb ⟨pg, [], [], 1⟩ ∧ Chg b.set w w' ∧ ∀ k ∈ sb.set, k ∈ b.set ∨ w.heap.size ≤ k := by
  obtain ⟨D1, D2, D3, e1, e2, e3, hr⟩ := format_disk pg h1 h2
  have hnp := Disk.new_pages pg h2
  refine (store_format h (by rw [hnp]; omega) e1 e2 e3).mono fun e w' ⟨sb, g1, g2, g3, g4, g5⟩ => ⟨sb, g1, g2, ⟨⟨_, g3, ?_⟩, fun x hx => by simp at hx⟩, g4, g5⟩
  rw [hnp]
  exact hr

/-! side by side -/
structure Two (w0 w : World) (b : StoreB) (rb : RefB) (r rs : Ref) : Prop where
  s : ShadIs w b r
  x : RefAt w rb rs
  ap : ∀ k ∈ b.set, k ∉ rb.set
  sn : ∀ k ∈ b.set, w0.heap.size ≤ k
  xn : ∀ k ∈ rb.set, w0.heap.size ≤ k
  chg : Chg [] w0 w
theorem Two.on0 {w0 w w' : World} {b : StoreB} {rb : RefB} {r rs : Ref} (h : Two w0 w b rb r rs) (hc : Chg [] w w') : Two w0 w' b rb r rs :=
  ⟨h.s.kept0 hc, h.x.kept0 hc, h.ap, h.sn, h.xn, h.chg.trans0 hc⟩
theorem Two.shad {w0 w w' : World} {b : StoreB} {rb : RefB} {r rs r' : Ref} (h : Two w0 w b rb r rs) (g : ShadTo b w w' r') : ∃ b', b'.sd = b.sd ∧ Two w0 w' b' rb r' rs := by
  obtain ⟨b', e, g1, g2⟩ := g
  refine ⟨b', e, g1, h.x.kept g2.chg fun k hk hm => h.ap k hm hk, fun k hk hm => ?_, fun k hk => ?_, h.xn, h.chg.trans g2.chg fun k hk => .inr (h.sn k hk)⟩
  · rcases g2.from_ k hk with h1 | h1
    · exact h.ap k h1 hm
    · have := h.x.lt k hm; omega
  · rcases g2.from_ k hk with h1 | h1
    · exact h.sn k h1
    · have := h.chg.size; omega
theorem Two.opened {w0 w w' : World} {b sb : StoreB} {rb : RefB} {r rs r' : Ref} (h : Two w0 w b rb r rs) (g1 : ShadIs w' sb r') (hc : Chg b.d.set w w') (hs : ∀ k ∈ sb.set, k ∈ b.d.set ∨ w.heap.size ≤ k) : Two w0 w' sb rb r' rs := by
  refine ⟨g1, h.x.kept hc fun k hk hm => h.ap k (d_sub b k hm) hk, fun k hk hm => ?_, fun k hk => ?_, h.xn, h.chg.trans hc fun k hk => .inr (h.sn k (d_sub b k hk))⟩
  · rcases hs k hk with h1 | h1
    · exact h.ap k (d_sub b k h1) hm
    · have := h.x.lt k hm; omega
  · rcases hs k hk with h1 | h1
    · exact h.sn k (d_sub b k h1)
    · have := h.chg.size; omega
theorem Two.ref {w0 w w' : World} {b : StoreB} {rb : RefB} {r rs rs' : Ref} (h : Two w0 w b rb r rs) (g : RefTo rb w w' rs') : ∃ rb', rb'.p = rb.p ∧ Two w0 w' b rb' r rs' := by
  obtain ⟨b', e, g1, g2, g3⟩ := g
  have hp : rb.p ∈ rb.set := by simp [RefB.set]
  refine ⟨b', e, h.s.kept g2 fun k hk hm => ?_, g1, fun k hk hm => ?_, h.sn, fun k hk => ?_, h.chg.trans g2 fun k hk => ?_⟩
  · simp only [List.mem_singleton] at hm
    subst hm
    exact h.ap _ hk hp
  · rcases g3 k hm with h1 | h1
    · exact h.ap k hk h1
    · have := h.s.lt k hk; omega
  · rcases g3 k hk with h1 | h1
    · exact h.xn k h1
    · have := h.chg.size; omega
  · simp only [List.mem_singleton] at hk
    subst hk
    exact .inr (h.xn _ hp)

end Go.Proofs.YtjbpdgknhbnfgaaGreat

namespace Go.Proofs.YtjbpdgknhbnfgaaGreat
open Go.RowKit
set_option maxRecDepth 100000

theorem ShadIs.ep1 {w : World} {b : StoreB} {r : Ref} (h : ShadIs w b r) : 1 ≤ r.epoch := by
  obtain ⟨S, -, h2⟩ := h.ex
  rw [← h2.ep]
  exact h2.ep1

structure Three (w0 w : World) (b : StoreB) (rb : RefB) (r rs : Ref) (X : Nat) (T : TypeId) (cs : List Value) : Prop where
  two : Two w0 w b rb r rs
  bx : Blk w X T cs
  xs : X ∉ b.set
  xr : X ∉ rb.set
section
variable {w0 w w' : World} {b sb : StoreB} {rb : RefB} {r rs r' rs' : Ref} {X : Nat} {T : TypeId} {cs : List Value}
theorem Two.box (h : Two w0 w b rb r rs) (T : TypeId) (cs : List Value) : Three w0 (w.alloc (.cells cs.toArray T)) b rb r rs w.heap.size T cs :=
  ⟨h.on0 ((Chg.refl [] w).alloc _), Blk.new w _ _, fun hm => absurd (h.s.lt _ hm) (Nat.lt_irrefl _), fun hm => absurd (h.x.lt _ hm) (Nat.lt_irrefl _)⟩
theorem Three.on0 (h : Three w0 w b rb r rs X T cs) (hc : Chg [] w w') : Three w0 w' b rb r rs X T cs :=
  ⟨h.two.on0 hc, h.bx.kept hc (by simp), h.xs, h.xr⟩
theorem Three.shad (h : Three w0 w b rb r rs X T cs) (g : ShadTo b w w' r') : ∃ b', b'.sd = b.sd ∧ Three w0 w' b' rb r' rs X T cs := by
  obtain ⟨b', e, g1, g2⟩ := g
  have hx : X ∉ b'.set := fun hm => by
    rcases g2.from_ X hm with h1 | h1
    · exact h.xs h1
    · have := h.bx.lt; omega
  have hb := h.bx.kept g2.chg h.xs
  have g : ShadTo b w w' r' := ⟨b', e, g1, g2⟩
  refine ⟨b', e, ⟨g1, h.two.x.kept g2.chg fun k hk hm => h.two.ap k hm hk, fun k hk hm => ?_, fun k hk => ?_, h.two.xn, h.two.chg.trans g2.chg fun k hk => .inr (h.two.sn k hk)⟩, hb, hx, h.xr⟩
  · rcases g2.from_ k hk with h1 | h1
    · exact h.two.ap k h1 hm
    · have := h.two.x.lt k hm; omega
  · rcases g2.from_ k hk with h1 | h1
    · exact h.two.sn k h1
    · have := h.two.chg.size; omega
theorem Three.opened (h : Three w0 w b rb r rs X T cs) (g1 : ShadIs w' sb r') (hc : Chg b.d.set w w') (hs : ∀ k ∈ sb.set, k ∈ b.d.set ∨ w.heap.size ≤ k) : Three w0 w' sb rb r' rs X T cs := by
  refine ⟨h.two.opened g1 hc hs, h.bx.kept hc fun hm => h.xs (d_sub b X hm), fun hm => ?_, h.xr⟩
  rcases hs X hm with h1 | h1
  · exact h.xs (d_sub b X h1)
  · have := h.bx.lt; omega
theorem Three.ref (h : Three w0 w b rb r rs X T cs) (g : RefTo rb w w' rs') : ∃ rb', rb'.p = rb.p ∧ Three w0 w' b rb' r rs' X T cs := by
  obtain ⟨rb', e, g1, g2, g3⟩ := g
  have hp : rb.p ∈ rb.set := by simp [RefB.set]
  refine ⟨rb', e, ⟨h.two.s.kept g2 fun k hk hm => ?_, g1, fun k hk hm => ?_, h.two.sn, fun k hk => ?_, h.two.chg.trans g2 fun k hk => ?_⟩, h.bx.kept g2 fun hm => ?_, h.xs, fun hm => ?_⟩
  · simp only [List.mem_singleton] at hm
    subst hm
    exact h.two.ap _ hk hp
  · rcases g3 k hm with h1 | h1
    · exact h.two.ap k hk h1
    · have := h.two.s.lt k hk; omega
  · rcases g3 k hk with h1 | h1
    · exact h.two.xn k h1
    · have := h.two.chg.size; omega
  · simp only [List.mem_singleton] at hk
    subst hk
    exact .inr (h.two.xn _ hp)
  · simp only [List.mem_singleton] at hm
    exact h.xr (by rw [hm]; exact hp)
  · rcases g3 X hm with h1 | h1
    · exact h.xr h1
    · have := h.bx.lt; omega

/-! the calls -/
theorem Three.new (h : Three w0 w b rb r rs X T cs) (p : Bytes) (hp : p.length ≤ 60000) :
    Calls Tryz.prog 28 #[ptrV b.s, strV p] w fun e w' => e = .returned (.tuple #[intV (r.new p).1, intV (r.new p).2.1]) ∧ ∃ b', b'.sd = b.sd ∧ Three w0 w' b' rb (r.new p).2.2 rs X T cs :=
  (shad_new h.two.s p hp).mono fun _ _ ⟨g1, g2⟩ => ⟨g1, h.shad g2⟩
theorem Three.write (h : Three w0 w b rb r rs X T cs) (l : Int) (p : Bytes) (hp : p.length ≤ 60000) :
    Calls Tryz.prog 32 #[ptrV b.s, intV l, strV p] w fun e w' => e = .returned (intV (r.write l p).1) ∧ ∃ b', b'.sd = b.sd ∧ Three w0 w' b' rb (r.write l p).2 rs X T cs :=
  (shad_write h.two.s l p hp).mono fun _ _ ⟨g1, g2⟩ => ⟨g1, h.shad g2⟩
theorem Three.drop (h : Three w0 w b rb r rs X T cs) (l : Int) :
    Calls Tryz.prog 33 #[ptrV b.s, intV l] w fun e w' => e = .returned (intV (r.drop l).1) ∧ ∃ b', b'.sd = b.sd ∧ Three w0 w' b' rb (r.drop l).2 rs X T cs :=
  (shad_drop h.two.s l).mono fun _ _ ⟨g1, g2⟩ => ⟨g1, h.shad g2⟩
theorem Three.commit (h : Three w0 w b rb r rs X T cs) (hep : r.epoch ≤ 1099511627774) :
    Calls Tryz.prog 34 #[ptrV b.s] w fun e w' => e = .returned (intV r.commit.1) ∧ ∃ b', b'.sd = b.sd ∧ Three w0 w' b' rb r.commit.2 rs X T cs :=
  (shad_commit h.two.s hep).mono fun _ _ ⟨g1, g2⟩ => ⟨g1, h.shad g2⟩
theorem Three.abort (h : Three w0 w b rb r rs X T cs) :
    Calls Tryz.prog 35 #[ptrV b.s] w fun e w' => e = .returned (.bool true) ∧ ∃ b', b'.sd = b.sd ∧ Three w0 w' b' rb r.abort rs X T cs :=
  (shad_abort h.two.s).mono fun _ _ ⟨g1, g2⟩ => ⟨g1, h.shad g2⟩
theorem Three.open_ (h : Three w0 w b rb r rs X T cs) :
    Calls Tryz.prog 30 #[ptrV b.d.d] w fun e w' => ∃ sb : StoreB, e = .returned (.tuple #[ptrV sb.s, intV 0]) ∧ sb.d = b.d ∧ Three w0 w' sb rb r.abort rs X T cs :=
  (shad_open h.two.s).mono fun _ _ ⟨sb, g1, g2, g3, g4, g5⟩ => ⟨sb, g1, g2, h.opened g3 g4 g5⟩
theorem Three.rnew (h : Three w0 w b rb r rs X T cs) (hok : RefOk rs) (p : Bytes) (hp : p.length ≤ 60000) :
    Calls Tryz.prog 67 #[ptrV rb.p, strV p] w fun e w' => e = .returned (.tuple #[intV (rs.new p).1, intV (rs.new p).2.1]) ∧ ∃ rb', rb'.p = rb.p ∧ Three w0 w' b rb' r (rs.new p).2.2 X T cs :=
  (ref_new h.two.x hok p hp).mono fun _ _ ⟨g1, g2⟩ => ⟨g1, h.ref g2⟩
theorem Three.rwrite (h : Three w0 w b rb r rs X T cs) (hok : RefOk rs) (l : Int) (p : Bytes) (hp : p.length ≤ 60000) :
    Calls Tryz.prog 71 #[ptrV rb.p, intV l, strV p] w fun e w' => e = .returned (intV (rs.write l p).1) ∧ ∃ rb', rb'.p = rb.p ∧ Three w0 w' b rb' r (rs.write l p).2 X T cs :=
  (ref_write h.two.x hok l p hp).mono fun _ _ ⟨g1, g2⟩ => ⟨g1, h.ref g2⟩
theorem Three.rdrop (h : Three w0 w b rb r rs X T cs) (hok : RefOk rs) (l : Int) :
    Calls Tryz.prog 68 #[ptrV rb.p, intV l] w fun e w' => e = .returned (intV (rs.drop l).1) ∧ ∃ rb', rb'.p = rb.p ∧ Three w0 w' b rb' r (rs.drop l).2 X T cs :=
  (ref_drop h.two.x hok l).mono fun _ _ ⟨g1, g2⟩ => ⟨g1, h.ref g2⟩
theorem Three.rcommit (h : Three w0 w b rb r rs X T cs) (hok : RefOk rs) (hep : 0 ≤ rs.epoch ∧ rs.epoch ≤ 1152921504606846976) :
    Calls Tryz.prog 69 #[ptrV rb.p] w fun e w' => e = .returned (intV rs.commit.1) ∧ ∃ rb', rb'.p = rb.p ∧ Three w0 w' b rb' r rs.commit.2 X T cs :=
  (ref_commit h.two.x hok hep).mono fun _ _ ⟨g1, g2⟩ => ⟨g1, h.ref g2⟩
end

end Go.Proofs.YtjbpdgknhbnfgaaGreat
