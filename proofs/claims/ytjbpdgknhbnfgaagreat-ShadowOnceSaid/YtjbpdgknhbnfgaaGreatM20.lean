/- A part of the walks of the program's functions, each a contract that its caller uses; no condition but what each theorem names. The walk of law 14's holds. The walk of law 14's same. The walks of law 14's short and do. The walks of law 14's do: Drop, Commit, Abort, Open, Write. The walks of law 14's begun and awake. -/
import Derived.Test.YtjbpdgknhbnfgaaGreatM19

namespace Go.Proofs.YtjbpdgknhbnfgaaGreat
open Go.RowKit
set_option maxRecDepth 100000

set_option maxHeartbeats 2000000 in
theorem law14_holds {w : World} {b : StoreB} {r : Ref} {v : Value} (h : ShadIs w b r) (ho : Own w 91 3 v r.now.length (slotCells r.now)) :
    Calls Tryz.prog 72 #[ptrV b.s, v] w fun e w' => e = .returned (.bool true) ∧ Chg [] w w' := by
  have hok := h.refOk
  have hnl := hok.n
  obtain ⟨na, nc, rfl, hn1, hn2⟩ := ho.shape
  have hpl : (Ref.pages r.now).length ≤ r.now.length := by
    have := rpagesTo_len r.now r.now.length
    exact this
  have HP : Hid (Calls Tryz.prog 36 #[ptrV b.s] w fun e w' => ∃ a c, e = .returned (.slice a (Ref.pages r.now).length c) ∧ Own w' 3 1 (.slice a (Ref.pages r.now).length c) (Ref.pages r.now).length (ints (Ref.pages r.now)) ∧ Chg [] w w') := Lib.hid (shad_pages h)
  have HO : Hid (∀ w', Chg [] w w' → Own w' 91 3 (.slice na r.now.length nc) r.now.length (slotCells r.now)) := Lib.hid fun w' hc => ho.kept hc (by simp)
  have HRP : Hid (∀ w', Chg [] w w' → Calls Tryz.prog 142 #[.slice na r.now.length nc] w' fun e w'' => ∃ a c, e = .returned (.slice a (Ref.pages r.now).length c) ∧ Own w'' 3 1 (.slice a (Ref.pages r.now).length c) (Ref.pages r.now).length (ints (Ref.pages r.now)) ∧ Chg [] w' w'') := Lib.hid fun w' hc => (ref_pages (HO.out w' hc) (by omega)).mono fun e w'' ⟨v', g1, g2, g3⟩ => (by obtain ⟨a, c, rfl, -, -⟩ := g2.shape; exact ⟨a, c, g1, g2, g3⟩)
  have HI : Hid (∀ w' va vb, Own w' 3 1 va (Ref.pages r.now).length (ints (Ref.pages r.now)) → Own w' 3 1 vb (Ref.pages r.now).length (ints (Ref.pages r.now)) → Calls Tryz.prog 111 #[va, vb] w' fun e w'' => e = .returned (.bool true) ∧ Chg [] w' w'') := Lib.hid fun w' va vb h1 h2 => (ref_ints h1 h2 (by omega) (by omega)).mono fun e w'' ⟨g1, g2⟩ => ⟨by rw [g1]; simp, g2⟩
  have HRD : Hid (∀ w' (i : Nat) (hi : i < r.now.length), Chg [] w w' → Calls Tryz.prog 29 #[ptrV b.s, intV i] w' fun e w'' => e = .returned (if r.now[i].is then .tuple #[strV r.now[i].b, intV 0] else .tuple #[strV [], intV 3]) ∧ Chg [] w' w'') := Lib.hid fun w' i hi hc => (shad_read (h.kept0 hc) i).mono fun e w'' ⟨g1, g2⟩ => ⟨by rw [g1, Ref.slot_of hi], g2⟩
  generalize Ref.pages r.now = PG at *
  generalize r.now = N at *
  clear h hok ho
  go_enter Tryz.func72, Tryz.ntmps72
  go_wp2_with (first
    | (go_at_call 36; (with_reducible refine HP.out.mono ?_); rintro e w1 ⟨a1, c1, rfl, o1, h1⟩; have O1 := Lib.hid o1; have C1 := Lib.hid h1; clear o1 h1)
    | (go_at_call 142; (with_reducible refine (HRP.out _ C1.out).mono ?_); rintro e w2 ⟨a2, c2, rfl, o2, h2⟩; have O2 := Lib.hid o2; have O1' := Lib.hid (O1.out.kept h2 (by simp)); have C2 := Lib.hid (C1.out.trans0 h2); clear o2 h2)
    | (go_at_call 111; (with_reducible refine (HI.out _ _ _ O1'.out O2.out).mono ?_); rintro e w3 ⟨rfl, h3⟩; have C3 := Lib.hid (C2.out.trans0 h3); clear h3))
  go_loopw [5] (fun i wr => ∃ k : Nat, k ≤ N.length ∧ i = .int .i64 k ∧ Chg [] w wr) (fun i _ => N.length - (intOf i).toNat)
  case atStart => exact ⟨0, Nat.zero_le _, rfl, C3.out⟩
  case round =>
    obtain ⟨k, hk, rfl, hc⟩ := hrel
    have HC := Lib.hid hc
    clear hc
    by_cases hlt : k < N.length
    · have hkI : (k : Int) < (N.length : Int) := by omega
      have hk0 : (k : Int) ≤ 60000 := by omega
      have HR := Lib.hid (HRD.out wr k hlt HC.out)
      have HSL : Hid (∀ w', Chg [] w w' → ∃ g, na = some ⟨g, 0, none⟩ ∧ w'.cell? ⟨g, k * 3, none⟩ = some (.bool N[k].is) ∧ w'.cell? ⟨g, k * 3 + 2, none⟩ = some (strV N[k].b)) := Lib.hid fun w' hc => by
        obtain ⟨g, cap, hv, -, -, c0, -, c2⟩ := slot_cells (HO.out w' hc) k hlt
        simp only [Value.slice.injEq] at hv
        exact ⟨g, hv.1, c0, c2⟩
      obtain ⟨g, rfl, -⟩ := HSL.out wr HC.out
      obtain ⟨x, hx⟩ : ∃ x, N[k].is = x := ⟨_, rfl⟩
      rw [hx] at HR HSL
      generalize N[k].b = s at *
      clear hx
      cases x <;>
        (go_wp2_with (go_at_call 29; (with_reducible refine HR.out.mono ?_); rintro e w4 ⟨rfl, h4⟩; have C4 := Lib.hid (HC.out.trans0 h4); obtain ⟨g', hg', m0, m2⟩ := HSL.out w4 C4.out; simp only [Option.some.injEq, Addr.mk.injEq, and_true] at hg'; subst hg'; clear h4)
         go_roundw
         case rel => exact ⟨k + 1, by omega, by go_num, C4.out⟩
         case measure => simp [intOf]; omega)
    · obtain rfl : k = N.length := by omega
      go_wp2_with fail
      go_ret
      exact ⟨rfl, HC.out⟩

end Go.Proofs.YtjbpdgknhbnfgaaGreat

namespace Go.Proofs.YtjbpdgknhbnfgaaGreat
open Go.RowKit
set_option maxRecDepth 100000

set_option maxHeartbeats 4000000 in
theorem law14_same {w : World} {b : StoreB} {rb : RefB} {r : Ref} (h : ShadIs w b r) (hx : RefAt w rb r) :
    Calls Tryz.prog 17 #[ptrV b.s, ptrV rb.p] w fun e w' => e = .returned (.bool true) ∧ Chg [] w w' := by
  have hok := h.refOk
  have hnl := hok.n
  have hol := hok.o
  have hmm := hok.m
  obtain ⟨S, hs1, hs2⟩ := h.ex
  obtain ⟨u, hu1, hu2, hu3⟩ := hs2.count
  have HCT : Hid (Calls Tryz.prog 23 #[ptrV b.s] w fun e w' => e = .returned (.tuple #[intV r.free, intV u, intV r.freshN, intV r.leaving]) ∧ Chg [] w w') := Lib.hid (by rw [← hu1]; exact store_count hs1)
  have HHO : Hid (∀ w', Chg [] w w' → Calls Tryz.prog 72 #[ptrV b.s, rb.nv] w' fun e w'' => e = .returned (.bool true) ∧ Chg [] w' w'') := Lib.hid fun w' hc => law14_holds (h.kept0 hc) (hx.kept0 hc).n
  have HEP : Hid (∀ w', Chg [] w w' → Calls Tryz.prog 27 #[ptrV b.s] w' fun e w'' => e = .returned (intV r.epoch) ∧ w' = w'') := Lib.hid fun w' hc => shad_epoch (h.kept0 hc)
  have HFR : Hid (∀ w', Chg [] w w' → Calls Tryz.prog 73 #[ptrV rb.p] w' fun e w'' => e = .returned (intV r.free) ∧ ∃ k, w'' = w'.drewN k) := Lib.hid fun w' hc => ref_free (hx.kept0 hc) (by omega) (by omega) hmm
  have HFS : Hid (∀ w', Chg [] w w' → Calls Tryz.prog 74 #[ptrV rb.p] w' fun e w'' => e = .returned (intV r.freshN) ∧ w' = w'') := Lib.hid fun w' hc => ref_fresh (hx.kept0 hc) (by omega)
  have HKP : Hid (∀ w', Chg [] w w' → Calls Tryz.prog 75 #[ptrV rb.p] w' fun e w'' => e = .returned (intV ((u : Int) + r.leaving)) ∧ ∃ k, w'' = w'.drewN k) := Lib.hid fun w' hc => by rw [hu2]; exact ref_kept (hx.kept0 hc) (by omega)
  have HLV : Hid (∀ w', Chg [] w w' → Calls Tryz.prog 76 #[ptrV rb.p] w' fun e w'' => e = .returned (intV r.leaving) ∧ w' = w'') := Lib.hid fun w' hc => ref_leaving (hx.kept0 hc) (by omega) (by omega)
  have HCE : Hid (∀ w', Chg [] w w' → w'.cell? ⟨rb.p, 1, none⟩ = some rb.nv ∧ w'.cell? ⟨rb.p, 3, none⟩ = some (intV r.epoch)) := Lib.hid fun w' hc => by
    have := (hx.kept0 hc).st
    exact ⟨this.cell 1, this.cell 3⟩
  have hlb : r.leaving ≤ 512 := Nat.le_trans (by unfold Ref.leaving; exact Nat.le_trans List.countP_le_length (by simp)) hol
  have ew : IntKind.i64.wrap ((u : Int) + (r.leaving : Int)) = (u : Int) + (r.leaving : Int) := IntWalk.i64_in _ (by omega)
  obtain ⟨na, nc, hnv, -, -⟩ := hx.n.shape
  rw [hnv] at HHO HCE
  generalize r.now.length = nl at *
  clear h hx hs1 hs2 hu1 hu2 hu3 hok hnl hol hmm hnv
  generalize r.free = vf at *
  generalize r.freshN = vs at *
  generalize r.leaving = vl at *
  generalize r.epoch = ve at *
  generalize hwl : (u : Int) + (vl : Int) = vk at *
  clear hlb
  go_enter Tryz.func17, Tryz.ntmps17
  go_wp2_with (go_at_call 23; (with_reducible refine HCT.out.mono ?_); rintro e w1 ⟨rfl, h1⟩; have C1 := Lib.hid h1; clear h1)
  have k1 := HCE.out w1.drew C1.out.drew
  refine wp_region_late (fun w' => w'.cell? ⟨rb.p, 1, none⟩ = some (.slice na nl nc) ∧ w'.cell? ⟨rb.p, 3, none⟩ = some (intV ve)) (fun _ => false) (by kernel_rfl) 42 rfl ?_
  have Cw0 : Hid (Chg [] w w1.drew) := Lib.hid C1.out.drew
  obtain ⟨w0, hw0⟩ : ∃ w0, w1.drew = w0 := ⟨_, rfl⟩
  rw [hw0] at Cw0 k1 ⊢
  clear hw0
  refine wpAnyL_pure (v := ?v0) 0 16 rfl rfl (by kernel_rfl) (by kernel_rfl) (by kernel_rfl) (by rfl) (fun _ _ _ h => h) ?hy0 ?rest0
  case hy0 => intro w; go_simp; with_reducible rfl
  simp only [List.setIfInBounds_toArray, List.set_cons_zero, List.set_cons_succ]
  refine wpAnyL_pure (v := ?v1) 1 17 rfl rfl (by kernel_rfl) (by kernel_rfl) (by kernel_rfl) (by rfl) (fun _ _ _ h => h) ?hy1 ?rest1
  case hy1 => intro w; go_simp; with_reducible rfl
  simp only [List.setIfInBounds_toArray, List.set_cons_zero, List.set_cons_succ]
  refine wpAnyL_pure (v := ?v2) 2 18 rfl rfl (by kernel_rfl) (by kernel_rfl) (by kernel_rfl) (by rfl) (fun _ _ _ h => h) ?hy2 ?rest2
  case hy2 => intro w; go_simp; with_reducible rfl
  simp only [List.setIfInBounds_toArray, List.set_cons_zero, List.set_cons_succ]
  refine wpAnyL_pure (v := ?v3) 3 19 rfl rfl (by kernel_rfl) (by kernel_rfl) (by kernel_rfl) (by rfl) (fun _ _ _ h => h) ?hy3 ?rest3
  case hy3 => intro w; go_simp; with_reducible rfl
  simp only [List.setIfInBounds_toArray, List.set_cons_zero, List.set_cons_succ]
  refine wpAnyL_load (v := ?v4) 4 20 rfl rfl (by kernel_rfl) (by kernel_rfl) (by kernel_rfl) (by kernel_rfl) (by rfl) (fun _ _ _ h => h) k1 ?hy4 ?rest4
  case hy4 => intro w hS; obtain ⟨s1, s2⟩ := hS; go_simp; with_reducible rfl
  simp only [List.setIfInBounds_toArray, List.set_cons_zero, List.set_cons_succ]
  refine wpAnyL_call (f := 72) (args := #[ptrV b.s, .slice na nl nc]) 5 21 rfl rfl (by kernel_rfl) (by rfl) ?hr5 (fun v w' => v = Value.bool true ∧ Chg [] w0 w') ?hc5 ?rest5
  case hr5 => go_simp
  case hc5 => exact (HHO.out _ Cw0.out).mono fun e w' ⟨h1, h2⟩ => ⟨_, h1, rfl, h2⟩
  rintro v5 w105 ⟨rfl, c5⟩
  have Cw105 := Lib.hid (Cw0.out.trans0 c5)
  have kw105 := HCE.out w105 Cw105.out
  refine ⟨fun _ _ => kw105, ?_⟩
  clear c5
  simp only [List.setIfInBounds_toArray, List.set_cons_zero, List.set_cons_succ]
  refine wpAnyL_pure (v := ?v6) 6 22 rfl rfl (by kernel_rfl) (by kernel_rfl) (by kernel_rfl) (by rfl) (fun _ _ _ h => h) ?hy6 ?rest6
  case hy6 => intro w; go_simp; with_reducible rfl
  simp only [List.setIfInBounds_toArray, List.set_cons_zero, List.set_cons_succ]
  refine wpAnyL_pure (v := ?v7) 7 23 rfl rfl (by kernel_rfl) (by kernel_rfl) (by kernel_rfl) (by rfl) (fun _ _ _ h => h) ?hy7 ?rest7
  case hy7 => intro w; go_simp; with_reducible rfl
  simp only [List.setIfInBounds_toArray, List.set_cons_zero, List.set_cons_succ]
  refine wpAnyL_pure (v := ?v9) 9 25 rfl rfl (by kernel_rfl) (by kernel_rfl) (by kernel_rfl) (by rfl) (fun _ _ _ h => h) ?hy9 ?rest9
  case hy9 => intro w; go_simp; with_reducible rfl
  simp only [List.setIfInBounds_toArray, List.set_cons_zero, List.set_cons_succ]
  refine wpAnyL_pure (v := ?v10) 10 26 rfl rfl (by kernel_rfl) (by kernel_rfl) (by kernel_rfl) (by rfl) (fun _ _ _ h => h) ?hy10 ?rest10
  case hy10 => intro w; go_simp; with_reducible rfl
  simp only [List.setIfInBounds_toArray, List.set_cons_zero, List.set_cons_succ]
  refine wpAnyL_pure (v := ?v11) 11 27 rfl rfl (by kernel_rfl) (by kernel_rfl) (by kernel_rfl) (by rfl) (fun _ _ _ h => h) ?hy11 ?rest11
  case hy11 => intro w; go_simp; with_reducible rfl
  simp only [List.setIfInBounds_toArray, List.set_cons_zero, List.set_cons_succ]
  refine wpAnyL_load (v := ?v12) 12 28 rfl rfl (by kernel_rfl) (by kernel_rfl) (by kernel_rfl) (by kernel_rfl) (by rfl) (fun _ _ _ h => h) kw105 ?hy12 ?rest12
  case hy12 => intro w hS; obtain ⟨s1, s2⟩ := hS; go_simp; with_reducible rfl
  simp only [List.setIfInBounds_toArray, List.set_cons_zero, List.set_cons_succ]
  refine wpAnyL_call (f := 27) (args := #[ptrV b.s]) 8 24 rfl rfl (by kernel_rfl) (by rfl) ?hr8 (fun v w' => v = intV ve ∧ w105 = w') ?hc8 ?rest8
  case hr8 => go_simp
  case hc8 => exact (HEP.out _ Cw105.out).mono fun e w' ⟨h1, h2⟩ => ⟨_, h1, rfl, h2⟩
  rintro v8 w108 ⟨rfl, c8⟩
  have Cw108 : Hid (Chg [] w w108) := Lib.hid (by rw [← c8]; exact Cw105.out)
  have kw108 := HCE.out w108 Cw108.out
  refine ⟨fun _ _ => kw108, ?_⟩
  clear c8
  simp only [List.setIfInBounds_toArray, List.set_cons_zero, List.set_cons_succ]
  refine wpAnyL_pure (v := ?v13) 13 29 rfl rfl (by kernel_rfl) (by kernel_rfl) (by kernel_rfl) (by rfl) (fun _ _ _ h => h) ?hy13 ?rest13
  case hy13 => intro w; go_simp; with_reducible rfl
  simp only [List.setIfInBounds_toArray, List.set_cons_zero, List.set_cons_succ]
  refine wpAnyL_pure (v := ?v14) 14 30 rfl rfl (by kernel_rfl) (by kernel_rfl) (by kernel_rfl) (by rfl) (fun _ _ _ h => h) ?hy14 ?rest14
  case hy14 => intro w; go_simp; with_reducible rfl
  simp only [List.setIfInBounds_toArray, List.set_cons_zero, List.set_cons_succ]
  refine wpAnyL_pure (v := ?v15) 15 31 rfl rfl (by kernel_rfl) (by kernel_rfl) (by kernel_rfl) (by rfl) (fun _ _ _ h => h) ?hy15 ?rest15
  case hy15 => intro w; go_simp; with_reducible rfl
  simp only [List.setIfInBounds_toArray, List.set_cons_zero, List.set_cons_succ]
  refine wpAnyL_pure (v := ?v16) 16 32 rfl rfl (by kernel_rfl) (by kernel_rfl) (by kernel_rfl) (by rfl) (fun _ _ _ h => h) ?hy16 ?rest16
  case hy16 => intro w; go_simp; with_reducible rfl
  simp only [List.setIfInBounds_toArray, List.set_cons_zero, List.set_cons_succ]
  refine wpAnyL_pure (v := ?v17) 17 33 rfl rfl (by kernel_rfl) (by kernel_rfl) (by kernel_rfl) (by rfl) (fun _ _ _ h => h) ?hy17 ?rest17
  case hy17 => intro w; go_simp; with_reducible rfl
  simp only [List.setIfInBounds_toArray, List.set_cons_zero, List.set_cons_succ]
  refine wpAnyL_call (f := 73) (args := #[ptrV rb.p]) 18 34 rfl rfl (by kernel_rfl) (by rfl) ?hr18 (fun v w' => v = intV vf ∧ Chg [] w108 w') ?hc18 ?rest18
  case hr18 => go_simp
  case hc18 => exact (HFR.out _ Cw108.out).mono fun e w' ⟨h1, k, h2⟩ => ⟨_, h1, rfl, by rw [h2]; exact (Chg.refl _ _).drewN k⟩
  rintro v18 w118 ⟨rfl, c18⟩
  have Cw118 := Lib.hid (Cw108.out.trans0 c18)
  have kw118 := HCE.out w118 Cw118.out
  refine ⟨fun _ _ => kw118, ?_⟩
  clear c18
  simp only [List.setIfInBounds_toArray, List.set_cons_zero, List.set_cons_succ]
  refine wpAnyL_pure (v := ?v19) 19 35 rfl rfl (by kernel_rfl) (by kernel_rfl) (by kernel_rfl) (by rfl) (fun _ _ _ h => h) ?hy19 ?rest19
  case hy19 => intro w; go_simp; with_reducible rfl
  simp only [List.setIfInBounds_toArray, List.set_cons_zero, List.set_cons_succ]
  refine wpAnyL_pure (v := ?v20) 20 36 rfl rfl (by kernel_rfl) (by kernel_rfl) (by kernel_rfl) (by rfl) (fun _ _ _ h => h) ?hy20 ?rest20
  case hy20 => intro w; go_simp; with_reducible rfl
  simp only [List.setIfInBounds_toArray, List.set_cons_zero, List.set_cons_succ]
  refine wpAnyL_pure (v := ?v21) 21 37 rfl rfl (by kernel_rfl) (by kernel_rfl) (by kernel_rfl) (by rfl) (fun _ _ _ h => h) ?hy21 ?rest21
  case hy21 => intro w; go_simp; with_reducible rfl
  simp only [List.setIfInBounds_toArray, List.set_cons_zero, List.set_cons_succ]
  refine wpAnyL_pure (v := ?v22) 22 38 rfl rfl (by kernel_rfl) (by kernel_rfl) (by kernel_rfl) (by rfl) (fun _ _ _ h => h) ?hy22 ?rest22
  case hy22 => intro w; go_simp; with_reducible rfl
  simp only [List.setIfInBounds_toArray, List.set_cons_zero, List.set_cons_succ]
  refine wpAnyL_pure (v := ?v23) 23 39 rfl rfl (by kernel_rfl) (by kernel_rfl) (by kernel_rfl) (by rfl) (fun _ _ _ h => h) ?hy23 ?rest23
  case hy23 => intro w; go_simp; with_reducible rfl
  simp only [List.setIfInBounds_toArray, List.set_cons_zero, List.set_cons_succ]
  refine wpAnyL_call (f := 74) (args := #[ptrV rb.p]) 24 40 rfl rfl (by kernel_rfl) (by rfl) ?hr24 (fun v w' => v = intV (vs : Int) ∧ w118 = w') ?hc24 ?rest24
  case hr24 => go_simp
  case hc24 => exact (HFS.out _ Cw118.out).mono fun e w' ⟨h1, h2⟩ => ⟨_, h1, rfl, h2⟩
  rintro v24 w124 ⟨rfl, c24⟩
  have Cw124 : Hid (Chg [] w w124) := Lib.hid (by rw [← c24]; exact Cw118.out)
  have kw124 := HCE.out w124 Cw124.out
  refine ⟨fun _ _ => kw124, ?_⟩
  clear c24
  simp only [List.setIfInBounds_toArray, List.set_cons_zero, List.set_cons_succ]
  refine wpAnyL_pure (v := ?v25) 25 41 rfl rfl (by kernel_rfl) (by kernel_rfl) (by kernel_rfl) (by rfl) (fun _ _ _ h => h) ?hy25 ?rest25
  case hy25 => intro w; go_simp; with_reducible rfl
  simp only [List.setIfInBounds_toArray, List.set_cons_zero, List.set_cons_succ]
  refine wpAnyL_pure (v := ?v26) 26 42 rfl rfl (by kernel_rfl) (by kernel_rfl) (by kernel_rfl) (by rfl) (fun _ _ _ h => h) ?hy26 ?rest26
  case hy26 => intro w; go_simp; with_reducible rfl
  simp only [List.setIfInBounds_toArray, List.set_cons_zero, List.set_cons_succ]
  refine wpAnyL_pure (v := ?v27) 27 43 rfl rfl (by kernel_rfl) (by kernel_rfl) (by kernel_rfl) (by rfl) (fun _ _ _ h => h) ?hy27 ?rest27
  case hy27 => intro w; go_simp; with_reducible rfl
  simp only [List.setIfInBounds_toArray, List.set_cons_zero, List.set_cons_succ]
  refine wpAnyL_pure (v := ?v28) 28 44 rfl rfl (by kernel_rfl) (by kernel_rfl) (by kernel_rfl) (by rfl) (fun _ _ _ h => h) ?hy28 ?rest28
  case hy28 => intro w; go_simp; with_reducible rfl
  simp only [List.setIfInBounds_toArray, List.set_cons_zero, List.set_cons_succ]
  refine wpAnyL_pure (v := ?v29) 29 45 rfl rfl (by kernel_rfl) (by kernel_rfl) (by kernel_rfl) (by rfl) (fun _ _ _ h => h) ?hy29 ?rest29
  case hy29 => intro w; go_simp; with_reducible rfl
  simp only [List.setIfInBounds_toArray, List.set_cons_zero, List.set_cons_succ]
  refine wpAnyL_pure (v := ?v30) 30 46 rfl rfl (by kernel_rfl) (by kernel_rfl) (by kernel_rfl) (by rfl) (fun _ _ _ h => h) ?hy30 ?rest30
  case hy30 => intro w; go_simp; with_reducible rfl
  simp only [List.setIfInBounds_toArray, List.set_cons_zero, List.set_cons_succ]
  refine wpAnyL_pure (v := ?v31) 31 47 rfl rfl (by kernel_rfl) (by kernel_rfl) (by kernel_rfl) (by rfl) (fun _ _ _ h => h) ?hy31 ?rest31
  case hy31 => intro w; go_simp; with_reducible rfl
  simp only [List.setIfInBounds_toArray, List.set_cons_zero, List.set_cons_succ]
  refine wpAnyL_call (f := 75) (args := #[ptrV rb.p]) 32 48 rfl rfl (by kernel_rfl) (by rfl) ?hr32 (fun v w' => v = intV vk ∧ Chg [] w124 w') ?hc32 ?rest32
  case hr32 => go_simp
  case hc32 => exact (HKP.out _ Cw124.out).mono fun e w' ⟨h1, k, h2⟩ => ⟨_, h1, rfl, by rw [h2]; exact (Chg.refl _ _).drewN k⟩
  rintro v32 w132 ⟨rfl, c32⟩
  have Cw132 := Lib.hid (Cw124.out.trans0 c32)
  have kw132 := HCE.out w132 Cw132.out
  refine ⟨fun _ _ => kw132, ?_⟩
  clear c32
  simp only [List.setIfInBounds_toArray, List.set_cons_zero, List.set_cons_succ]
  refine wpAnyL_pure (v := ?v33) 33 49 rfl rfl (by kernel_rfl) (by kernel_rfl) (by kernel_rfl) (by rfl) (fun _ _ _ h => h) ?hy33 ?rest33
  case hy33 => intro w; go_simp; with_reducible rfl
  simp only [List.setIfInBounds_toArray, List.set_cons_zero, List.set_cons_succ]
  refine wpAnyL_pure (v := ?v34) 34 50 rfl rfl (by kernel_rfl) (by kernel_rfl) (by kernel_rfl) (by rfl) (fun _ _ _ h => h) ?hy34 ?rest34
  case hy34 => intro w; go_simp; with_reducible rfl
  simp only [List.setIfInBounds_toArray, List.set_cons_zero, List.set_cons_succ]
  refine wpAnyL_pure (v := ?v35) 35 51 rfl rfl (by kernel_rfl) (by kernel_rfl) (by kernel_rfl) (by rfl) (fun _ _ _ h => h) ?hy35 ?rest35
  case hy35 => intro w; go_simp; with_reducible rfl
  simp only [List.setIfInBounds_toArray, List.set_cons_zero, List.set_cons_succ]
  refine wpAnyL_pure (v := ?v36) 36 52 rfl rfl (by kernel_rfl) (by kernel_rfl) (by kernel_rfl) (by rfl) (fun _ _ _ h => h) ?hy36 ?rest36
  case hy36 => intro w; go_simp; with_reducible rfl
  simp only [List.setIfInBounds_toArray, List.set_cons_zero, List.set_cons_succ]
  refine wpAnyL_pure (v := ?v37) 37 53 rfl rfl (by kernel_rfl) (by kernel_rfl) (by kernel_rfl) (by rfl) (fun _ _ _ h => h) ?hy37 ?rest37
  case hy37 => intro w; go_simp; with_reducible rfl
  simp only [List.setIfInBounds_toArray, List.set_cons_zero, List.set_cons_succ]
  refine wpAnyL_call (f := 76) (args := #[ptrV rb.p]) 38 54 rfl rfl (by kernel_rfl) (by rfl) ?hr38 (fun v w' => v = intV (vl : Int) ∧ w132 = w') ?hc38 ?rest38
  case hr38 => go_simp
  case hc38 => exact (HLV.out _ Cw132.out).mono fun e w' ⟨h1, h2⟩ => ⟨_, h1, rfl, h2⟩
  rintro v38 w138 ⟨rfl, c38⟩
  have Cw138 : Hid (Chg [] w w138) := Lib.hid (by rw [← c38]; exact Cw132.out)
  have kw138 := HCE.out w138 Cw138.out
  refine ⟨fun _ _ => kw138, ?_⟩
  clear c38
  simp only [List.setIfInBounds_toArray, List.set_cons_zero, List.set_cons_succ]
  refine wpAnyL_pure (v := ?v39) 39 55 rfl rfl (by kernel_rfl) (by kernel_rfl) (by kernel_rfl) (by rfl) (fun _ _ _ h => h) ?hy39 ?rest39
  case hy39 => intro w; go_simp; with_reducible rfl
  simp only [List.setIfInBounds_toArray, List.set_cons_zero, List.set_cons_succ]
  refine wpAnyL_pure (v := ?v40) 40 56 rfl rfl (by kernel_rfl) (by kernel_rfl) (by kernel_rfl) (by rfl) (fun _ _ _ h => h) ?hy40 ?rest40
  case hy40 => intro w; go_simp; with_reducible rfl
  simp only [List.setIfInBounds_toArray, List.set_cons_zero, List.set_cons_succ]
  refine wpAnyL_pure (v := ?v41) 41 4 rfl rfl (by kernel_rfl) (by kernel_rfl) (by kernel_rfl) (by rfl) (fun _ _ _ h => h) ?hy41 ?rest41
  case hy41 => intro w; go_simp; with_reducible rfl
  simp only [List.setIfInBounds_toArray, List.set_cons_zero, List.set_cons_succ]
  refine wpAnyL_done (by kernel_rfl) ?_
  go_wp2_with fail
  go_ret
  exact ⟨rfl, Cw138.out⟩

end Go.Proofs.YtjbpdgknhbnfgaaGreat

namespace Go.Proofs.YtjbpdgknhbnfgaaGreat
open Go.RowKit
set_option maxRecDepth 100000

theorem Three.rabort {w0 w : World} {b : StoreB} {rb : RefB} {r rs : Ref} {X : Nat} {T : TypeId} {cs : List Value} (h : Three w0 w b rb r rs X T cs) :
    Calls Tryz.prog 70 #[ptrV rb.p] w fun e w' => e = .returned (.tuple #[]) ∧ ∃ rb', rb'.p = rb.p ∧ Three w0 w' b rb' r rs.abort X T cs :=
  (ref_abort h.two.x).mono fun _ _ ⟨g1, g2⟩ => ⟨g1, h.ref g2⟩

structure Act14 where
  k : Int
  l : Int
  s : Bytes
abbrev Act14.v (a : Act14) : Value := .agg #[intV a.k, intV a.l, strV a.s]
abbrev Act14.cells (a : Act14) : List Value := [intV a.k, intV a.l, strV a.s]

theorem law14_short (a : Act14) (w : World) :
    Calls Tryz.prog 15 #[a.v] w fun e w' => e = .returned (.bool (decide (a.s.length < 500))) ∧ Chg [] w w' := by
  obtain ⟨k, l, s⟩ := a
  dsimp only [Act14.v]
  have HB := Lib.hid (Blk.new w 31 [intV k, intV l, strV s])
  have c2 := HB.out.cell 2
  go_enter Tryz.func15, Tryz.ntmps15
  go_wp2_with fail
  go_ret
  refine ⟨?_, (Chg.refl _ _).alloc _⟩
  simp
  omega

/-- What the document makes of a call. -/
def Ref.act (r : Ref) (a : Act14) : Ref :=
  if a.k = 0 ∨ a.k = 1 then (r.new a.s).2.2 else if a.k = 5 then (r.drop a.l).2 else if a.k = 6 ∨ a.k = 7 then r.commit.2
  else if a.k = 8 then r.abort else if a.k = 9 then r.abort else (r.write a.l a.s).2

def Did (w0 : World) (b : StoreB) (rb : RefB) (r' : Ref) (e : Ending) (w' : World) : Prop :=
  ∃ b' rb', e = .returned (.tuple #[ptrV b'.s, .bool true]) ∧ b'.d = b.d ∧ rb'.p = rb.p ∧ Two w0 w' b' rb' r' r'

set_option maxHeartbeats 2000000 in
theorem law14_do_new {w0 w : World} {b : StoreB} {rb : RefB} {r : Ref} (h : Two w0 w b rb r r) (k l : Int) (s : Bytes) (hs : s.length ≤ 60000) (hk : k = 0 ∨ k = 1) :
    Calls Tryz.prog 16 #[ptrV b.d.d, ptrV b.s, ptrV rb.p, .agg #[intV k, intV l, strV s]] w (Did w0 b rb (r.new s).2.2) := by
  have hok := h.s.refOk
  have HT := Lib.hid (h.box 31 [intV k, intV l, strV s])
  have HB := Lib.hid (HT.out.bx)
  have HN : Hid (∀ w', Three w0 w' b rb r r w.heap.size 31 [intV k, intV l, strV s] → Calls Tryz.prog 28 #[ptrV b.s, strV s] w' fun e w'' => e = .returned (.tuple #[intV (r.new s).1, intV (r.new s).2.1]) ∧ ∃ b', b'.sd = b.sd ∧ Three w0 w'' b' rb (r.new s).2.2 r w.heap.size 31 [intV k, intV l, strV s]) := Lib.hid fun w' h => h.new s hs
  have HR : Hid (∀ w' b', Three w0 w' b' rb (r.new s).2.2 r w.heap.size 31 [intV k, intV l, strV s] → Calls Tryz.prog 67 #[ptrV rb.p, strV s] w' fun e w'' => e = .returned (.tuple #[intV (r.new s).1, intV (r.new s).2.1]) ∧ ∃ rb', rb'.p = rb.p ∧ Three w0 w'' b' rb' (r.new s).2.2 (r.new s).2.2 w.heap.size 31 [intV k, intV l, strV s]) := Lib.hid fun w' b' h => h.rnew hok s hs
  generalize r.new s = RES at *
  obtain ⟨RL, RE, R2⟩ := RES
  dsimp only at HN HR ⊢
  clear h hs hok
  have k0 := HB.out.cell 0
  have k2 := HB.out.cell 2
  rcases hk with rfl | rfl
  all_goals
    go_enter Tryz.func16, Tryz.ntmps16
    go_wp2_with (first | (go_at_call 28; (with_reducible refine (HN.out _ HT.out).mono ?_); rintro e w1 ⟨rfl, b1, e1, h1⟩; have E1 := Lib.hid e1; have H1 := Lib.hid h1; have m2 := h1.bx.cell 2; clear e1 h1) | (go_at_call 67; (with_reducible refine (HR.out _ _ H1.out).mono ?_); rintro e w2 ⟨rfl, rb1, e2, h2⟩; have E2 := Lib.hid e2; have H2 := Lib.hid h2; clear e2 h2))
    go_ret2
    exact ⟨b1, rb1, by rw [StoreB.sd_s E1.out]; rfl, StoreB.sd_d E1.out, E2.out, H2.out.two⟩

end Go.Proofs.YtjbpdgknhbnfgaaGreat

namespace Go.Proofs.YtjbpdgknhbnfgaaGreat
open Go.RowKit
set_option maxRecDepth 100000

set_option maxHeartbeats 2000000 in
theorem law14_do_drop {w0 w : World} {b : StoreB} {rb : RefB} {r : Ref} (h : Two w0 w b rb r r) (k l : Int) (s : Bytes) (hk : k = 5) :
    Calls Tryz.prog 16 #[ptrV b.d.d, ptrV b.s, ptrV rb.p, .agg #[intV k, intV l, strV s]] w (Did w0 b rb (r.drop l).2) := by
  have hok := h.s.refOk
  have hep1 := h.s.ep1
  have HT := Lib.hid (h.box 31 [intV k, intV l, strV s])
  have HB := Lib.hid (HT.out.bx)
  have k0 := HB.out.cell 0
  have k1 := HB.out.cell 1
  have k2 := HB.out.cell 2
  have HN : Hid (∀ w', Three w0 w' b rb r r w.heap.size 31 [intV k, intV l, strV s] → Calls Tryz.prog 33 #[ptrV b.s, intV l] w' fun e w'' => e = .returned (intV (r.drop l).1) ∧ ∃ b', b'.sd = b.sd ∧ Three w0 w'' b' rb (r.drop l).2 r w.heap.size 31 [intV k, intV l, strV s]) := Lib.hid fun w' h => h.drop l
  have HR : Hid (∀ w' b', Three w0 w' b' rb (r.drop l).2 r w.heap.size 31 [intV k, intV l, strV s] → Calls Tryz.prog 68 #[ptrV rb.p, intV l] w' fun e w'' => e = .returned (intV (r.drop l).1) ∧ ∃ rb', rb'.p = rb.p ∧ Three w0 w'' b' rb' (r.drop l).2 (r.drop l).2 w.heap.size 31 [intV k, intV l, strV s]) := Lib.hid fun w' b' h => h.rdrop hok l
  generalize r.drop l = RES at *
  obtain ⟨RE, R2⟩ := RES
  dsimp only at HN HR ⊢
  clear h hok hep1
  subst hk
  go_enter Tryz.func16, Tryz.ntmps16
  go_wp2_with fail
  clear k0 k2
  refine wp_region_late (fun w' => w'.cell? ⟨w.heap.size, 1, none⟩ = some (intV l)) (fun _ => false) (by kernel_rfl) 12 rfl ?_
  have kd : (w.alloc (.cells #[intV 5, intV l, strV s] 31)).drew.cell? ⟨w.heap.size, 1, none⟩ = some (intV l) := k1
  refine wpAnyL_pure (v := ?v0) 0 46 rfl rfl (by kernel_rfl) (by kernel_rfl) (by kernel_rfl) (by rfl) (fun _ _ _ h => h) ?hy0 ?rest0
  case hy0 => intro w; go_simp; with_reducible rfl
  simp only [List.setIfInBounds_toArray, List.set_cons_zero, List.set_cons_succ]
  refine wpAnyL_pure (v := ?v1) 1 47 rfl rfl (by kernel_rfl) (by kernel_rfl) (by kernel_rfl) (by rfl) (fun _ _ _ h => h) ?hy1 ?rest1
  case hy1 => intro w; go_simp; with_reducible rfl
  simp only [List.setIfInBounds_toArray, List.set_cons_zero, List.set_cons_succ]
  refine wpAnyL_pure (v := ?v2) 2 48 rfl rfl (by kernel_rfl) (by kernel_rfl) (by kernel_rfl) (by rfl) (fun _ _ _ h => h) ?hy2 ?rest2
  case hy2 => intro w; go_simp; with_reducible rfl
  simp only [List.setIfInBounds_toArray, List.set_cons_zero, List.set_cons_succ]
  refine wpAnyL_load (v := ?v3) 3 49 rfl rfl (by kernel_rfl) (by kernel_rfl) (by kernel_rfl) (by kernel_rfl) (by rfl) (fun _ _ _ h => h) kd ?hy3 ?rest3
  case hy3 => intro w hS; obtain s1 := hS; go_simp; with_reducible rfl
  simp only [List.setIfInBounds_toArray, List.set_cons_zero, List.set_cons_succ]
  refine wpAnyL_pure (v := ?v5) 5 51 rfl rfl (by kernel_rfl) (by kernel_rfl) (by kernel_rfl) (by rfl) (fun _ _ _ h => h) ?hy5 ?rest5
  case hy5 => intro w; go_simp; with_reducible rfl
  simp only [List.setIfInBounds_toArray, List.set_cons_zero, List.set_cons_succ]
  refine wpAnyL_pure (v := ?v6) 6 52 rfl rfl (by kernel_rfl) (by kernel_rfl) (by kernel_rfl) (by rfl) (fun _ _ _ h => h) ?hy6 ?rest6
  case hy6 => intro w; go_simp; with_reducible rfl
  simp only [List.setIfInBounds_toArray, List.set_cons_zero, List.set_cons_succ]
  refine wpAnyL_load (v := ?v7) 7 53 rfl rfl (by kernel_rfl) (by kernel_rfl) (by kernel_rfl) (by kernel_rfl) (by rfl) (fun _ _ _ h => h) kd ?hy7 ?rest7
  case hy7 => intro w hS; obtain s1 := hS; go_simp; with_reducible rfl
  simp only [List.setIfInBounds_toArray, List.set_cons_zero, List.set_cons_succ]
  refine wpAnyL_call (f := 33) (args := #[ptrV b.s, intV l]) 4 50 rfl rfl (by kernel_rfl) (by rfl) ?hr4 (fun v w' => v = intV RE ∧ ∃ b', b'.sd = b.sd ∧ Three w0 w' b' rb R2 r w.heap.size 31 [intV 5, intV l, strV s]) ?hc4 ?rest4
  case hr4 => go_simp
  case hc4 => exact (HN.out _ (HT.out.on0 (Chg.refl _ _).drew)).mono fun e w' ⟨h1, h2⟩ => ⟨_, h1, rfl, h2⟩
  rintro v4 w4 ⟨rfl, b4, e4, h4⟩
  have E4 := Lib.hid e4
  have H4 := Lib.hid h4
  have k4 := h4.bx.cell 1
  refine ⟨fun _ _ => k4, ?_⟩
  clear e4 h4
  simp only [List.setIfInBounds_toArray, List.set_cons_zero, List.set_cons_succ]
  refine wpAnyL_call (f := 68) (args := #[ptrV rb.p, intV l]) 8 54 rfl rfl (by kernel_rfl) (by rfl) ?hr8 (fun v w' => v = intV RE ∧ ∃ rb', rb'.p = rb.p ∧ Three w0 w' b4 rb' R2 R2 w.heap.size 31 [intV 5, intV l, strV s]) ?hc8 ?rest8
  case hr8 => go_simp
  case hc8 => exact (HR.out _ _ H4.out).mono fun e w' ⟨h1, h2⟩ => ⟨_, h1, rfl, h2⟩
  rintro v8 w8 ⟨rfl, rb8, e8, h8⟩
  have E8 := Lib.hid e8
  have H8 := Lib.hid h8
  have k8 := h8.bx.cell 1
  refine ⟨fun _ _ => k8, ?_⟩
  clear e8 h8
  simp only [List.setIfInBounds_toArray, List.set_cons_zero, List.set_cons_succ]
  refine wpAnyL_pure (v := ?v9) 9 55 rfl rfl (by kernel_rfl) (by kernel_rfl) (by kernel_rfl) (by rfl) (fun _ _ _ h => h) ?hy9 ?rest9
  case hy9 => intro w; go_simp; with_reducible rfl
  simp only [List.setIfInBounds_toArray, List.set_cons_zero, List.set_cons_succ]
  refine wpAnyL_pure (v := ?v10) 10 8 rfl rfl (by kernel_rfl) (by kernel_rfl) (by kernel_rfl) (by rfl) (fun _ _ _ h => h) ?hy10 ?rest10
  case hy10 => intro w; go_simp; with_reducible rfl
  simp only [List.setIfInBounds_toArray, List.set_cons_zero, List.set_cons_succ]
  refine wpAnyL_pure (v := ?v11) 11 9 rfl rfl (by kernel_rfl) (by kernel_rfl) (by kernel_rfl) (by rfl) (fun _ _ _ h => h) ?hy11 ?rest11
  case hy11 => intro w; go_simp; with_reducible rfl
  simp only [List.setIfInBounds_toArray, List.set_cons_zero, List.set_cons_succ]
  refine wpAnyL_done (by kernel_rfl) ?_
  go_wp2_with fail
  go_ret2
  exact ⟨b4, rb8, by rw [StoreB.sd_s E4.out]; rfl, StoreB.sd_d E4.out, E8.out, H8.out.two⟩

set_option maxHeartbeats 2000000 in
theorem law14_do_commit {w0 w : World} {b : StoreB} {rb : RefB} {r : Ref} (h : Two w0 w b rb r r) (k l : Int) (s : Bytes) (hk : k = 6 ∨ k = 7) (hep : r.epoch ≤ 1099511627774) :
    Calls Tryz.prog 16 #[ptrV b.d.d, ptrV b.s, ptrV rb.p, .agg #[intV k, intV l, strV s]] w (Did w0 b rb r.commit.2) := by
  have hok := h.s.refOk
  have hep1 := h.s.ep1
  have HT := Lib.hid (h.box 31 [intV k, intV l, strV s])
  have HB := Lib.hid (HT.out.bx)
  have k0 := HB.out.cell 0
  have k1 := HB.out.cell 1
  have k2 := HB.out.cell 2
  have HN : Hid (∀ w', Three w0 w' b rb r r w.heap.size 31 [intV k, intV l, strV s] → Calls Tryz.prog 34 #[ptrV b.s] w' fun e w'' => e = .returned (intV r.commit.1) ∧ ∃ b', b'.sd = b.sd ∧ Three w0 w'' b' rb r.commit.2 r w.heap.size 31 [intV k, intV l, strV s]) := Lib.hid fun w' h => h.commit hep
  have HR : Hid (∀ w' b', Three w0 w' b' rb r.commit.2 r w.heap.size 31 [intV k, intV l, strV s] → Calls Tryz.prog 69 #[ptrV rb.p] w' fun e w'' => e = .returned (intV r.commit.1) ∧ ∃ rb', rb'.p = rb.p ∧ Three w0 w'' b' rb' r.commit.2 r.commit.2 w.heap.size 31 [intV k, intV l, strV s]) := Lib.hid fun w' b' h => h.rcommit hok ⟨by omega, by omega⟩
  generalize r.commit = RES at *
  obtain ⟨RE, R2⟩ := RES
  dsimp only at HN HR ⊢
  clear h hok hep1 hep
  rcases hk with rfl | rfl
  all_goals
    go_enter Tryz.func16, Tryz.ntmps16
    go_wp2_with (first | (go_at_call 34; (with_reducible refine (HN.out _ HT.out).mono ?_); rintro e w1 ⟨rfl, b1, e1, h1⟩; have E1 := Lib.hid e1; have H1 := Lib.hid h1; clear e1 h1) | (go_at_call 69; (with_reducible refine (HR.out _ _ H1.out).mono ?_); rintro e w2 ⟨rfl, rb1, e2, h2⟩; have E2 := Lib.hid e2; have H2 := Lib.hid h2; clear e2 h2))
    go_ret2
    exact ⟨b1, rb1, by rw [StoreB.sd_s E1.out]; rfl, StoreB.sd_d E1.out, E2.out, H2.out.two⟩

set_option maxHeartbeats 2000000 in
theorem law14_do_abort {w0 w : World} {b : StoreB} {rb : RefB} {r : Ref} (h : Two w0 w b rb r r) (k l : Int) (s : Bytes) (hk : k = 8) :
    Calls Tryz.prog 16 #[ptrV b.d.d, ptrV b.s, ptrV rb.p, .agg #[intV k, intV l, strV s]] w (Did w0 b rb r.abort) := by
  have hok := h.s.refOk
  have hep1 := h.s.ep1
  have HT := Lib.hid (h.box 31 [intV k, intV l, strV s])
  have HB := Lib.hid (HT.out.bx)
  have k0 := HB.out.cell 0
  have k1 := HB.out.cell 1
  have k2 := HB.out.cell 2
  have HR : Hid (∀ w', Three w0 w' b rb r r w.heap.size 31 [intV k, intV l, strV s] → Calls Tryz.prog 70 #[ptrV rb.p] w' fun e w'' => e = .returned (.tuple #[]) ∧ ∃ rb', rb'.p = rb.p ∧ Three w0 w'' b rb' r r.abort w.heap.size 31 [intV k, intV l, strV s]) := Lib.hid fun w' h => h.rabort
  have HN : Hid (∀ w' rb', Three w0 w' b rb' r r.abort w.heap.size 31 [intV k, intV l, strV s] → Calls Tryz.prog 35 #[ptrV b.s] w' fun e w'' => e = .returned (.bool true) ∧ ∃ b', b'.sd = b.sd ∧ Three w0 w'' b' rb' r.abort r.abort w.heap.size 31 [intV k, intV l, strV s]) := Lib.hid fun w' rb' h => h.abort
  generalize r.abort = R2 at *
  clear h hok hep1
  subst hk
  go_enter Tryz.func16, Tryz.ntmps16
  go_wp2_with (first | (go_at_call 70; (with_reducible refine (HR.out _ HT.out).mono ?_); rintro e w1 ⟨rfl, rb1, e1, h1⟩; have E1 := Lib.hid e1; have H1 := Lib.hid h1; clear e1 h1) | (go_at_call 35; (with_reducible refine (HN.out _ _ H1.out).mono ?_); rintro e w2 ⟨rfl, b2, e2, h2⟩; have E2 := Lib.hid e2; have H2 := Lib.hid h2; clear e2 h2))
  go_ret2
  exact ⟨b2, rb1, by rw [StoreB.sd_s E2.out]; rfl, StoreB.sd_d E2.out, E1.out, H2.out.two⟩

set_option maxHeartbeats 2000000 in
theorem law14_do_open {w0 w : World} {b : StoreB} {rb : RefB} {r : Ref} (h : Two w0 w b rb r r) (k l : Int) (s : Bytes) (hk : k = 9) :
    Calls Tryz.prog 16 #[ptrV b.d.d, ptrV b.s, ptrV rb.p, .agg #[intV k, intV l, strV s]] w (Did w0 b rb r.abort) := by
  have hok := h.s.refOk
  have hep1 := h.s.ep1
  have HT := Lib.hid (h.box 31 [intV k, intV l, strV s])
  have HB := Lib.hid (HT.out.bx)
  have k0 := HB.out.cell 0
  have k1 := HB.out.cell 1
  have k2 := HB.out.cell 2
  have HN : Hid (∀ w', Three w0 w' b rb r r w.heap.size 31 [intV k, intV l, strV s] → Calls Tryz.prog 30 #[ptrV b.d.d] w' fun e w'' => ∃ sb : StoreB, e = .returned (.tuple #[ptrV sb.s, intV 0]) ∧ sb.d = b.d ∧ Three w0 w'' sb rb r.abort r w.heap.size 31 [intV k, intV l, strV s]) := Lib.hid fun w' h => h.open_
  have HR : Hid (∀ w' b', Three w0 w' b' rb r.abort r w.heap.size 31 [intV k, intV l, strV s] → Calls Tryz.prog 70 #[ptrV rb.p] w' fun e w'' => e = .returned (.tuple #[]) ∧ ∃ rb', rb'.p = rb.p ∧ Three w0 w'' b' rb' r.abort r.abort w.heap.size 31 [intV k, intV l, strV s]) := Lib.hid fun w' b' h => h.rabort
  generalize r.abort = R2 at *
  clear h hok hep1
  subst hk
  go_enter Tryz.func16, Tryz.ntmps16
  go_wp2_with (first | (go_at_call 30; (with_reducible refine (HN.out _ HT.out).mono ?_); rintro e w1 ⟨b1, rfl, e1, h1⟩; have E1 := Lib.hid e1; have H1 := Lib.hid h1; clear e1 h1) | (go_at_call 70; (with_reducible refine (HR.out _ _ H1.out).mono ?_); rintro e w2 ⟨rfl, rb1, e2, h2⟩; have E2 := Lib.hid e2; have H2 := Lib.hid h2; clear e2 h2))
  go_ret2
  exact ⟨b1, rb1, rfl, E1.out, E2.out, H2.out.two⟩

set_option maxHeartbeats 2000000 in
theorem law14_do_write {w0 w : World} {b : StoreB} {rb : RefB} {r : Ref} (h : Two w0 w b rb r r) (k l : Int) (s : Bytes) (hs : s.length ≤ 60000) (hk : k ≠ 0 ∧ k ≠ 1 ∧ k ≠ 5 ∧ k ≠ 6 ∧ k ≠ 7 ∧ k ≠ 8 ∧ k ≠ 9) :
    Calls Tryz.prog 16 #[ptrV b.d.d, ptrV b.s, ptrV rb.p, .agg #[intV k, intV l, strV s]] w (Did w0 b rb (r.write l s).2) := by
  have hok := h.s.refOk
  have hep1 := h.s.ep1
  have HT := Lib.hid (h.box 31 [intV k, intV l, strV s])
  have HB := Lib.hid (HT.out.bx)
  have k0 := HB.out.cell 0
  have k1 := HB.out.cell 1
  have k2 := HB.out.cell 2
  have HN : Hid (∀ w', Three w0 w' b rb r r w.heap.size 31 [intV k, intV l, strV s] → Calls Tryz.prog 32 #[ptrV b.s, intV l, strV s] w' fun e w'' => e = .returned (intV (r.write l s).1) ∧ ∃ b', b'.sd = b.sd ∧ Three w0 w'' b' rb (r.write l s).2 r w.heap.size 31 [intV k, intV l, strV s]) := Lib.hid fun w' h => h.write l s hs
  have HR : Hid (∀ w' b', Three w0 w' b' rb (r.write l s).2 r w.heap.size 31 [intV k, intV l, strV s] → Calls Tryz.prog 71 #[ptrV rb.p, intV l, strV s] w' fun e w'' => e = .returned (intV (r.write l s).1) ∧ ∃ rb', rb'.p = rb.p ∧ Three w0 w'' b' rb' (r.write l s).2 (r.write l s).2 w.heap.size 31 [intV k, intV l, strV s]) := Lib.hid fun w' b' h => h.rwrite hok l s hs
  generalize r.write l s = RES at *
  obtain ⟨RE, R2⟩ := RES
  dsimp only at HN HR ⊢
  obtain ⟨z0, z1, z5, z6, z7, z8, z9⟩ : (k == 0) = false ∧ (k == 1) = false ∧ (k == 5) = false ∧ (k == 6) = false ∧ (k == 7) = false ∧ (k == 8) = false ∧ (k == 9) = false := by simpa using hk
  clear h hok hep1 hs hk
  go_enter Tryz.func16, Tryz.ntmps16
  go_wp2_with fail
  clear k0
  refine wp_region_late (fun w' => w'.cell? ⟨w.heap.size, 1, none⟩ = some (intV l) ∧ w'.cell? ⟨w.heap.size, 2, none⟩ = some (strV s)) (fun _ => false) (by kernel_rfl) 16 rfl ?_
  have kd : (w.alloc (.cells #[intV k, intV l, strV s] 31)).drew.cell? ⟨w.heap.size, 1, none⟩ = some (intV l) ∧ (w.alloc (.cells #[intV k, intV l, strV s] 31)).drew.cell? ⟨w.heap.size, 2, none⟩ = some (strV s) := ⟨k1, k2⟩
  refine wpAnyL_pure (v := ?v0) 0 88 rfl rfl (by kernel_rfl) (by kernel_rfl) (by kernel_rfl) (by rfl) (fun _ _ _ h => h) ?hy0 ?rest0
  case hy0 => intro w; go_simp; with_reducible rfl
  simp only [List.setIfInBounds_toArray, List.set_cons_zero, List.set_cons_succ]
  refine wpAnyL_pure (v := ?v1) 1 89 rfl rfl (by kernel_rfl) (by kernel_rfl) (by kernel_rfl) (by rfl) (fun _ _ _ h => h) ?hy1 ?rest1
  case hy1 => intro w; go_simp; with_reducible rfl
  simp only [List.setIfInBounds_toArray, List.set_cons_zero, List.set_cons_succ]
  refine wpAnyL_pure (v := ?v2) 2 90 rfl rfl (by kernel_rfl) (by kernel_rfl) (by kernel_rfl) (by rfl) (fun _ _ _ h => h) ?hy2 ?rest2
  case hy2 => intro w; go_simp; with_reducible rfl
  simp only [List.setIfInBounds_toArray, List.set_cons_zero, List.set_cons_succ]
  refine wpAnyL_load (v := ?v3) 3 91 rfl rfl (by kernel_rfl) (by kernel_rfl) (by kernel_rfl) (by kernel_rfl) (by rfl) (fun _ _ _ h => h) kd ?hy3 ?rest3
  case hy3 => intro w hS; obtain ⟨s1, s2⟩ := hS; go_simp; with_reducible rfl
  simp only [List.setIfInBounds_toArray, List.set_cons_zero, List.set_cons_succ]
  refine wpAnyL_pure (v := ?v4) 4 92 rfl rfl (by kernel_rfl) (by kernel_rfl) (by kernel_rfl) (by rfl) (fun _ _ _ h => h) ?hy4 ?rest4
  case hy4 => intro w; go_simp; with_reducible rfl
  simp only [List.setIfInBounds_toArray, List.set_cons_zero, List.set_cons_succ]
  refine wpAnyL_load (v := ?v5) 5 93 rfl rfl (by kernel_rfl) (by kernel_rfl) (by kernel_rfl) (by kernel_rfl) (by rfl) (fun _ _ _ h => h) kd ?hy5 ?rest5
  case hy5 => intro w hS; obtain ⟨s1, s2⟩ := hS; go_simp; with_reducible rfl
  simp only [List.setIfInBounds_toArray, List.set_cons_zero, List.set_cons_succ]
  refine wpAnyL_pure (v := ?v7) 7 95 rfl rfl (by kernel_rfl) (by kernel_rfl) (by kernel_rfl) (by rfl) (fun _ _ _ h => h) ?hy7 ?rest7
  case hy7 => intro w; go_simp; with_reducible rfl
  simp only [List.setIfInBounds_toArray, List.set_cons_zero, List.set_cons_succ]
  refine wpAnyL_pure (v := ?v8) 8 96 rfl rfl (by kernel_rfl) (by kernel_rfl) (by kernel_rfl) (by rfl) (fun _ _ _ h => h) ?hy8 ?rest8
  case hy8 => intro w; go_simp; with_reducible rfl
  simp only [List.setIfInBounds_toArray, List.set_cons_zero, List.set_cons_succ]
  refine wpAnyL_load (v := ?v9) 9 97 rfl rfl (by kernel_rfl) (by kernel_rfl) (by kernel_rfl) (by kernel_rfl) (by rfl) (fun _ _ _ h => h) kd ?hy9 ?rest9
  case hy9 => intro w hS; obtain ⟨s1, s2⟩ := hS; go_simp; with_reducible rfl
  simp only [List.setIfInBounds_toArray, List.set_cons_zero, List.set_cons_succ]
  refine wpAnyL_pure (v := ?v10) 10 98 rfl rfl (by kernel_rfl) (by kernel_rfl) (by kernel_rfl) (by rfl) (fun _ _ _ h => h) ?hy10 ?rest10
  case hy10 => intro w; go_simp; with_reducible rfl
  simp only [List.setIfInBounds_toArray, List.set_cons_zero, List.set_cons_succ]
  refine wpAnyL_load (v := ?v11) 11 99 rfl rfl (by kernel_rfl) (by kernel_rfl) (by kernel_rfl) (by kernel_rfl) (by rfl) (fun _ _ _ h => h) kd ?hy11 ?rest11
  case hy11 => intro w hS; obtain ⟨s1, s2⟩ := hS; go_simp; with_reducible rfl
  simp only [List.setIfInBounds_toArray, List.set_cons_zero, List.set_cons_succ]
  refine wpAnyL_call (f := 32) (args := #[ptrV b.s, intV l, strV s]) 6 94 rfl rfl (by kernel_rfl) (by rfl) ?hr6 (fun v w' => v = intV RE ∧ ∃ b', b'.sd = b.sd ∧ Three w0 w' b' rb R2 r w.heap.size 31 [intV k, intV l, strV s]) ?hc6 ?rest6
  case hr6 => go_simp
  case hc6 => exact (HN.out _ (HT.out.on0 (Chg.refl _ _).drew)).mono fun e w' ⟨h1, h2⟩ => ⟨_, h1, rfl, h2⟩
  rintro v4 w4 ⟨rfl, b4, e4, h4⟩
  have E4 := Lib.hid e4
  have H4 := Lib.hid h4
  have k4 := h4.bx.cell 1
  have m4 := h4.bx.cell 2
  refine ⟨fun _ _ => ⟨k4, m4⟩, ?_⟩
  clear e4 h4
  simp only [List.setIfInBounds_toArray, List.set_cons_zero, List.set_cons_succ]
  refine wpAnyL_call (f := 71) (args := #[ptrV rb.p, intV l, strV s]) 12 100 rfl rfl (by kernel_rfl) (by rfl) ?hr12 (fun v w' => v = intV RE ∧ ∃ rb', rb'.p = rb.p ∧ Three w0 w' b4 rb' R2 R2 w.heap.size 31 [intV k, intV l, strV s]) ?hc12 ?rest12
  case hr12 => go_simp
  case hc12 => exact (HR.out _ _ H4.out).mono fun e w' ⟨h1, h2⟩ => ⟨_, h1, rfl, h2⟩
  rintro v8 w8 ⟨rfl, rb8, e8, h8⟩
  have E8 := Lib.hid e8
  have H8 := Lib.hid h8
  have k8 := h8.bx.cell 1
  have m8 := h8.bx.cell 2
  refine ⟨fun _ _ => ⟨k8, m8⟩, ?_⟩
  clear e8 h8
  simp only [List.setIfInBounds_toArray, List.set_cons_zero, List.set_cons_succ]
  refine wpAnyL_pure (v := ?v13) 13 101 rfl rfl (by kernel_rfl) (by kernel_rfl) (by kernel_rfl) (by rfl) (fun _ _ _ h => h) ?hy13 ?rest13
  case hy13 => intro w; go_simp; with_reducible rfl
  simp only [List.setIfInBounds_toArray, List.set_cons_zero, List.set_cons_succ]
  refine wpAnyL_pure (v := ?v14) 14 8 rfl rfl (by kernel_rfl) (by kernel_rfl) (by kernel_rfl) (by rfl) (fun _ _ _ h => h) ?hy14 ?rest14
  case hy14 => intro w; go_simp; with_reducible rfl
  simp only [List.setIfInBounds_toArray, List.set_cons_zero, List.set_cons_succ]
  refine wpAnyL_pure (v := ?v15) 15 9 rfl rfl (by kernel_rfl) (by kernel_rfl) (by kernel_rfl) (by rfl) (fun _ _ _ h => h) ?hy15 ?rest15
  case hy15 => intro w; go_simp; with_reducible rfl
  simp only [List.setIfInBounds_toArray, List.set_cons_zero, List.set_cons_succ]
  refine wpAnyL_done (by kernel_rfl) ?_
  go_wp2_with fail
  go_ret2
  exact ⟨b4, rb8, by rw [StoreB.sd_s E4.out]; rfl, StoreB.sd_d E4.out, E8.out, H8.out.two⟩

theorem law14_do {w0 w : World} {b : StoreB} {rb : RefB} {r : Ref} (h : Two w0 w b rb r r) (a : Act14) (hs : a.s.length ≤ 60000) (hep : r.epoch ≤ 1099511627774) :
    Calls Tryz.prog 16 #[ptrV b.d.d, ptrV b.s, ptrV rb.p, a.v] w (Did w0 b rb (r.act a)) := by
  obtain ⟨k, l, s⟩ := a
  unfold Ref.act
  dsimp only [Act14.v]
  by_cases h0 : k = 0 ∨ k = 1
  · rw [if_pos h0]; exact law14_do_new h k l s hs h0
  by_cases h5 : k = 5
  · rw [if_neg h0, if_pos h5]; exact law14_do_drop h k l s h5
  by_cases h6 : k = 6 ∨ k = 7
  · rw [if_neg h0, if_neg h5, if_pos h6]; exact law14_do_commit h k l s h6 hep
  by_cases h8 : k = 8
  · rw [if_neg h0, if_neg h5, if_neg h6, if_pos h8]; exact law14_do_abort h k l s h8
  by_cases h9 : k = 9
  · rw [if_neg h0, if_neg h5, if_neg h6, if_neg h8, if_pos h9]; exact law14_do_open h k l s h9
  · rw [if_neg h0, if_neg h5, if_neg h6, if_neg h8, if_neg h9]
    exact law14_do_write h k l s hs ⟨fun e => h0 (.inl e), fun e => h0 (.inr e), h5, fun e => h6 (.inl e), fun e => h6 (.inr e), h8, h9⟩

end Go.Proofs.YtjbpdgknhbnfgaaGreat

namespace Go.Proofs.YtjbpdgknhbnfgaaGreat
open Go.RowKit
set_option maxRecDepth 100000

def YesOk (w : World) (e : Ending) (w' : World) : Prop := e = .returned (.bool true) ∧ Chg [] w w'

def Ref.start (pg : Nat) : Ref := ⟨pg, [], [], 1⟩
theorem ref_start (w : World) (pg : Nat) : RefAt (w.alloc (.cells #[intV pg, .slice none 0 0, .slice none 0 0, intV 1, .bool false] 47)) ⟨w.heap.size, .slice none 0 0, .slice none 0 0⟩ (Ref.start pg) :=
  ⟨Blk.new w _ _, Own.nil _ _ _, Own.nil _ _ _, by simp [ownBlk], by simp [ownBlk]⟩

def Begun14 (w : World) (pg : Nat) (e : Ending) (w' : World) : Prop := ∃ (b : StoreB) (rb : RefB), e = .returned (.tuple #[ptrV b.d.d, ptrV b.s, ptrV rb.p]) ∧ Two w w' b rb (Ref.start pg) (Ref.start pg)

set_option maxHeartbeats 1000000 in
theorem law14_begun (pg : Nat) (w : World) (p1 : 1 ≤ pg) (p2 : pg ≤ 1000) :
    Calls Tryz.prog 13 #[intV pg] w (Begun14 w pg) := by
  have hn : ∀ wr, Calls Tryz.prog 55 #[intV (2 + 4 * (pg : Int))] wr fun e w' => ∃ b : DiskB, e = .returned (.tuple #[ptrV b.d, intV 0]) ∧ DiskAt w' b (Disk.new (2 + 4 * pg)) ∧ Chg [] wr w' ∧ ∀ k ∈ b.set, wr.heap.size ≤ k := fun wr => by
    have := disk_new_ok wr (2 + 4 * pg) (by omega) (by omega)
    rw [show (((2 + 4 * pg : Nat) : Int)) = 2 + 4 * (pg : Int) by omega] at this
    exact this
  have hfm := fun (wr : World) (b : DiskB) (hd : DiskAt wr b (Disk.new (2 + 4 * pg))) => shad_format p1 p2 hd
  have HN := Lib.hid hn
  have HFM := Lib.hid hfm
  clear hn hfm
  have hpI : (pg : Int) ≤ 1000 := by omega
  go_enter Tryz.func13, Tryz.ntmps13
  go_wp2_with (first
    | (go_at_call 55; with_reducible refine (HN.out _).mono ?_; rintro e w1 ⟨b1, rfl, hd1, hc1, hb1⟩; have A1 := Lib.hid hd1; have C1 := Lib.hid hc1; have B1 := Lib.hid hb1; clear hd1 hc1 hb1)
    | (go_at_call 31; with_reducible refine (HFM.out _ _ A1.out).mono ?_; rintro e w2 ⟨b2, rfl, hb2, hs2, hc2, hn2⟩; have A2 := Lib.hid hs2; have C2 := Lib.hid hc2; have B2 := Lib.hid hn2; have E2 := Lib.hid hb2; clear hb2 hs2 hc2 hn2))
  go_ret3
  have k1 := C1.out
  have k2 : Chg [] w w2 := k1.trans C2.out fun g hg => .inr (B1.out g hg)
  have hsn : ∀ k ∈ b2.set, w.heap.size ≤ k := fun k hk => by
    rcases B2.out k hk with h2 | h2
    · exact B1.out k h2
    · have := k1.size; omega
  refine ⟨b2, ⟨w2.heap.size, .slice none 0 0, .slice none 0 0⟩, by rw [E2.out]; rfl, A2.out.kept0 ((Chg.refl _ _).alloc _), ref_start w2 pg, fun k hk hm => ?_, hsn, fun k hk => ?_, k2.alloc _⟩
  · simp [RefB.set, ownBlk] at hm
    subst hm
    exact absurd (A2.out.lt _ hk) (Nat.lt_irrefl _)
  · simp [RefB.set, ownBlk] at hk
    subst hk
    exact k2.size

/-! awake -/
theorem awake_facts : (Ref.start 12).new [97] = (0, 0, ⟨12, [⟨true, true, pad [97]⟩], [], 1⟩) ∧
    (⟨12, [⟨true, true, pad [97]⟩], [], 1⟩ : Ref).commit = (0, ⟨12, [⟨true, false, pad [97]⟩], [⟨true, false, pad [97]⟩], 2⟩) ∧
    (⟨12, [⟨true, false, pad [97]⟩], [⟨true, false, pad [97]⟩], 2⟩ : Ref).write 0 [98] = (0, ⟨12, [⟨true, true, pad [98]⟩], [⟨true, false, pad [97]⟩], 2⟩) ∧
    (⟨12, [⟨true, true, pad [98]⟩], [⟨true, false, pad [97]⟩], 2⟩ : Ref).abort = ⟨12, [⟨true, false, pad [97]⟩], [⟨true, false, pad [97]⟩], 2⟩ := by
  refine ⟨?_, ?_, ?_, rfl⟩ <;> kernel_rfl

def SIs (w0 w : World) (s : Nat) (r : Ref) : Prop := ∃ b : StoreB, b.s = s ∧ ShadIs w b r ∧ (∀ k ∈ b.set, w0.heap.size ≤ k) ∧ Chg [] w0 w
section
variable {w0 w w' : World} {s : Nat} {r r' : Ref}
theorem SIs.on0 (h : SIs w0 w s r) (hc : Chg [] w w') : SIs w0 w' s r := by
  obtain ⟨b, h1, h2, h3, h4⟩ := h
  exact ⟨b, h1, h2.kept0 hc, h3, h4.trans0 hc⟩
theorem SIs.step {b : StoreB} (h1 : b.s = s) (h3 : ∀ k ∈ b.set, w0.heap.size ≤ k) (h4 : Chg [] w0 w) (g : ShadTo b w w' r') : SIs w0 w' s r' := by
  obtain ⟨b', e, g1, g2⟩ := g
  refine ⟨b', (StoreB.sd_s e).trans h1, g1, fun k hk => ?_, h4.trans g2.chg fun k hk => .inr (h3 k hk)⟩
  rcases g2.from_ k hk with h5 | h5
  · exact h3 k h5
  · have := h4.size; omega
theorem SIs.new (h : SIs w0 w s r) (p : Bytes) (hp : p.length ≤ 60000) : Calls Tryz.prog 28 #[ptrV s, strV p] w fun e w' => e = .returned (.tuple #[intV (r.new p).1, intV (r.new p).2.1]) ∧ SIs w0 w' s (r.new p).2.2 := by
  obtain ⟨b, h1, h2, h3, h4⟩ := h
  rw [← h1]
  exact (shad_new h2 p hp).mono fun _ _ ⟨g1, g2⟩ => ⟨g1, SIs.step rfl h3 h4 g2⟩
theorem SIs.write (h : SIs w0 w s r) (l : Int) (p : Bytes) (hp : p.length ≤ 60000) : Calls Tryz.prog 32 #[ptrV s, intV l, strV p] w fun e w' => e = .returned (intV (r.write l p).1) ∧ SIs w0 w' s (r.write l p).2 := by
  obtain ⟨b, h1, h2, h3, h4⟩ := h
  rw [← h1]
  exact (shad_write h2 l p hp).mono fun _ _ ⟨g1, g2⟩ => ⟨g1, SIs.step rfl h3 h4 g2⟩
theorem SIs.commit (h : SIs w0 w s r) (hep : r.epoch ≤ 1099511627774) : Calls Tryz.prog 34 #[ptrV s] w fun e w' => e = .returned (intV r.commit.1) ∧ SIs w0 w' s r.commit.2 := by
  obtain ⟨b, h1, h2, h3, h4⟩ := h
  rw [← h1]
  exact (shad_commit h2 hep).mono fun _ _ ⟨g1, g2⟩ => ⟨g1, SIs.step rfl h3 h4 g2⟩
theorem SIs.abort (h : SIs w0 w s r) : Calls Tryz.prog 35 #[ptrV s] w fun e w' => e = .returned (.bool true) ∧ SIs w0 w' s r.abort := by
  obtain ⟨b, h1, h2, h3, h4⟩ := h
  rw [← h1]
  exact (shad_abort h2).mono fun _ _ ⟨g1, g2⟩ => ⟨g1, SIs.step rfl h3 h4 g2⟩
theorem SIs.epoch (h : SIs w0 w s r) : Calls Tryz.prog 27 #[ptrV s] w fun e w' => e = .returned (intV r.epoch) ∧ w = w' := by
  obtain ⟨b, h1, h2, h3, h4⟩ := h
  rw [← h1]
  exact shad_epoch h2
theorem SIs.read0 (h : SIs w0 w s r) {x : RSlot} (hx : Ref.slot r.now 0 = x) (hi : x.is = true) : Calls Tryz.prog 29 #[ptrV s, intV 0] w fun e w' => e = .returned (.tuple #[strV x.b, intV 0]) ∧ SIs w0 w' s r := by
  obtain ⟨b, h1, h2, h3, h4⟩ := h
  rw [← h1]
  refine (shad_read h2 0).mono fun _ _ ⟨g1, g2⟩ => ⟨?_, b, rfl, h2.kept0 g2, h3, h4.trans0 g2⟩
  rw [g1, hx, hi]
  rfl
end

set_option maxHeartbeats 1000000 in
theorem law14_awake (w : World) : Calls Tryz.prog 14 #[] w (YesOk w) := by
  have hn : Calls Tryz.prog 55 #[intV 50] w fun e w' => ∃ b : DiskB, e = .returned (.tuple #[ptrV b.d, intV 0]) ∧ DiskAt w' b (Disk.new (2 + 4 * 12)) ∧ Chg [] w w' ∧ ∀ k ∈ b.set, w.heap.size ≤ k := disk_new_ok w 50 (by omega) (by omega)
  have hfm := fun (wr : World) (b : DiskB) (hd : DiskAt wr b (Disk.new (2 + 4 * 12))) (hc : Chg [] w wr) (hb : ∀ k ∈ b.set, w.heap.size ≤ k) => (show Calls Tryz.prog 31 #[ptrV b.d] wr fun e w' => ∃ s, e = .returned (.tuple #[ptrV s, intV 0]) ∧ SIs w w' s (Ref.start 12) from
    (shad_format (by omega) (by omega) hd).mono fun e w' ⟨sb, g1, g2, g3, g4, g5⟩ => ⟨sb.s, g1, sb, rfl, g3, fun k hk => (by rcases g5 k hk with h5 | h5; exact hb k h5; have := hc.size; omega), hc.trans g4 fun k hk => .inr (hb k hk)⟩)
  obtain ⟨e1, e2, e3, e4⟩ := awake_facts
  obtain ⟨xa, hxa⟩ : ∃ xa, xa = pad [97] := ⟨_, rfl⟩
  obtain ⟨xb, hxb⟩ : ∃ xb, xb = pad [98] := ⟨_, rfl⟩
  rw [← hxa] at e1 e2 e3 e4
  rw [← hxb] at e3 e4
  have hf1 := fun wr => ref_full [97] wr (by simp)
  have hf2 := fun wr => ref_full [98] wr (by simp)
  rw [← hxa] at hf1
  rw [← hxb] at hf2
  have hnw := fun (wr : World) (s : Nat) (h : SIs w wr s (Ref.start 12)) => h.new [97] (by simp)
  rw [e1] at hnw
  have hcm := fun (wr : World) (s : Nat) (h : SIs w wr s ⟨12, [⟨true, true, xa⟩], [], 1⟩) => h.commit (by simp)
  rw [e2] at hcm
  have hwr := fun (wr : World) (s : Nat) (h : SIs w wr s ⟨12, [⟨true, false, xa⟩], [⟨true, false, xa⟩], 2⟩) => h.write 0 [98] (by simp)
  rw [e3] at hwr
  have hab := fun (wr : World) (s : Nat) (h : SIs w wr s ⟨12, [⟨true, true, xb⟩], [⟨true, false, xa⟩], 2⟩) => h.abort
  rw [e4] at hab
  have hr1 := fun (wr : World) (s : Nat) (h : SIs w wr s ⟨12, [⟨true, true, xb⟩], [⟨true, false, xa⟩], 2⟩) => h.read0 (x := ⟨true, true, xb⟩) rfl rfl
  have hr2 := fun (wr : World) (s : Nat) (h : SIs w wr s ⟨12, [⟨true, false, xa⟩], [⟨true, false, xa⟩], 2⟩) => h.read0 (x := ⟨true, false, xa⟩) rfl rfl
  have hep := fun (wr : World) (s : Nat) (h : SIs w wr s ⟨12, [⟨true, false, xa⟩], [⟨true, false, xa⟩], 2⟩) => h.epoch
  have HN := Lib.hid hn
  have HFM := Lib.hid hfm
  have HNW := Lib.hid hnw
  have HCM := Lib.hid hcm
  have HWR := Lib.hid hwr
  have HAB := Lib.hid hab
  have HR1 := Lib.hid hr1
  have HR2 := Lib.hid hr2
  have HEP := Lib.hid hep
  have HF1 := Lib.hid hf1
  have HF2 := Lib.hid hf2
  clear hn hfm hnw hcm hwr hab hr1 hr2 hep hf1 hf2 e1 e2 e3 e4 hxa hxb
  go_enter Tryz.func14, Tryz.ntmps14
  go_wp2_with (first
    | (go_at_call 55; with_reducible refine HN.out.mono ?_; rintro e w1 ⟨b1, rfl, hd1, hc1, hb1⟩; have A1 := Lib.hid hd1; have C1 := Lib.hid hc1; have B1 := Lib.hid hb1; clear hd1 hc1 hb1)
    | (go_at_call 31; with_reducible refine (HFM.out _ _ A1.out C1.out B1.out).mono ?_; rintro e w2 ⟨s, rfl, h2⟩; have HP := Lib.hid h2; clear h2)
    | (go_at_call 28; with_reducible refine (HNW.out _ _ HP.out).mono ?_; rintro e w2 ⟨rfl, h2⟩; have HP := Lib.hid h2; clear h2)
    | (go_at_call 34; with_reducible refine (HCM.out _ _ HP.out).mono ?_; rintro e w2 ⟨rfl, h2⟩; have HP := Lib.hid h2; clear h2)
    | (go_at_call 32; with_reducible refine (HWR.out _ _ HP.out).mono ?_; rintro e w2 ⟨rfl, h2⟩; have HP := Lib.hid h2; clear h2)
    | (go_at_call 35; with_reducible refine (HAB.out _ _ HP.out).mono ?_; rintro e w2 ⟨rfl, h2⟩; have HP := Lib.hid h2; clear h2)
    | (go_at_call 29; (first | (with_reducible refine (HR1.out _ _ HP.out).mono ?_) | (with_reducible refine (HR2.out _ _ HP.out).mono ?_)); rintro e w2 ⟨rfl, h2⟩; have HP := Lib.hid h2; clear h2)
    | (go_at_call 27; with_reducible refine (HEP.out _ _ HP.out).mono ?_; rintro e w2 ⟨rfl, rfl⟩)
    | (go_at_call 43; (first | (with_reducible refine (HF1.out _).mono ?_) | (with_reducible refine (HF2.out _).mono ?_)); rintro e w2 ⟨rfl, h2⟩; have HP := Lib.hid (HP.out.on0 h2); clear h2))
  go_ret
  obtain ⟨b, -, -, -, hc⟩ := HP.out
  exact ⟨rfl, hc⟩

end Go.Proofs.YtjbpdgknhbnfgaaGreat
