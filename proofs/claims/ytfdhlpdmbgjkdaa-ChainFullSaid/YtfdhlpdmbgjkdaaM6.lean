/- A part of the walks of the program's functions, each a contract that its caller uses; no condition but what each theorem names. The walk of shadow.Write. The walk of shadow.Pages. The walk of shadow.Format. Frames of a pool, in memory and as plain Lean; slices.IndexFunc over them. The walk of slices.IndexFunc over frames. A pool in memory; the walks of find and of Store. Frames of a pool are read and set; the walks of held and Let. The closures of victim; ContainsFunc. -/
import Derived.Test.YtfdhlpdmbgjkdaaM5

namespace Go.Proofs.Ytfdhlpdmbgjkdaa
open Go.RowKit
set_option maxRecDepth 100000

theorem store_spot {w : World} {b : StoreB} {S : Store} (h : StoreAt w b S) (i : Nat) (hi : i < S.table.length) :
    ∃ g cap, b.tv = .slice (some ⟨g, 0, none⟩) S.table.length cap ∧ g ∈ b.set ∧ S.table.length ≤ cap ∧ cap ≤ maxLen ∧ ∀ (w' : World) (S' : Store), S'.table = S.table → StoreAt w' b S' →
      w'.cell? ⟨b.s, 0, none⟩ = some (ptrV b.d.d) ∧ w'.cell? ⟨b.s, 1, none⟩ = some (ptrV b.m.m) ∧ w'.cell? ⟨b.s, 2, none⟩ = some (.slice (some ⟨g, 0, none⟩) S.table.length cap) ∧
      w'.cell? ⟨g, i, none⟩ = some (intV S.table[i]) ∧ w'.frozen? ⟨g, i, none⟩ = false := by
  obtain ⟨g, cap, hv, -, -, hnc, hcm⟩ := table_cell h i hi
  refine ⟨g, cap, hv, ?_, hnc, hcm, fun w' S' ht h' => ?_⟩
  · obtain ⟨c, rfl⟩ : ∃ c, cap = c + 1 := ⟨cap - 1, by omega⟩
    simp [StoreB.set, hv, ownBlk]
  · obtain ⟨g', cap', hv', hc', hf', -, -⟩ := table_cell h' i (by rw [ht]; exact hi)
    obtain ⟨x0, x1, x2, -, -⟩ := h'.cells
    rw [hv] at hv' x2
    simp [ht] at hv'
    obtain ⟨rfl, rfl⟩ := hv'
    refine ⟨x0, x1, x2, ?_, hf'⟩
    rw [hc']
    simp [ht]

theorem StoreAt.setT' {w : World} {b : StoreB} {S : Store} (h : StoreAt w b S) {g cap n : Nat} (hv : b.tv = .slice (some ⟨g, 0, none⟩) n cap) (hn : n = S.table.length) (i : Nat) (hi : i < n) (x : Int) :
    StoreAt (w.setCell ⟨g, i, none⟩ (intV x)) b { S with table := S.table.set i x } := by
  subst hn
  exact h.setT hv i hi x

set_option maxHeartbeats 2000000 in
theorem store_write {w : World} {b : StoreB} {S : Store} (h : StoreAt w b S) (hok : S.Ok) (l : Int) (pl : Bytes) (hlp : pl.length ≤ 60000) :
    Calls Try.prog 89 #[ptrV b.s, intV l, strV pl] w fun e w' => e = .returned (intV (S.write l pl).1) ∧ StoreTo b w w' (S.write l pl).2 := by
  have hw := store_works h
  have hat := store_at h hok l
  unfold Store.works at hw
  unfold Store.write
  have HW := Lib.hid hw
  have HAT := Lib.hid hat
  have HH := Lib.hid h
  by_cases hbr : S.broken = true
  · rw [if_pos hbr]
    have HW2 : Hid (Calls Try.prog 49 #[ptrV b.s] w fun e w' => e = .returned (intV 13) ∧ w = w') := Lib.hid (by rw [if_pos hbr] at hw; exact hw)
    clear hw hat h hok hbr HW
    go_enter Try.func89, Try.ntmps89
    go_wp2_with (go_at_call 49; refine HW2.out.mono ?_; rintro e w' ⟨rfl, rfl⟩)
    go_ret
    exact ⟨rfl, StoreTo.same HH.out HH.out (Chg.refl [] _) (by simp)⟩
  · rw [if_neg hbr]
    have HW2 : Hid (Calls Try.prog 49 #[ptrV b.s] w fun e w' => e = .returned (intV 0) ∧ w = w') := Lib.hid (by rw [if_neg hbr] at hw; exact hw)
    clear hw HW
    by_cases hl : 232 < pl.length
    · rw [if_pos hl]
      have hl2 : (232 : Int) < (pl.length : Int) := by omega
      clear hat h hok hbr hl
      go_enter Try.func89, Try.ntmps89
      go_wp2_with (go_at_call 49; refine HW2.out.mono ?_; rintro e w' ⟨rfl, rfl⟩)
      go_ret
      exact ⟨rfl, StoreTo.same HH.out HH.out (Chg.refl [] _) (by simp)⟩
    · rw [if_neg hl]
      have hl2 : (pl.length : Int) ≤ 232 := by omega
      by_cases h0 : S.at_ l = 0
      · rw [if_neg (by simp [h0])]
        obtain ⟨-, i, rfl, hi, hp⟩ := Store.at_zero h0
        rw [h0] at HAT
        rw [Store.tab_of hi]
        obtain ⟨g, cap, hv, hgb, hnc, hcm, hspot⟩ := store_spot h i hi
        obtain ⟨k0, k1, k2, k3, k4⟩ := hspot w S rfl h
        have hfl := map_fresh h.drew.m S.table[i]
        have hhi := hok.hi S.table[i] (List.getElem_mem hi)
        obtain ⟨n, hn⟩ : ∃ n : Nat, S.table[i] = n := ⟨S.table[i].toNat, by omega⟩
        have hput := store_put h.drew hok n (by omega) 2 (by omega) pl (by omega)
        have hfr := store_fresh h.drew hok pl (by omega)
        have hft := Store.fresh_table S pl
        have HD := Lib.hid h.drew
        rw [hn] at k3 hspot hfl ⊢
        have hil : (i : Int) < (S.table.length : Int) := by omega
        generalize FMap.fresh S.m n = fl at *
        cases fl
        · rw [if_neg (by simp)]
          generalize S.fresh pl = r at *
          obtain ⟨rp, re, rS⟩ := r
          dsimp only at hfr hft ⊢
          by_cases hre : re = 0
          · subst hre
            rw [if_neg (by simp)]
            have hlv := fun (w2 : World) (h2 : StoreAt w2 b rS) => map_leave h2.drew.m n
            have hset := fun (w3 : World) (M : FMap) (h3 : StoreAt w3 b { rS with m := M }) => StoreAt.setT' (S := { rS with m := M }) (g := g) (cap := cap) h3 hv (by show S.table.length = rS.table.length; rw [hft]) i hi rp
            dsimp only at hset
            rw [show S.table = rS.table from hft.symm, Int.toNat_natCast]
            generalize FMap.leave rS.m n = lv at *
            obtain ⟨lve, lvM⟩ := lv
            dsimp only at hlv hset ⊢
            have hsp2 := fun (w2 : World) (h2 : StoreAt w2 b rS) => hspot w2.drew rS hft h2.drew
            have hsp3 := fun (w2 : World) (h2 : StoreAt w2 b { rS with m := lvM }) => hspot w2 { rS with m := lvM } hft h2
            rw [show S.table = rS.table from hft.symm] at hsp2 hsp3
            have HL := Lib.hid (show S.table.length = rS.table.length by rw [hft])
            have HFL := Lib.hid hfl
            have HFR := Lib.hid hfr
            have HLV := Lib.hid hlv
            have HSET := Lib.hid hset
            have HSP2 := Lib.hid hsp2
            have HSP3 := Lib.hid hsp3
            have HGB := Lib.hid hgb
            rw [HL.out] at k2 hil hnc
            clear hfl hfr hlv hset hsp2 hsp3 hgb hspot hput hhi hn hft hat h hok hbr hl h0 hp HL hv
            clear hi
            generalize rS.table.length = tn at *
            go_enter Try.func89, Try.ntmps89
            go_wp2_with (first
              | (go_at_call 49; refine HW2.out.mono ?_; rintro e w' ⟨rfl, rfl⟩)
              | (go_at_call 54; refine HAT.out.mono ?_; rintro e w' ⟨rfl, rfl⟩))
            go_region_held3 (fun w' => w'.cell? ⟨b.s, 1, none⟩ = some (ptrV b.m.m) ∧ w'.cell? ⟨b.s, 2, none⟩ = some (.slice (some ⟨g, 0, none⟩) tn cap) ∧ w'.cell? ⟨g, i, none⟩ = some (intV n))
              (first | exact ⟨k1, k2, k3⟩)
              (first
              | (go_at_call 92; refine HFL.out.mono ?_; rintro e w3 ⟨rfl, rfl⟩))
            go_wp2_with (go_at_call 51; refine HFR.out.mono ?_; rintro e w2 ⟨rfl, h2, hc2⟩; obtain ⟨j0, j1, j2, j3, j4⟩ := HSP2.out _ h2; have H2 := Lib.hid h2; have C2 := Lib.hid (((Chg.refl (b.d.set ++ b.m.set) w).drew).trans1 hc2); clear h2 hc2)
            go_region_held3 (fun w' => w'.cell? ⟨b.s, 1, none⟩ = some (ptrV b.m.m) ∧ w'.cell? ⟨b.s, 2, none⟩ = some (.slice (some ⟨g, 0, none⟩) tn cap) ∧ w'.cell? ⟨g, i, none⟩ = some (intV n))
              (first | exact ⟨j1, j2, j3⟩ | exact ⟨i1, i2, i3⟩)
              (first
              | (go_at_call 55; refine (HLV.out _ H2.out).mono ?_; rintro e w3 ⟨rfl, hm3, hc3⟩; have H3 := Lib.hid (H2.out.drew.onM hm3 hc3); obtain ⟨i0, i1, i2, i3, i4⟩ := HSP3.out _ H3.out; have C3 := Lib.hid ((C2.out.drew.mono (dm_sub b)).trans1 (hc3.mono (m_sub b))); clear hm3 hc3))
            go_wp2_with fail
            go_ret
            exact ⟨rfl, StoreTo.same HH.out (HSET.out _ _ H3.out) (F := b.set) (C3.out.setCell _ _ (.inl HGB.out)) (fun _ h => h)⟩
          · rw [if_pos hre]
            have hb : (re == 0) = false := by simpa using hre
            have hb2 : (re != 0) = true := by simpa using hre
            have HFL := Lib.hid hfl
            have HFR := Lib.hid hfr
            clear hfl hfr hgb hspot hput hhi hn hft hat h hok hbr hl h0 hp hv hre
            clear hi
            generalize S.table.length = tn at *
            go_enter Try.func89, Try.ntmps89
            go_wp2_with (first
              | (go_at_call 49; refine HW2.out.mono ?_; rintro e w' ⟨rfl, rfl⟩)
              | (go_at_call 54; refine HAT.out.mono ?_; rintro e w' ⟨rfl, rfl⟩))
            go_region_held3 (fun w' => w'.cell? ⟨b.s, 1, none⟩ = some (ptrV b.m.m) ∧ w'.cell? ⟨b.s, 2, none⟩ = some (.slice (some ⟨g, 0, none⟩) tn cap) ∧ w'.cell? ⟨g, i, none⟩ = some (intV n))
              (first | exact ⟨k1, k2, k3⟩)
              (first
              | (go_at_call 92; refine HFL.out.mono ?_; rintro e w3 ⟨rfl, rfl⟩))
            go_wp2_with (go_at_call 51; refine HFR.out.mono ?_; rintro e w2 ⟨rfl, h2, hc2⟩; have H2 := Lib.hid h2; have C2 := Lib.hid (((Chg.refl (b.d.set ++ b.m.set) w).drew).trans1 hc2); clear h2 hc2)
            go_ret
            exact ⟨rfl, StoreTo.same HH.out H2.out C2.out (dm_sub b)⟩
        · rw [if_pos (by simp)]
          generalize S.put (n : Int) 2 pl = r at *
          obtain ⟨re, rS⟩ := r
          dsimp only at hput ⊢
          have HFL := Lib.hid hfl
          have HPUT := Lib.hid hput
          clear hfl hfr hgb hspot hput hhi hn hft hat h hok hbr hl h0 hp hv
          clear hi
          generalize S.table.length = tn at *
          go_enter Try.func89, Try.ntmps89
          go_wp2_with (first
            | (go_at_call 49; refine HW2.out.mono ?_; rintro e w' ⟨rfl, rfl⟩)
            | (go_at_call 54; refine HAT.out.mono ?_; rintro e w' ⟨rfl, rfl⟩))
          go_region_held3 (fun w' => w'.cell? ⟨b.s, 1, none⟩ = some (ptrV b.m.m) ∧ w'.cell? ⟨b.s, 2, none⟩ = some (.slice (some ⟨g, 0, none⟩) tn cap) ∧ w'.cell? ⟨g, i, none⟩ = some (intV n))
            (first | exact ⟨k1, k2, k3⟩)
            (first
            | (go_at_call 92; refine HFL.out.mono ?_; rintro e w3 ⟨rfl, rfl⟩))
          go_wp2_with (go_at_call 64; refine HPUT.out.mono ?_; rintro e w2 ⟨rfl, h2, hc2⟩; have H2 := Lib.hid h2; have C2 := Lib.hid (((Chg.refl b.d.set w).drew).trans1 hc2); clear h2 hc2)
          go_ret
          exact ⟨rfl, StoreTo.same HH.out H2.out C2.out (d_sub b)⟩
      · rw [if_pos h0]
        have hb : (S.at_ l == 0) = false := by simpa using h0
        have hb2 : (S.at_ l != 0) = true := by simpa using h0
        clear hat h hok h0 hbr hl
        generalize S.at_ l = x at *
        go_enter Try.func89, Try.ntmps89
        go_wp2_with (first
          | (go_at_call 49; refine HW2.out.mono ?_; rintro e w' ⟨rfl, rfl⟩)
          | (go_at_call 54; refine HAT.out.mono ?_; rintro e w' ⟨rfl, rfl⟩))
        go_ret
        exact ⟨rfl, StoreTo.same HH.out HH.out (Chg.refl [] _) (by simp)⟩

end Go.Proofs.Ytfdhlpdmbgjkdaa

namespace Go.Proofs.Ytfdhlpdmbgjkdaa
open Go.RowKit
set_option maxRecDepth 100000

def pagesTo (L : List Int) (k : Nat) : List Int := ((List.range k).filter (fun (i : Nat) => decide (0 ≤ L.getD i 0))).map (fun (i : Nat) => (i : Int))
theorem pagesTo_all (S : Store) : pagesTo S.table S.table.length = S.pages := rfl
theorem pagesTo_yes (L : List Int) (k : Nat) (h : 0 ≤ L.getD k 0) : pagesTo L (k + 1) = pagesTo L k ++ [(k : Int)] := by
  unfold pagesTo
  rw [List.range_succ, List.filter_append, List.map_append]
  simp only [List.filter_cons, List.filter_nil]
  rw [if_pos (by simpa using h)]
  rfl
theorem pagesTo_no (L : List Int) (k : Nat) (h : ¬ 0 ≤ L.getD k 0) : pagesTo L (k + 1) = pagesTo L k := by
  unfold pagesTo
  rw [List.range_succ, List.filter_append, List.map_append]
  simp only [List.filter_cons, List.filter_nil]
  rw [if_neg (by simpa using h)]
  simp
theorem pagesTo_len (L : List Int) (k : Nat) : (pagesTo L k).length ≤ k := by
  unfold pagesTo
  rw [List.length_map]
  exact Nat.le_trans (List.length_filter_le _ _) (by simp)

set_option maxHeartbeats 1000000 in
theorem store_pages {w : World} {b : StoreB} {S : Store} (h : StoreAt w b S) (hok : S.Ok) :
    Calls Try.prog 17 #[ptrV b.s] w fun e w' => ∃ a c, e = .returned (.slice a S.pages.length c) ∧ Own w' 3 1 (.slice a S.pages.length c) S.pages.length (ints S.pages) ∧ Chg [] w w' := by
  obtain ⟨-, -, k2, -, -⟩ := h.cells
  obtain ⟨ad0, c0, htv, hnc0, hcm0⟩ := h.t.shape
  rw [htv] at k2
  have hf := hok.tl
  have hsp : ∀ (k : Nat), k < S.table.length → ∃ g, ad0 = some ⟨g, 0, none⟩ ∧ ∀ wr, Chg [] w wr → wr.cell? ⟨g, k, none⟩ = some (intV (S.table.getD k 0)) := fun k hk => by
    obtain ⟨g, cap, hv, -, -, -, hs⟩ := store_spot h k hk
    rw [htv] at hv
    simp at hv
    obtain ⟨rfl, rfl⟩ := hv
    refine ⟨g, rfl, fun wr hc => ?_⟩
    have := (hs wr S rfl (h.kept hc (by simp))).2.2.2.1
    simpa [List.getD, hk] using this
  have HS := Lib.hid hsp
  clear h hsp hok htv
  rw [← pagesTo_all]
  generalize S.table = L at *
  go_enter Try.func17, Try.ntmps17
  go_wp2
  go_loopw [3, 14] (fun v i wr => ∃ k : Nat, k ≤ L.length ∧ i = .int .i64 k ∧ Own wr 3 1 v (pagesTo L k).length (ints (pagesTo L k)) ∧ Chg [] w wr ∧ ∀ g ∈ ownBlk v, w.heap.size ≤ g) (fun _ i _ => L.length - (intOf i).toNat)
  case atStart => exact ⟨0, Nat.zero_le _, rfl, Own.nil _ _ _, Chg.refl _ _, by simp [ownBlk]⟩
  case round =>
    obtain ⟨k, hk, rfl, hown, hc, hge⟩ := hrel
    obtain ⟨ad, c, rfl, hnc, hcm⟩ := hown.shape
    have hlen := pagesTo_len L k
    by_cases hlt : k < L.length
    · obtain ⟨g, rfl, hs⟩ := HS.out k hlt
      have z1 := hs wr hc
      have HY := Lib.hid (pagesTo_yes L k)
      have HN := Lib.hid (pagesTo_no L k)
      have HO := Lib.hid hown
      have HC := Lib.hid hc
      have HG := Lib.hid hge
      clear hown hc hge hs
      generalize L.getD k 0 = kd at *
      by_cases hb : 0 ≤ kd
      · have hy := HY.out hb
        have HY2 := Lib.hid hy
        clear hy HY HN
        go_wp2_with (refine wpList_append rfl (.tmp 21) (.tmp 23) 34 34 rfl 3 1 8 (intV 0) Try.underlying34 info_int rfl (by omega) (.slice ad (pagesTo L k).length c) (pagesTo L k).length 1 _ _ rfl (HO.out.alloc _) (src_one Try.underlying34 wr _ rfl 3) (by omega) (by unfold maxLen; omega) ?_; intro ad' c' w2 hown2 hc2 hge2 hcm2 hkc2)
        have hln : (pagesTo L (k + 1)).length = (pagesTo L k).length + 1 := by rw [HY2.out]; simp
        have hint : ints (pagesTo L (k + 1)) = ints (pagesTo L k) ++ [intV k] := by rw [HY2.out]; simp [ints]
        have hown3 : Own w2 3 1 (.slice ad' ((pagesTo L k).length + 1) c') (pagesTo L (k + 1)).length (ints (pagesTo L (k + 1))) := by
          rw [hln, hint]
          exact hown2
        have HO3 := Lib.hid hown3
        clear hln hint hown2 hown3
        go_roundw
        case rel =>
          refine ⟨k + 1, by omega, by go_num, HO3.out, (HC.out.alloc _).trans hc2 (fun g hg => .inr (HG.out g hg)), ?_⟩
          intro g hg
          rcases hge2 g hg with h | h
          · exact HG.out g h
          · have := HC.out.size
            simp at h
            omega
        case measure => simp [intOf]; omega
      · have hy := HN.out hb
        have HY2 := Lib.hid hy
        clear hy HY HN
        go_wp2
        go_roundw
        case rel => exact ⟨k + 1, by omega, by go_num, by rw [HY2.out]; exact HO.out, HC.out, HG.out⟩
        case measure => simp [intOf]; omega
    · obtain rfl : k = L.length := by omega
      have HO := Lib.hid hown
      have HC := Lib.hid hc
      clear hown hc hge
      go_wp2
      go_ret
      exact ⟨_, _, rfl, HO.out, HC.out⟩

end Go.Proofs.Ytfdhlpdmbgjkdaa

namespace Go.Proofs.Ytfdhlpdmbgjkdaa
open Go.RowKit
set_option maxRecDepth 100000

/-- What lies in memory while shadow.Format writes. -/
structure FmtAt (w wr : World) (b : DiskB) (D : Disk) (bm : MapB) (n : Nat) : Prop where
  d : DiskAt wr b D
  m : MapAt wr bm (List.replicate n 0)
  st : Blk wr w.heap.size 71 [ptrV b.d, ptrV bm.m, .slice none 0 0, .slice none 0 0, .slice none 0 0, intV 1, intV 0, .bool false]
  chg : Chg b.set w wr
  old : ∀ k ∈ b.set, k < w.heap.size
  new : ∀ k ∈ bm.set, w.heap.size < k

theorem FmtAt.on {w wr w2 : World} {b : DiskB} {D D2 : Disk} {bm : MapB} {n : Nat} (h : FmtAt w wr b D bm n) (hc : Chg b.set wr w2) (hd : DiskAt w2 b D2) : FmtAt w w2 b D2 bm n :=
  ⟨hd, h.m.kept hc (fun k hk hm => by have := h.new k hk; have := h.old k hm; omega), h.st.kept hc (fun hm => by have := h.old _ hm; omega), h.chg.trans1 hc, h.old, h.new⟩
theorem FmtAt.on0 {w wr w2 : World} {b : DiskB} {D : Disk} {bm : MapB} {n : Nat} (h : FmtAt w wr b D bm n) (hc : Chg [] wr w2) : FmtAt w w2 b D bm n :=
  h.on (hc.mono (by simp)) (h.d.kept hc (by simp))

theorem FmtAt.store {w wr : World} {b : DiskB} {D : Disk} {bm : MapB} {n : Nat} (h : FmtAt w wr b D bm n) :
    StoreAt wr ⟨w.heap.size, b, bm, .slice none 0 0, .slice none 0 0, .slice none 0 0⟩ ⟨D, List.replicate n 0, [], [], [], 1, 0, false⟩ := by
  refine ⟨h.d, h.m, Own.nil _ _ _, Own.nil _ _ _, Own.nil _ _ _, h.st, ?_⟩
  refine StoreB.Apart.nodup ⟨fun hm => ?_, fun hm => ?_, by simp [ownBlk], by simp [ownBlk], by simp [ownBlk], fun k hk hm => ?_, by simp [ownBlk], by simp [ownBlk], by simp [ownBlk], by simp [ownBlk], by simp [ownBlk], by simp [ownBlk], by simp [ownBlk], by simp [ownBlk], by simp [ownBlk]⟩
    h.d.nodup (by simpa [MapB.set] using h.m.ne)
  · have := h.old w.heap.size hm; omega
  · have := h.new w.heap.size hm; omega
  · have := h.new k hm; have := h.old k hk; omega

set_option maxHeartbeats 2000000 in
theorem store_format {w : World} {b : DiskB} {D D1 D2 D3 : Disk} (h : DiskAt w b D) (hp : 0 < D.pages) (h1 : D.write 0 (Root.bytes ⟨1, 0, []⟩) = (0, D1)) (h2 : D1.write 1 [] = (0, D2)) (h3 : D2.sync = (0, D3)) :
    Calls Try.prog 20 #[ptrV b.d] w fun e w' => ∃ sb : StoreB, e = .returned (.tuple #[ptrV sb.s, intV 0]) ∧ sb.d = b ∧
      StoreAt w' sb ⟨D3, List.replicate D.pages 0, [], [], [], 1, 0, false⟩ ∧ Chg b.set w w' ∧ ∀ k ∈ sb.set, k ∈ b.set ∨ w.heap.size ≤ k := by
  have hw1 := fun (wr : World) (hd : DiskAt wr b D) => (show Calls Try.prog 32 #[ptrV b.d, intV 0, strV (Root.bytes ⟨1, 0, []⟩)] wr fun e w' => e = .returned (intV 0) ∧ DiskAt w' b D1 ∧ Chg b.set wr w' by
    have := disk_write hd 0 (Root.bytes ⟨1, 0, []⟩); rw [h1] at this; exact this)
  have hw2 := fun (wr : World) (hd : DiskAt wr b D1) => (show Calls Try.prog 32 #[ptrV b.d, intV 1, strV []] wr fun e w' => e = .returned (intV 0) ∧ DiskAt w' b D2 ∧ Chg b.set wr w' by
    have := disk_write hd 1 []; rw [h2] at this; exact this)
  have hw3 := fun (wr : World) (hd : DiskAt wr b D2) => (show Calls Try.prog 33 #[ptrV b.d] wr fun e w' => e = .returned (intV 0) ∧ DiskAt w' b D3 ∧ Chg b.set wr w' by
    have := disk_sync hd; rw [h3] at this; exact this)
  have hpg := fun (wr : World) (hd : DiskAt wr b D) => shadow_pages hd
  have hle := (Disk.pages_le D).2
  have hmn := fun (wr : World) => map_new wr D.pages hp hle
  have hpu := fun (wr : World) => root_put_empty 1 wr (by omega) (by omega)
  have HW1 := Lib.hid hw1
  have HW2 := Lib.hid hw2
  have HW3 := Lib.hid hw3
  have HPG := Lib.hid hpg
  have HMN := Lib.hid hmn
  have HPU := Lib.hid hpu
  have HOLD := Lib.hid h.lt
  have HH := Lib.hid h
  have hp0 : ((D.pages : Int) == 0) = false := by simp; omega
  clear hw1 hw2 hw3 hpg hmn hpu h h1 h2 h3
  generalize Root.bytes ⟨1, 0, []⟩ = rb at *
  generalize D.pages = n at *
  have HB1 : Hid (Blk (w.alloc (.cells #[ptrV b.d, .pointer none, .slice none 0 0, .slice none 0 0, .slice none 0 0, intV 1, intV 0, .bool false] 71)) w.heap.size 71 [ptrV b.d, .pointer none, .slice none 0 0, .slice none 0 0, .slice none 0 0, intV 1, intV 0, .bool false]) := Lib.hid (Blk.new w _ _)
  go_enter Try.func20, Try.ntmps20
  go_wp2_with (first
    | (go_at_call 29; with_reducible refine (HPG.out w HH.out).mono ?_; rintro e w' ⟨rfl, rfl⟩)
    | (go_at_call 29; refine (HPG.out _ (HH.out.kept ((Chg.refl [] _).alloc _) (by simp))).mono ?_; rintro e w' ⟨rfl, rfl⟩)
    | (go_at_call 30; refine (HMN.out _).mono ?_; rintro e w2 ⟨bm, rfl, hm2, hc2, hn2⟩; have HM2 := Lib.hid hm2; have HC2 := Lib.hid hc2; have HN2 := Lib.hid hn2; have HB2 := Lib.hid (HB1.out.kept hc2 (by simp)); have c1 := HB2.out.cell 1; simp at c1; have f1 := HB2.out.free 1; clear hm2 hc2 hn2)
    | (go_at_call 31; refine (HPU.out _).mono ?_; rintro e w3 ⟨rfl, hc3⟩; have HC3 := Lib.hid hc3; clear hc3))
  have F2 : Hid (FmtAt w (w2.setCell ⟨w.heap.size, 1, none⟩ (ptrV bm.m)) b D bm n) := by
    have hc : Chg [w.heap.size] w2 (w2.setCell ⟨w.heap.size, 1, none⟩ (ptrV bm.m)) := (Chg.refl _ _).setCell _ _ (.inl (by simp))
    have hsz : ∀ k ∈ bm.set, w.heap.size < k := fun k hk => by
      have := HN2.out k hk
      simp at this
      omega
    refine Lib.hid ⟨((HH.out.kept ((Chg.refl [] w).alloc _) (by simp)).kept HC2.out (by simp)).kept hc (fun k hk hm => ?_), HM2.out.kept hc (fun k hk hm => ?_), HB2.out.set 1 _, (((Chg.refl _ w).alloc _).trans0 HC2.out).setCell _ _ (.inr (Nat.le_refl _)), HOLD.out, hsz⟩
    · simp at hm
      subst hm
      have := HOLD.out _ hk
      omega
    · simp at hm
      subst hm
      have := hsz _ hk
      omega
  have F3 := Lib.hid (F2.out.on0 HC3.out)
  have F4 := Lib.hid (F3.out.on0 ((Chg.refl [] w3).alloc (.cells #[strV rb, .string ⟨#[]⟩] 9)))
  have G4 : Hid (Blk (w3.alloc (.cells #[strV rb, .string ⟨#[]⟩] 9)) w3.heap.size 9 [strV rb, .string ⟨#[]⟩]) := Lib.hid (Blk.new w3 _ _)
  have GN : Hid (w3.heap.size ∉ b.set) := Lib.hid (fun hm => by have := F3.out.d.lt _ hm; omega)
  clear F2 HB2 HC2 HN2 HM2 HC3 c1 f1 HB1
  refine wp_loop_rounds 3 ?_
  rw [rounds_succ]
  go_wp2_with (first
    | (go_at_call 32; with_reducible refine (HW1.out _ F4.out.d).mono ?_; rintro e w5 ⟨rfl, hd5, hc5⟩; have F5 := Lib.hid (F4.out.on hc5 hd5); have G5 := Lib.hid (G4.out.kept hc5 GN.out); have c5 := G5.out.cell 1; simp at c5; clear hd5 hc5))
  rw [rounds_succ]
  go_wp2_with (first
    | (go_at_call 32; with_reducible refine (HW2.out _ F5.out.d).mono ?_; rintro e w6 ⟨rfl, hd6, hc6⟩; have F6 := Lib.hid (F5.out.on hc6 hd6); clear hd6 hc6))
  rw [rounds_succ]
  go_wp2_with (first
    | (go_at_call 33; with_reducible refine (HW3.out _ F6.out.d).mono ?_; rintro e w7 ⟨rfl, hd7, hc7⟩; have F7 := Lib.hid (F6.out.on hc7 hd7); clear hd7 hc7))
  refine bodyPost_ret (v := .tuple #[ptrV w.heap.size, intV 0]) (by simp [results, Try.results20, go_sem]) rfl ⟨⟨w.heap.size, b, bm, .slice none 0 0, .slice none 0 0, .slice none 0 0⟩, rfl, rfl, F7.out.store, F7.out.chg, fun k hk => ?_⟩
  simp only [StoreB.set, List.mem_cons, List.mem_append] at hk
  rcases hk with rfl | hk | hk | hk | hk | hk
  · exact .inr (Nat.le_refl _)
  · exact .inl hk
  · exact .inr (Nat.le_of_lt (F7.out.new k hk))
  · simp [ownBlk] at hk
  · simp [ownBlk] at hk
  · simp [ownBlk] at hk

end Go.Proofs.Ytfdhlpdmbgjkdaa

namespace Go.Proofs.Ytfdhlpdmbgjkdaa
open Go.RowKit
set_option maxRecDepth 100000

structure Frame where
  page : Int
  payload : Bytes
  held : Int
  dirty : Bool
  used : Bool
def Frame.empty : Frame := ⟨-1, [], 0, false, false⟩
def Frame.cells (f : Frame) : List Value := [intV f.page, strV f.payload, intV f.held, .bool f.dirty, .bool f.used]
def framesCells (L : List Frame) : List Value := L.flatMap Frame.cells
def idxWhere (L : List Frame) (pr : Frame → Bool) : Int := if L.findIdx pr < L.length then (L.findIdx pr : Int) else -1

theorem framesCells_length (L : List Frame) : (framesCells L).length = L.length * 5 := by
  induction L with
  | nil => rfl
  | cons f L ih =>
    simp only [framesCells, List.flatMap_cons, List.length_append, List.length_cons] at ih ⊢
    rw [ih]
    simp [Frame.cells]
    omega
theorem framesCells_at : ∀ (L : List Frame) (i : Nat) (h : i < L.length), ((framesCells L).drop (i * 5)).take 5 = (L[i]).cells
  | f :: L, 0, _ => by simp [framesCells, Frame.cells]
  | f :: L, i + 1, h => by
    have ih := framesCells_at L i (by simpa using h)
    have e : (i + 1) * 5 = i * 5 + 5 := by omega
    rw [e]
    simp only [List.getElem_cons_succ]
    rw [← ih]
    simp only [framesCells, List.flatMap_cons]
    rw [Nat.add_comm, ← List.drop_drop]
    congr 1

theorem Frame.cells_one (f : Frame) : ∀ v ∈ f.cells, v.oneCell' = true := by
  intro v hv
  simp [Frame.cells] at hv
  rcases hv with rfl | rfl | rfl | rfl | rfl <;> rfl
theorem framesCells_one (L : List Frame) : ∀ v ∈ framesCells L, v.oneCell' = true := by
  intro v hv
  simp [framesCells] at hv
  obtain ⟨f, _, hv⟩ := hv
  exact f.cells_one v hv

theorem frame_row {w : World} {v : Value} {L : List Frame} (h : Own w 86 5 v L.length (framesCells L)) (i : Nat) (hi : i < L.length) :
    ∃ g cap cur, v = .slice (some ⟨g, 0, none⟩) L.length cap ∧ ownBlk v = [g] ∧ Blk w g 86 cur ∧ i * 5 + 5 ≤ cur.length ∧ (cur.drop (i * 5)).take 5 = (L[i]).cells ∧ L.length ≤ cap ∧ cap ≤ maxLen ∧ cur.take (L.length * 5) = framesCells L := by
  obtain ⟨g, cap, cur, hv, hob, hB, hn, hcm, hcl, hct⟩ := h.pos (by omega)
  refine ⟨g, cap, cur, hv, hob, hB, by omega, ?_, hn, hcm, hct⟩
  rw [← framesCells_at L i hi, ← hct, List.drop_take, List.take_take, Nat.min_eq_left (by omega)]

theorem size_frame : (Try.prog.info? 86).map (·.size) = some 5 := by kernel_rfl
theorem load_frame {ρ : Operand → Value} {w : World} {x : Operand} {dst type pos after guard} (h : PtrRow w (ρ x) 5) :
    (execOp ρ { dst := dst, op := .load 86 x, type := type, pos := pos, after := after, guard := guard }).run Try.prog w = .ok (.value (.agg (rowOf w (ρ x) 5))) w :=
  exec_load_agg Try.underlying86 rfl size_frame h

theorem pool_empty (w : World) :
    Calls Try.prog 34 #[] w fun e w' => e = .returned (.agg #[intV (-1), strV [], intV 0, .bool false, .bool false]) ∧ Chg [] w w' := by
  go_enter Try.func34, Try.ntmps34
  go_wp2
  refine bodyPost_ret (v := .agg #[intV (-1), strV [], intV 0, .bool false, .bool false]) (by simp [results, Try.results34, go_sem]) rfl ⟨rfl, ?_⟩
  exact (Chg.refl _ _).alloc _

abbrev frameV (f : Frame) : Value := .agg #[intV f.page, strV f.payload, intV f.held, .bool f.dirty, .bool f.used]
theorem find1 (f : Frame) (l : Int) (g : Nat) (w : World) (hg : w.cell? ⟨g, 0, none⟩ = some (intV l)) :
    Calls Try.prog 53 #[frameV f, ptrV g] w fun e w' => e = .returned (.bool (f.page == l)) ∧ Chg [] w w' := by
  obtain ⟨pg, pl, hd, dt, us⟩ := f
  dsimp only [frameV]
  have ha := fun o => held_alloc hg o
  go_enter Try.func53, Try.ntmps53
  go_wp2
  go_ret
  exact ⟨rfl, (Chg.refl _ _).alloc _⟩

end Go.Proofs.Ytfdhlpdmbgjkdaa

namespace Go.Proofs.Ytfdhlpdmbgjkdaa
open Go.RowKit
set_option maxRecDepth 100000
attribute [local go_sem ↓] load_frame

set_option maxHeartbeats 1000000 in
theorem frames_find {w : World} {v : Value} {L : List Frame} (h : Own w 86 5 v L.length (framesCells L)) (hl : L.length ≤ 60000) (g : Nat) (pr : Frame → Bool)
    (hf : ∀ (wr : World) (i : Nat) (hi : i < L.length), Chg [] w wr → Calls Try.prog 53 #[frameV L[i], ptrV g] wr fun e w' => e = .returned (.bool (pr L[i])) ∧ Chg [] wr w') :
    Calls Try.prog 52 #[v, .func (.func 53) #[] #[ptrV g]] w fun e w' => e = .returned (intV (idxWhere L pr)) ∧ Chg [] w w' := by
  obtain ⟨ad, c, rfl, hnc, hcm⟩ := h.shape
  obtain ⟨m, hm⟩ : ∃ m, m = L.findIdx pr := ⟨_, rfl⟩
  have hml : m ≤ L.length := by subst hm; exact List.findIdx_le_length
  have hno : ∀ j (hj : j < L.length), j < m → pr L[j] = false := by
    intro j hj hjm
    subst hm
    have := List.not_of_lt_findIdx hjm
    simpa using this
  have hyes : ∀ hj : m < L.length, pr L[m] = true := by
    intro hj
    subst hm
    exact List.findIdx_getElem (w := hj)
  have hres : idxWhere L pr = if m < L.length then (m : Int) else -1 := by subst hm; rfl
  rw [hres]
  have HNO := Lib.hid hno
  have HYES := Lib.hid hyes
  have HO := Lib.hid h
  have HM := Lib.hid hml
  have HF := Lib.hid hf
  clear hres hm hno hyes h hml hf
  go_enter Try.func52, Try.ntmps52
  go_wp2
  go_loopw [8] (fun i wr => ∃ k : Nat, k ≤ m ∧ i = .int .i64 k ∧ Chg [] w wr) (fun i _ => L.length - (intOf i).toNat)
  case atStart => exact ⟨0, Nat.zero_le _, rfl, Chg.refl _ _⟩
  case round =>
    obtain ⟨k, hk, rfl, hc⟩ := hrel
    have hml := HM.out
    by_cases hlt : k < L.length
    · obtain ⟨g', cap, cur, hv, -, hB, hfit, hrow, -, -, -⟩ := frame_row (HO.out.kept hc (by simp)) k hlt
      simp at hv
      obtain ⟨rfl, rfl⟩ := hv
      have hpr : PtrRow wr (.pointer (some ⟨g', k * 5, none⟩)) 5 := PtrRow.mk' hB hfit
      have hro : rowOf wr (.pointer (some ⟨g', k * 5, none⟩)) 5 = #[intV L[k].page, strV L[k].payload, intV L[k].held, .bool L[k].dirty, .bool L[k].used] := by
        rw [rowOf_blk hB, hrow]
        rfl
      have HC := Lib.hid (HF.out wr k hlt hc)
      have HCH := Lib.hid hc
      clear hB hfit hrow
      by_cases hkm : k < m
      · have hb := HNO.out k hlt hkm
        rw [hb] at HC
        generalize L[k] = fr at *
        clear hml hb hc
        go_wp2_with (go_at_call 53; refine HC.out.mono ?_; rintro e w' ⟨rfl, hc'⟩)
        go_roundw
        case rel => exact ⟨k + 1, by omega, by go_num, HCH.out.trans0 hc'⟩
        case measure => simp [intOf]; omega
      · obtain rfl : k = m := by omega
        have hb := HYES.out hlt
        rw [hb] at HC
        generalize L[k] = fr at *
        clear hml hb hc
        go_wp2_with (go_at_call 53; refine HC.out.mono ?_; rintro e w' ⟨rfl, hc'⟩)
        go_ret
        exact ⟨rfl, HCH.out.trans0 hc'⟩
    · have hmm : ¬ (m < L.length) := by omega
      go_wp2
      go_ret
      exact ⟨rfl, hc⟩

set_option maxHeartbeats 1000000 in
theorem frames_none {w : World} {v : Value} {L : List Frame} (h : Own w 86 5 v L.length (framesCells L)) (hl : L.length ≤ 60000) (pr : Frame → Bool)
    (hf : ∀ (wr : World) (i : Nat) (hi : i < L.length), Chg [] w wr → Calls Try.prog 85 #[frameV L[i]] wr fun e w' => e = .returned (.bool (pr L[i])) ∧ Chg [] wr w') :
    Calls Try.prog 52 #[v, .func (.func 85) #[] #[]] w fun e w' => e = .returned (intV (idxWhere L pr)) ∧ Chg [] w w' := by
  obtain ⟨ad, c, rfl, hnc, hcm⟩ := h.shape
  obtain ⟨m, hm⟩ : ∃ m, m = L.findIdx pr := ⟨_, rfl⟩
  have hml : m ≤ L.length := by subst hm; exact List.findIdx_le_length
  have hno : ∀ j (hj : j < L.length), j < m → pr L[j] = false := by
    intro j hj hjm
    subst hm
    have := List.not_of_lt_findIdx hjm
    simpa using this
  have hyes : ∀ hj : m < L.length, pr L[m] = true := by
    intro hj
    subst hm
    exact List.findIdx_getElem (w := hj)
  have hres : idxWhere L pr = if m < L.length then (m : Int) else -1 := by subst hm; rfl
  rw [hres]
  have HNO := Lib.hid hno
  have HYES := Lib.hid hyes
  have HO := Lib.hid h
  have HM := Lib.hid hml
  have HF := Lib.hid hf
  clear hres hm hno hyes h hml hf
  go_enter Try.func52, Try.ntmps52
  go_wp2
  go_loopw [8] (fun i wr => ∃ k : Nat, k ≤ m ∧ i = .int .i64 k ∧ Chg [] w wr) (fun i _ => L.length - (intOf i).toNat)
  case atStart => exact ⟨0, Nat.zero_le _, rfl, Chg.refl _ _⟩
  case round =>
    obtain ⟨k, hk, rfl, hc⟩ := hrel
    have hml := HM.out
    by_cases hlt : k < L.length
    · obtain ⟨g', cap, cur, hv, -, hB, hfit, hrow, -, -, -⟩ := frame_row (HO.out.kept hc (by simp)) k hlt
      simp at hv
      obtain ⟨rfl, rfl⟩ := hv
      have hpr : PtrRow wr (.pointer (some ⟨g', k * 5, none⟩)) 5 := PtrRow.mk' hB hfit
      have hro : rowOf wr (.pointer (some ⟨g', k * 5, none⟩)) 5 = #[intV L[k].page, strV L[k].payload, intV L[k].held, .bool L[k].dirty, .bool L[k].used] := by
        rw [rowOf_blk hB, hrow]
        rfl
      have HC := Lib.hid (HF.out wr k hlt hc)
      have HCH := Lib.hid hc
      clear hB hfit hrow
      by_cases hkm : k < m
      · have hb := HNO.out k hlt hkm
        rw [hb] at HC
        generalize L[k] = fr at *
        clear hml hb hc
        go_wp2_with (go_at_call 85; refine HC.out.mono ?_; rintro e w' ⟨rfl, hc'⟩)
        go_roundw
        case rel => exact ⟨k + 1, by omega, by go_num, HCH.out.trans0 hc'⟩
        case measure => simp [intOf]; omega
      · obtain rfl : k = m := by omega
        have hb := HYES.out hlt
        rw [hb] at HC
        generalize L[k] = fr at *
        clear hml hb hc
        go_wp2_with (go_at_call 85; refine HC.out.mono ?_; rintro e w' ⟨rfl, hc'⟩)
        go_ret
        exact ⟨rfl, HCH.out.trans0 hc'⟩
    · have hmm : ¬ (m < L.length) := by omega
      go_wp2
      go_ret
      exact ⟨rfl, hc⟩

set_option maxHeartbeats 1000000 in
theorem frames_free {w : World} {v : Value} {L : List Frame} (h : Own w 86 5 v L.length (framesCells L)) (hl : L.length ≤ 60000) (pr : Frame → Bool)
    (hf : ∀ (wr : World) (i : Nat) (hi : i < L.length), Chg [] w wr → Calls Try.prog 88 #[frameV L[i]] wr fun e w' => e = .returned (.bool (pr L[i])) ∧ Chg [] wr w') :
    Calls Try.prog 52 #[v, .func (.func 88) #[] #[]] w fun e w' => e = .returned (intV (idxWhere L pr)) ∧ Chg [] w w' := by
  obtain ⟨ad, c, rfl, hnc, hcm⟩ := h.shape
  obtain ⟨m, hm⟩ : ∃ m, m = L.findIdx pr := ⟨_, rfl⟩
  have hml : m ≤ L.length := by subst hm; exact List.findIdx_le_length
  have hno : ∀ j (hj : j < L.length), j < m → pr L[j] = false := by
    intro j hj hjm
    subst hm
    have := List.not_of_lt_findIdx hjm
    simpa using this
  have hyes : ∀ hj : m < L.length, pr L[m] = true := by
    intro hj
    subst hm
    exact List.findIdx_getElem (w := hj)
  have hres : idxWhere L pr = if m < L.length then (m : Int) else -1 := by subst hm; rfl
  rw [hres]
  have HNO := Lib.hid hno
  have HYES := Lib.hid hyes
  have HO := Lib.hid h
  have HM := Lib.hid hml
  have HF := Lib.hid hf
  clear hres hm hno hyes h hml hf
  go_enter Try.func52, Try.ntmps52
  go_wp2
  go_loopw [8] (fun i wr => ∃ k : Nat, k ≤ m ∧ i = .int .i64 k ∧ Chg [] w wr) (fun i _ => L.length - (intOf i).toNat)
  case atStart => exact ⟨0, Nat.zero_le _, rfl, Chg.refl _ _⟩
  case round =>
    obtain ⟨k, hk, rfl, hc⟩ := hrel
    have hml := HM.out
    by_cases hlt : k < L.length
    · obtain ⟨g', cap, cur, hv, -, hB, hfit, hrow, -, -, -⟩ := frame_row (HO.out.kept hc (by simp)) k hlt
      simp at hv
      obtain ⟨rfl, rfl⟩ := hv
      have hpr : PtrRow wr (.pointer (some ⟨g', k * 5, none⟩)) 5 := PtrRow.mk' hB hfit
      have hro : rowOf wr (.pointer (some ⟨g', k * 5, none⟩)) 5 = #[intV L[k].page, strV L[k].payload, intV L[k].held, .bool L[k].dirty, .bool L[k].used] := by
        rw [rowOf_blk hB, hrow]
        rfl
      have HC := Lib.hid (HF.out wr k hlt hc)
      have HCH := Lib.hid hc
      clear hB hfit hrow
      by_cases hkm : k < m
      · have hb := HNO.out k hlt hkm
        rw [hb] at HC
        generalize L[k] = fr at *
        clear hml hb hc
        go_wp2_with (go_at_call 88; refine HC.out.mono ?_; rintro e w' ⟨rfl, hc'⟩)
        go_roundw
        case rel => exact ⟨k + 1, by omega, by go_num, HCH.out.trans0 hc'⟩
        case measure => simp [intOf]; omega
      · obtain rfl : k = m := by omega
        have hb := HYES.out hlt
        rw [hb] at HC
        generalize L[k] = fr at *
        clear hml hb hc
        go_wp2_with (go_at_call 88; refine HC.out.mono ?_; rintro e w' ⟨rfl, hc'⟩)
        go_ret
        exact ⟨rfl, HCH.out.trans0 hc'⟩
    · have hmm : ¬ (m < L.length) := by omega
      go_wp2
      go_ret
      exact ⟨rfl, hc⟩

end Go.Proofs.Ytfdhlpdmbgjkdaa

namespace Go.Proofs.Ytfdhlpdmbgjkdaa
open Go.RowKit
set_option maxRecDepth 100000

structure Pool where
  s : Store
  l : List Frame
  hand : Nat
def Pool.find (p : Pool) (l : Int) : Int := if l < 0 then -1 else idxWhere p.l (fun f => f.page == l)

structure PoolB where
  p : Nat
  s : StoreB
  lv : Value
def PoolB.set (b : PoolB) : List Nat := b.p :: (ownBlk b.lv ++ b.s.set)

/-- The pool Q lies in memory, in the blocks b. -/
structure PoolAt (w : World) (b : PoolB) (Q : Pool) : Prop where
  s : StoreAt w b.s Q.s
  l : Own w 86 5 b.lv Q.l.length (framesCells Q.l)
  st : Blk w b.p 68 [ptrV b.s.s, b.lv, intV Q.hand]
  np : b.p ∉ ownBlk b.lv ∧ b.p ∉ b.s.set
  nl : ∀ k ∈ ownBlk b.lv, k ∉ b.s.set
  pos : 0 < Q.l.length
  few : Q.l.length ≤ 32
  hand : Q.hand < Q.l.length

theorem PoolAt.lt {w : World} {b : PoolB} {Q : Pool} (h : PoolAt w b Q) : ∀ k ∈ b.set, k < w.heap.size := by
  intro k hk
  simp only [PoolB.set, List.mem_cons, List.mem_append] at hk
  rcases hk with rfl | hk | hk
  · exact h.st.lt
  · exact h.l.lt k hk
  · exact h.s.lt k hk
theorem PoolAt.kept {w w' : World} {b : PoolB} {Q : Pool} {F : List Nat} (h : PoolAt w b Q) (hc : Chg F w w') (hn : ∀ k ∈ b.set, k ∉ F) : PoolAt w' b Q := by
  have hm : ∀ k, (k = b.p ∨ k ∈ ownBlk b.lv ∨ k ∈ b.s.set) → k ∉ F := fun k hk => hn k (by simpa [PoolB.set] using hk)
  exact ⟨h.s.kept hc fun k hk => hm k (by simp [hk]), h.l.kept hc fun k hk => hm k (by simp [hk]), h.st.kept hc (hm _ (by simp)), h.np, h.nl, h.pos, h.few, h.hand⟩
theorem PoolAt.kept0 {w w' : World} {b : PoolB} {Q : Pool} (h : PoolAt w b Q) (hc : Chg [] w w') : PoolAt w' b Q := h.kept hc (by simp)
theorem PoolAt.cells {w : World} {b : PoolB} {Q : Pool} (h : PoolAt w b Q) :
    w.cell? ⟨b.p, 0, none⟩ = some (ptrV b.s.s) ∧ w.cell? ⟨b.p, 1, none⟩ = some b.lv ∧ w.cell? ⟨b.p, 2, none⟩ = some (intV Q.hand) :=
  ⟨h.st.cell 0, h.st.cell 1, h.st.cell 2⟩

/-- Its store has become another one. -/
theorem PoolAt.onS {w w' : World} {b : PoolB} {Q : Pool} {S' : Store} (h : PoolAt w b Q) (hs : StoreTo b.s w w' S') :
    ∃ sb, PoolAt w' { b with s := sb } { Q with s := S' } ∧ Grew b.set (PoolB.set { b with s := sb }) w w' := by
  obtain ⟨sb, he, hst, hg⟩ := hs
  have hl1 : ∀ k ∈ ownBlk b.lv, k < w.heap.size := h.l.lt
  have hp1 := h.st.lt
  have hsub : ∀ k ∈ b.s.set, k ∈ b.set := fun k hk => by simp [PoolB.set, hk]
  have hpa : PoolAt w' { b with s := sb } { Q with s := S' } := by
    refine ⟨hst, h.l.kept hg.chg (fun k hk => h.nl k hk), ?_, ⟨h.np.1, fun hm => ?_⟩, fun k hk hm => ?_, h.pos, h.few, h.hand⟩
    · have := h.st.kept hg.chg h.np.2
      rw [← he] at this
      exact this
    · rcases hg.from_ _ hm with h1 | h1
      · exact h.np.2 h1
      · have h2 : w.heap.size ≤ b.p := h1
        omega
    · rcases hg.from_ _ hm with h1 | h1
      · exact h.nl k hk h1
      · have := hl1 k hk; omega
  refine ⟨sb, hpa, ⟨hg.chg.mono hsub, hpa.lt, fun k hk => ?_⟩⟩
  simp only [PoolB.set, List.mem_cons, List.mem_append] at hk ⊢
  rcases hk with hk | hk | hk
  · simp [hk]
  · simp [hk]
  · rcases hg.from_ k hk with h1 | h1
    · simp [h1]
    · simp [h1]

theorem pool_store {w : World} {b : PoolB} {Q : Pool} (h : PoolAt w b Q) :
    Calls Try.prog 16 #[ptrV b.p] w fun e w' => e = .returned (ptrV b.s.s) ∧ w = w' := by
  obtain ⟨k0, -, -⟩ := h.cells
  clear h
  go_enter Try.func16, Try.ntmps16
  go_wp2
  go_ret
  exact ⟨rfl, rfl⟩

theorem pool_find {w : World} {b : PoolB} {Q : Pool} (h : PoolAt w b Q) (l : Int) :
    Calls Try.prog 36 #[ptrV b.p, intV l] w fun e w' => e = .returned (intV (Q.find l)) ∧ Chg [] w w' := by
  unfold Pool.find
  by_cases hl : l < 0
  · rw [if_pos hl]
    clear h
    go_enter Try.func36, Try.ntmps36
    go_wp2
    go_ret
    exact ⟨rfl, (Chg.refl _ _).alloc _⟩
  · rw [if_neg hl]
    have hix := fun (wr : World) (hc : Chg [] w wr) (hg : wr.cell? ⟨w.heap.size, 0, none⟩ = some (intV l)) (hlt : w.heap.size < wr.heap.size) =>
      frames_find (h.l.kept hc (by simp)) (by have := h.few; omega) w.heap.size (fun f => f.page == l) (fun w2 i hi hc2 => find1 Q.l[i] l w.heap.size w2 (by
        have hb : wr.heap[w.heap.size]? = w2.heap[w.heap.size]? := (hc2.block w.heap.size hlt (by simp)).symm
        unfold World.cell? at hg ⊢
        rw [← hb]
        exact hg))
    have hmf : ∀ (fn : Fn) (first cap : Array Value) (w : World), (Instr.makeFunc fn first cap).run Try.prog w = .ok (.func fn first cap) w := fun _ _ _ _ => rfl
    have hcell : (w.alloc (.cells #[intV l] 3)).cell? ⟨w.heap.size, 0, none⟩ = some (intV l) := (Blk.new w 3 [intV l]).cell 0
    have HIX := Lib.hid (hix _ ((Chg.refl [] w).alloc (.cells #[intV l] 3)) hcell (by simp))
    have HK := Lib.hid (h.kept0 ((Chg.refl [] w).alloc (.cells #[intV l] 3))).cells.2.1
    have k1 := HK.out
    clear hix h hcell
    generalize idxWhere Q.l (fun f => f.page == l) = x at *
    go_enter Try.func36, Try.ntmps36
    go_wp2_with (go_at_call 52; with_reducible refine HIX.out.mono ?_; rintro e w' ⟨rfl, hc⟩)
    go_ret
    exact ⟨rfl, ((Chg.refl _ _).alloc _).trans0 hc⟩

end Go.Proofs.Ytfdhlpdmbgjkdaa

namespace Go.Proofs.Ytfdhlpdmbgjkdaa
open Go.RowKit
set_option maxRecDepth 100000

theorem Frame.cells_len (f : Frame) : f.cells.length = 5 := rfl

theorem framesCells_set : ∀ (L : List Frame) (i j : Nat) (h : i < L.length) (_ : j < 5) (v : Value) (f' : Frame) (_ : f'.cells = (L[i]).cells.set j v),
    framesCells (L.set i f') = (framesCells L).set (i * 5 + j) v
  | f :: L, 0, j, _, hj, v, f', hf => by
    simp only [List.set_cons_zero, framesCells, List.flatMap_cons, List.getElem_cons_zero] at hf ⊢
    rw [hf, List.set_append_left _ _ (by rw [Frame.cells_len]; omega)]
    simp
  | f :: L, i + 1, j, h, hj, v, f', hf => by
    have ih := framesCells_set L i j (by simpa using h) hj v f' (by simpa using hf)
    simp only [List.set_cons_succ, framesCells, List.flatMap_cons] at ih ⊢
    rw [ih, List.set_append_right _ _ (by rw [Frame.cells_len]; omega), Frame.cells_len]
    congr 2
    omega

theorem frame_cell {w : World} {v : Value} {L : List Frame} (h : Own w 86 5 v L.length (framesCells L)) (i : Nat) (hi : i < L.length) :
    ∃ g cap, v = .slice (some ⟨g, 0, none⟩) L.length cap ∧ ownBlk v = [g] ∧ L.length ≤ cap ∧ cap ≤ maxLen ∧ ∀ j, j < 5 → w.cell? ⟨g, i * 5 + j, none⟩ = (L[i]).cells[j]? ∧ w.frozen? ⟨g, i * 5 + j, none⟩ = false := by
  obtain ⟨g, cap, cur, hv, hob, hB, hfit, hrow, hnc, hcm, -⟩ := frame_row h i hi
  refine ⟨g, cap, hv, hob, hnc, hcm, fun j hj => ⟨?_, hB.free _⟩⟩
  rw [hB.cell, ← hrow, List.getElem?_take, if_pos hj, List.getElem?_drop]

theorem own_frame_set {w : World} {v : Value} {L : List Frame} (h : Own w 86 5 v L.length (framesCells L)) {g cap : Nat} (hv : v = .slice (some ⟨g, 0, none⟩) L.length cap) (i j : Nat) (hi : i < L.length) (hj : j < 5)
    (x : Value) (f' : Frame) (hf : f'.cells = (L[i]).cells.set j x) : Own (w.setCell ⟨g, i * 5 + j, none⟩ x) 86 5 v (L.set i f').length (framesCells (L.set i f')) := by
  rcases h.2 with ⟨a, hv', hn⟩ | ⟨g', cap', cur, hv', hB, hn, h0, h1, h2, h3⟩
  · omega
  · rw [hv] at hv'
    simp at hv'
    obtain ⟨rfl, rfl⟩ := hv'
    refine ⟨by rw [framesCells_length], .inr ⟨g, cap, cur.set (i * 5 + j) x, ?_, hB.set _ _, by simpa using hn, h0, h1, by simpa using h2, ?_⟩⟩
    · rw [hv]; simp
    · rw [framesCells_set L i j hi hj x f' hf, ← h3, List.length_set, List.take_set]

theorem PoolAt.setF {w : World} {b : PoolB} {Q : Pool} (h : PoolAt w b Q) {g cap : Nat} (hv : b.lv = .slice (some ⟨g, 0, none⟩) Q.l.length cap) (i j : Nat) (hi : i < Q.l.length) (hj : j < 5)
    (x : Value) (f' : Frame) (hf : f'.cells = (Q.l[i]).cells.set j x) : PoolAt (w.setCell ⟨g, i * 5 + j, none⟩ x) b { Q with l := Q.l.set i f' } := by
  have hg : ownBlk b.lv = [g] := by
    obtain ⟨g', cap', hv', hob, -⟩ := frame_cell h.l i hi
    rw [hv] at hv'
    simp at hv'
    rw [hob, hv'.1]
  have hc : Chg [g] w (w.setCell ⟨g, i * 5 + j, none⟩ x) := (Chg.refl _ _).setCell _ _ (.inl (by simp))
  refine ⟨h.s.kept hc fun k hk hm => ?_, own_frame_set h.l hv i j hi hj x f' hf, h.st.kept hc fun hm => ?_, h.np, h.nl, by simpa using h.pos, by simpa using h.few, by simpa using h.hand⟩
  · simp at hm
    subst hm
    exact h.nl k (by rw [hg]; simp) hk
  · exact h.np.1 (by rw [hg]; exact hm)

theorem idxWhere_pos {L : List Frame} {pr : Frame → Bool} (h : 0 ≤ idxWhere L pr) : ∃ i : Nat, idxWhere L pr = i ∧ ∃ hi : i < L.length, pr L[i] = true := by
  unfold idxWhere at h ⊢
  split at h
  · rename_i hlt
    rw [if_pos hlt]
    exact ⟨_, rfl, hlt, List.findIdx_getElem (w := hlt)⟩
  · omega

/-- The frame that holds page l, and where it lies. -/
theorem Pool.find_pos {Q : Pool} {l : Int} (h : 0 ≤ Q.find l) : ∃ i : Nat, Q.find l = i ∧ ∃ hi : i < Q.l.length, Q.l[i].page = l := by
  unfold Pool.find at h ⊢
  split at h
  · omega
  · rename_i hl
    rw [if_neg hl]
    obtain ⟨i, h1, hi, h2⟩ := idxWhere_pos h
    exact ⟨i, h1, hi, by simpa using h2⟩

theorem pool_held_yes {w : World} {b : PoolB} {Q : Pool} (h : PoolAt w b Q) (l : Int) (i : Nat) (hf : Q.find l = i) (hi : i < Q.l.length) (hh : Q.l[i].held ≠ 0) {g cap : Nat} (hv : b.lv = .slice (some ⟨g, 0, none⟩) Q.l.length cap) :
    Calls Try.prog 79 #[ptrV b.p, intV l] w fun e w' => e = .returned (.tuple #[.pointer (some ⟨g, i * 5, none⟩), intV 0]) ∧ Chg [] w w' := by
  have hfd := pool_find h l
  rw [hf] at hfd
  have hkeep : ∀ w', Chg [] w w' → w'.cell? ⟨b.p, 1, none⟩ = some (.slice (some ⟨g, 0, none⟩) Q.l.length cap) ∧ w'.cell? ⟨g, i * 5 + 2, none⟩ = some (intV Q.l[i].held) := fun w' hc => by
    have h' := h.kept0 hc
    obtain ⟨g', cap', hv', -, -, -, hcell⟩ := frame_cell h'.l i hi
    rw [hv] at hv'
    simp at hv'
    obtain ⟨rfl, rfl⟩ := hv'
    refine ⟨?_, (hcell 2 (by omega)).1⟩
    rw [h'.cells.2.1, hv]
  have hb : (Q.l[i].held == 0) = false := by simpa using hh
  have hil : (i : Int) < (Q.l.length : Int) := by omega
  have hfew := h.few
  have hcap : Q.l.length ≤ cap ∧ cap ≤ maxLen := by
    obtain ⟨g', cap', hv', -, h1, h2, -⟩ := frame_cell h.l i hi
    rw [hv] at hv'
    simp at hv'
    rw [hv'.2]
    exact ⟨h1, h2⟩
  obtain ⟨hcap1, hcap2⟩ := hcap
  have HF := Lib.hid hfd
  have HK := Lib.hid hkeep
  clear hkeep hfd h hf hh hv
  generalize Q.l[i].held = x at *
  clear hi
  generalize Q.l.length = n at *
  go_enter Try.func79, Try.ntmps79
  go_wp2_with (go_at_call 36; with_reducible refine HF.out.mono ?_; rintro e w' ⟨rfl, hc⟩; obtain ⟨k1, k2⟩ := HK.out _ hc)
  go_ret2
  exact ⟨rfl, hc⟩

theorem pool_let {w : World} {b : PoolB} {Q : Pool} (h : PoolAt w b Q) (l : Int) (i : Nat) (hf : Q.find l = i) (hi : i < Q.l.length) (h1 : 1 ≤ Q.l[i].held) (h2 : Q.l[i].held ≤ 1099511627776) :
    Calls Try.prog 72 #[ptrV b.p, intV l] w fun e w' => e = .returned (intV 0) ∧ PoolAt w' b { Q with l := Q.l.set i { Q.l[i] with held := Q.l[i].held - 1 } } ∧ Chg b.set w w' := by
  obtain ⟨g, cap, hv, hob, -, -, -⟩ := frame_cell h.l i hi
  have hh := pool_held_yes h l i hf hi (by omega) hv
  have hkeep : ∀ w', Chg [] w w' → w'.cell? ⟨g, i * 5 + 2, none⟩ = some (intV Q.l[i].held) ∧ w'.frozen? ⟨g, i * 5 + 2, none⟩ = false ∧
      PoolAt (w'.setCell ⟨g, i * 5 + 2, none⟩ (intV (Q.l[i].held - 1))) b { Q with l := Q.l.set i { Q.l[i] with held := Q.l[i].held - 1 } } := fun w' hc => by
    have h' := h.kept0 hc
    obtain ⟨g', cap', hv', -, -, -, hcell⟩ := frame_cell h'.l i hi
    rw [hv] at hv'
    simp at hv'
    obtain ⟨rfl, rfl⟩ := hv'
    exact ⟨(hcell 2 (by omega)).1, (hcell 2 (by omega)).2, h'.setF hv i 2 hi (by omega) _ _ rfl⟩
  have hgb : g ∈ b.set := by simp [PoolB.set, hob]
  have HH := Lib.hid hh
  have HK := Lib.hid hkeep
  have HG := Lib.hid hgb
  clear hh hkeep hgb h hf hv hob
  generalize ({ Q with l := Q.l.set i { Q.l[i] with held := Q.l[i].held - 1 } } : Pool) = Q' at *
  generalize Q.l[i].held = x at *
  go_enter Try.func72, Try.ntmps72
  go_wp2_with (go_at_call 79; with_reducible refine HH.out.mono ?_; rintro e w' ⟨rfl, hc⟩; obtain ⟨k1, k2, hp⟩ := HK.out _ hc; have HP := Lib.hid hp; clear hp)
  go_ret
  exact ⟨rfl, HP.out, (hc.mono (by simp)).setCell _ _ (.inl HG.out)⟩

end Go.Proofs.Ytfdhlpdmbgjkdaa

namespace Go.Proofs.Ytfdhlpdmbgjkdaa
open Go.RowKit
set_option maxRecDepth 100000

theorem victim1 (f : Frame) (w : World) :
    Calls Try.prog 85 #[frameV f] w fun e w' => e = .returned (.bool (decide (f.page < 0))) ∧ Chg [] w w' := by
  obtain ⟨pg, pl, hd, dt, us⟩ := f
  dsimp only [frameV]
  go_enter Try.func85, Try.ntmps85
  go_wp2
  go_ret
  exact ⟨rfl, (Chg.refl _ _).alloc _⟩

theorem victim3 (f : Frame) (w : World) :
    Calls Try.prog 88 #[frameV f] w fun e w' => e = .returned (.bool (f.held == 0)) ∧ Chg [] w w' := by
  obtain ⟨pg, pl, hd, dt, us⟩ := f
  dsimp only [frameV]
  go_enter Try.func88, Try.ntmps88
  go_wp2
  go_ret
  exact ⟨rfl, (Chg.refl _ _).alloc _⟩

theorem pool_none {w : World} {b : PoolB} {Q : Pool} (h : PoolAt w b Q) :
    Calls Try.prog 52 #[b.lv, .func (.func 85) #[] #[]] w fun e w' => e = .returned (intV (idxWhere Q.l (fun f => decide (f.page < 0)))) ∧ Chg [] w w' :=
  frames_none h.l (by have := h.few; omega) (fun f => decide (f.page < 0)) (fun wr i hi _ => victim1 Q.l[i] wr)

theorem pool_free {w : World} {b : PoolB} {Q : Pool} (h : PoolAt w b Q) :
    Calls Try.prog 87 #[b.lv, .func (.func 88) #[] #[]] w fun e w' => e = .returned (.bool (decide (0 ≤ idxWhere Q.l (fun f => f.held == 0)))) ∧ Chg [] w w' := by
  have hx := frames_free h.l (by have := h.few; omega) (fun f => f.held == 0) (fun wr i hi _ => victim3 Q.l[i] wr)
  have HX := Lib.hid hx
  clear hx h
  generalize idxWhere Q.l (fun f => f.held == 0) = x at *
  go_enter Try.func87, Try.ntmps87
  go_wp2_with (go_at_call 52; with_reducible refine HX.out.mono ?_; rintro e w' ⟨rfl, hc⟩)
  go_ret
  exact ⟨rfl, hc⟩

def Pool.next (Q : Pool) : Pool := { Q with hand := (Q.hand + 1) % Q.l.length }

theorem victim2 {w : World} {b : PoolB} {Q : Pool} (h : PoolAt w b Q) (x : Nat) (hx : w.cell? ⟨x, 0, none⟩ = some (ptrV b.p)) {g cap : Nat} (hv : b.lv = .slice (some ⟨g, 0, none⟩) Q.l.length cap) :
    Calls Try.prog 86 #[ptrV x] w fun e w' => e = .returned (.pointer (some ⟨g, Q.hand * 5, none⟩)) ∧ PoolAt w' b Q.next ∧ Chg [b.p] w w' := by
  obtain ⟨-, k1, k2⟩ := h.cells
  have f2 := h.st.free 2
  rw [hv] at k1
  have hhand := h.hand
  have hfew := h.few
  have hcap : Q.l.length ≤ cap ∧ cap ≤ maxLen := by
    obtain ⟨g', cap', hv', -, h1, h2, -⟩ := frame_cell h.l 0 h.pos
    rw [hv] at hv'
    simp at hv'
    rw [hv'.2]
    exact ⟨h1, h2⟩
  obtain ⟨hcap1, hcap2⟩ := hcap
  have hset : PoolAt (w.setCell ⟨b.p, 2, none⟩ (intV (((Q.hand + 1) % Q.l.length : Nat) : Int))).drew.drew b Q.next := by
    have hc : Chg [b.p] w (w.setCell ⟨b.p, 2, none⟩ (intV (((Q.hand + 1) % Q.l.length : Nat) : Int))) := (Chg.refl _ _).setCell _ _ (.inl (by simp))
    have h1 : PoolAt (w.setCell ⟨b.p, 2, none⟩ (intV (((Q.hand + 1) % Q.l.length : Nat) : Int))) b Q.next := by
      refine ⟨h.s.kept hc fun k hk hm => ?_, h.l.kept hc fun k hk hm => ?_, h.st.set 2 _, h.np, h.nl, h.pos, h.few, Nat.mod_lt _ h.pos⟩
      · simp at hm; subst hm; exact h.np.2 hk
      · simp at hm; subst hm; exact h.np.1 hk
    exact h1.kept0 (((Chg.refl [] _).drew).drew)
  have HS := Lib.hid hset
  have hhi : (Q.hand : Int) < (Q.l.length : Int) := by omega
  have hpos := h.pos
  clear hset h hv
  generalize Q.next = Q' at *
  obtain ⟨m, hm⟩ : ∃ m, m = (Q.hand + 1) % Q.l.length := ⟨_, rfl⟩
  rw [← hm] at HS
  generalize Q.l.length = n at *
  generalize Q.hand = k at *
  have e2 : Int.tmod ((k : Int) + 1) (n : Int) = (m : Int) := by
    rw [hm, Int.tmod_eq_emod_of_nonneg (by omega)]
    simp
  have hn0 : ((n : Int) == 0) = false := by simp; omega
  have e1 : IntKind.i64.wrap ((k : Int) + 1) = (k : Int) + 1 := IntWalk.i64_in _ (by omega)
  have e3 : IntKind.i64.wrap (m : Int) = (m : Int) := IntWalk.i64_in _ (by have := Nat.mod_lt (k + 1) hpos; omega)
  clear hm
  go_enter Try.func86, Try.ntmps86
  go_wp2_with fail
  go_region
  go_wp2_with fail
  go_region
  go_wp2_with fail
  go_ret
  exact ⟨rfl, HS.out, ((((Chg.refl _ _).setCell _ _ (.inl (by simp))).drew).drew)⟩

end Go.Proofs.Ytfdhlpdmbgjkdaa
