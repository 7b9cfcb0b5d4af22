/- A part of the walks of the program's functions, each a contract that its caller uses; no condition but what each theorem names. The walk of shadow's Commit: what it comes to, by what lay comes to. Plain Lean: a store that was never committed, as a list of logical pages. Frames of a pool, in memory and as plain Lean; slices.IndexFunc over them. -/
import Derived.Test.YtjbpdgknhbnfgaaGreatM10
import Derived.Deep.CutBlock
import Derived.Deep.DrawnRows

namespace Go.Proofs.YtjbpdgknhbnfgaaGreat
open Go.RowKit
set_option maxRecDepth 100000

theorem ownBlk_len (a : Option Addr) (n m c : Nat) : ownBlk (.slice a n c) = ownBlk (.slice a m c) := by
  cases a with
  | none => rfl
  | some g => cases c <;> rfl

theorem StoreAt.breaks {w w' : World} {b b1 : StoreB} {S : Store} (h : StoreAt w' b1 S) (hsd : b1.sd = b.sd) (hset : b1.set = b.set) (hc : Chg b.set w w') : StoreTo b w (w'.setCell ⟨b.s, 7, none⟩ (.bool true)) { S with broken := true } := by
  have hs := StoreB.sd_s hsd
  have a := StoreB.apart h.nodup
  have hc2 : Chg [b1.s] w' (w'.setCell ⟨b1.s, 7, none⟩ (.bool true)) := (Chg.refl _ _).setCell _ _ (.inl (by simp))
  have hn : ∀ k, k ≠ b1.s → k ∉ [b1.s] := fun k hk hm => hk (by simpa using hm)
  have h2 : StoreAt (w'.setCell ⟨b1.s, 7, none⟩ (.bool true)) b1 { S with broken := true } := by
    refine ⟨h.d.kept hc2 fun k hk hm => ?_, h.m.kept hc2 fun k hk hm => ?_, h.t.kept hc2 fun k hk hm => ?_, h.o.kept hc2 fun k hk hm => ?_, h.p.kept hc2 fun k hk hm => ?_, h.st.set 7 (.bool true), h.nodup⟩
    · simp at hm; subst hm; exact a.sd hk
    · simp at hm; subst hm; exact a.sm hk
    · simp at hm; subst hm; exact a.s_t hk
    · simp at hm; subst hm; exact a.so hk
    · simp at hm; subst hm; exact a.s_p hk
  rw [← hs]
  have hb : b1.s ∈ b.set := by rw [← hset]; simp [StoreB.set]
  refine ⟨b1, hsd, h2, ⟨hc.setCell _ _ (.inl hb), h2.lt, fun k hk => .inl (by rw [← hset]; exact hk)⟩⟩

set_option maxHeartbeats 4000000 in
theorem store_commit_of {w : World} {b : StoreB} {S : Store} (h : StoreAt w b S) (hok : S.Ok) (hbr : S.broken = false) (hsl : S.slot = 0 ∨ S.slot = 1) (hp5 : S.parts.length ≤ 5) {D4 : Disk} {le : Int}
    (hlaid : S.laid = (le, { S.trimmed with m := S.taken.2, d := D4 }))
    (hlay : S.need ≤ ((FMap.list S.m 0).length : Int) → ∀ (w1 : World) (b1 : StoreB) (pv : Value), StoreAt w1 b1 { S.trimmed with m := S.taken.2 } → Own w1 3 1 pv S.taken.1.length (ints S.taken.1) → (∀ k ∈ ownBlk pv, k ∉ b1.set) →
      Calls Tryz.prog 105 #[ptrV b1.s, pv] w1 fun e w' => e = .returned (intV le) ∧ StoreAt w' b1 { S.trimmed with m := S.taken.2, d := D4 } ∧ Chg b1.d.set w1 w') :
    Calls Tryz.prog 34 #[ptrV b.s] w fun e w' => e = .returned (intV S.commit.1) ∧ StoreTo b w w' S.commit.2 := by
  have hw := store_works h
  unfold Store.works at hw
  rw [if_neg (by rw [hbr]; simp)] at hw
  have HW := Lib.hid hw
  have HH := Lib.hid h
  have HBR := Lib.hid hbr
  have HSL := Lib.hid hsl
  have HLAID := Lib.hid hlaid
  have HLAY0 := Lib.hid hlay
  have HP5 := Lib.hid hp5
  have htl := hok.tl
  have hep := hok.ep
  obtain ⟨ta, tc, htv, htc, htc2⟩ := h.t.shape
  have k2 := h.st.cell 2
  have kf2 := h.st.free 2
  simp [storeCells, htv] at k2
  have HTV := Lib.hid htv
  have HT0 : Hid (StoreAt w { b with tv := .slice ta S.table.length tc } S) := Lib.hid (by
    have : ({ b with tv := .slice ta S.table.length tc } : StoreB) = b := by rw [← htv]
    rw [this]
    exact h)
  have HEP := Lib.hid hep
  clear hw h htv hok hbr hsl hlaid hlay hp5 hep
  go_enter Tryz.func34, Tryz.ntmps34
  go_upto_block 0 with (go_at_call 86; (with_reducible refine HW.out.mono ?_); rintro e w' ⟨rfl, rfl⟩)
  have T0 : Hid (TrimSt w w b S ta tc S.table.length) := Lib.hid ⟨Nat.le_refl _, by rw [List.take_length]; exact HT0.out, Chg.refl _ _, fun i hi h => absurd h (by omega)⟩
  have HTL := Lib.hid htl
  clear k2 kf2 HT0
  go_cut [] (fun wx => TrimEnd w wx b S ta tc)
  case first =>
    generalize hN : S.table.length = N at *
    go_wp2_with fail
    go_loopg [16] N (fun k _ wr => TrimSt w wr b S ta tc k)
    case atStart => exact T0.out
    case round =>
      have HT := Lib.hid hrel
      obtain ⟨c2, f2⟩ := hrel.cells
      have hkN := hrel.le
      rw [hN] at hkN
      clear hrel T0
      by_cases hk0 : gk = 0
      · have hE : Hid (trimT S.table = S.table.take gk) := Lib.hid (trimT_eq S.table gk (by omega) HT.out.neg (.inl hk0))
        have hd : decide (0 < (gk : Int)) = false := by simp; omega
        have hdn : decide (0 < gk) = false := by simp; omega
        clear hkN hk0
        go_wp2_with fail
        go_quiet (fail)
        go_wp2_with fail
        go_meet
        case rel => exact ⟨gk, HT.out.on0 ((Chg.refl [] _).drewN _), hE.out⟩
      · obtain ⟨k, hgk⟩ : ∃ k, gk = k + 1 := ⟨gk - 1, by omega⟩
        have hd : decide (0 < (gk : Int)) = true := by simp; omega
        have hdn : decide (0 < gk) = true := by simp; omega
        have hkl : k < S.table.length := by omega
        obtain ⟨g, cap, cur, hv, -⟩ := HT.out.st.t.pos (by show 0 < (S.table.take gk).length; rw [List.length_take]; omega)
        simp only [Value.slice.injEq] at hv
        obtain ⟨rfl, -, rfl⟩ := hv
        have hlk : (S.table.take gk).length = gk := by rw [List.length_take]; omega
        obtain ⟨c0, z0⟩ := HT.out.st.t.cell (g := g) (cap := tc) (by show Value.slice _ gk tc = .slice _ (S.table.take gk).length tc; rw [hlk]) (i := k) (by show k < (S.table.take gk).length; omega)
        rw [ints_get] at c0
        replace c0 : wr.cell? ⟨g, k, none⟩ = some (intV S.table[k]) := by
          rw [c0, List.getElem?_take, if_pos (by omega), List.getElem?_eq_getElem hkl]
          rfl
        obtain ⟨x, hx⟩ : ∃ x, S.table[k] = x := ⟨_, rfl⟩
        rw [hx] at c0
        have HX := Lib.hid hx
        have hsub : (gk : Int) - 1 = (k : Int) := by omega
        have hklt : k < gk := by omega
        have hgtc : gk ≤ tc := by
          have h1 := HT.out.st.t.shape
          obtain ⟨a, c, h1, h2, -⟩ := h1
          have h3 : Value.slice (some ⟨g, 0, none⟩) gk tc = .slice a (S.table.take gk).length c := h1
          simp only [Value.slice.injEq] at h3
          omega
        clear hx z0 hlk hk0
        by_cases hxn : x < 0
        · have hd2 : decide (x < 0) = true := by simpa using hxn
          have HS : Hid (∀ (w2 : World), Chg [] wr w2 → TrimSt w (w2.setCell ⟨b.s, 2, none⟩ (.slice (some ⟨g, 0, none⟩) k tc)) b S (some ⟨g, 0, none⟩) tc k) := Lib.hid (fun w2 hc => by
            have h1 := HT.out.on0 hc
            rw [hgk] at h1
            exact h1.step (fun _ => by rw [HX.out]; exact hxn))
          have HGKK := Lib.hid hgk
          clear hxn hgk
          go_wp2_with fail
          go_quiet (fail)
          go_wp2_with fail
          go_region
          go_wp2_with fail
          go_roundg k
          case measure => have := HGKK.out; omega
          case rel => exact HS.out _ (((Chg.refl [] _).drewN _).drew)
        · have hd2 : decide (x < 0) = false := by simpa using hxn
          have hE : Hid (trimT S.table = S.table.take gk) := Lib.hid (trimT_eq S.table gk (by omega) HT.out.neg (.inr ⟨by omega, by
            have e : gk - 1 = k := by omega
            simp only [e]
            rw [HX.out]; omega⟩))
          clear hxn hgk
          go_wp2_with fail
          go_quiet (fail)
          go_wp2_with fail
          go_meet
          case rel => exact ⟨gk, HT.out.on0 ((Chg.refl [] _).drewN _), hE.out⟩
  case rest =>
    obtain ⟨gk, HT, hE⟩ := hcut
    have hst : StoreAt wc { b with tv := .slice ta gk tc } S.trimmed := by
      have := HT.st
      unfold Store.trimmed
      rw [hE]
      exact this
    have hch : Chg b.set w wc := HT.chg
    have hgk : gk = (trimT S.table).length := by rw [hE, List.length_take]; have := HT.le; omega
    have hgk512 : gk ≤ 512 := by have := HTL.out; have := HT.le; omega
    have hset : ({ b with tv := .slice ta gk tc } : StoreB).set = b.set := by
      unfold StoreB.set
      rw [HTV.out, ownBlk_len ta gk S.table.length tc]
    have HST := Lib.hid hst
    have HCH := Lib.hid hch
    have HGK := Lib.hid hgk
    have HSET := Lib.hid hset
    have HND := Lib.hid (root_need (gk : Int) wc (by omega) (by omega))
    have hfr := map_free hst.m
    have hneed : S.need = rootNeed (gk : Int) := by rw [hgk]; rfl
    have HNEED := Lib.hid hneed
    have m2 : wc.cell? ⟨b.s, 2, none⟩ = some (.slice ta gk tc) := hst.st.cell 2
    have m1 : wc.cell? ⟨b.s, 1, none⟩ = some (ptrV b.m.m) := hst.st.cell 1
    have m5 : wc.cell? ⟨b.s, 5, none⟩ = some (intV S.epoch) := hst.st.cell 5
    have HFR2 : Hid (Calls Tryz.prog 103 #[ptrV b.m.m] wc fun e w' => e = .returned (intV (FMap.list S.m 0).length) ∧ Chg [] wc w') := Lib.hid hfr
    clear hst hch hgk hset hneed HT HW hfr hE T0
    by_cases hfull : ((FMap.list S.m 0).length : Int) < rootNeed (gk : Int)
    · have hcm : S.commit = (11, S.trimmed) := by
        unfold Store.commit
        rw [if_neg (by rw [HBR.out]; simp), if_pos (by rw [HNEED.out]; exact hfull)]
      have HCM := Lib.hid hcm
      have b1 : decide (((FMap.list S.m 0).length : Int) < rootNeed (gk : Int)) = true := by simpa using hfull
      clear hcm hfull HLAY0
      generalize (FMap.list S.m 0).length = fl at *
      generalize rootNeed (gk : Int) = nd at *
      go_wp2_with (first
        | (go_at_call 102; (with_reducible refine HND.out.mono ?_); rintro e w' ⟨rfl, rfl⟩)
        | (go_at_call 103; (with_reducible refine HFR2.out.mono ?_); rintro e w2 ⟨rfl, hc2⟩; have C2 := Lib.hid hc2; clear hc2))
      go_ret
      rw [HCM.out]
      exact ⟨rfl, { b with tv := .slice ta gk tc }, rfl, HST.out.kept C2.out (by simp), ⟨HCH.out.trans0 C2.out, (HST.out.kept C2.out (by simp)).lt, fun k hk => .inl (by rw [HSET.out] at hk; exact hk)⟩⟩
    · have hlay2 := HLAY0.out (by rw [HNEED.out]; omega)
      have hcm : S.commit = if le ≠ 0 then (le, { S.trimmed with m := S.taken.2, d := D4, broken := true }) else (0, { S.trimmed with d := D4, m := FMap.commit (leaveAll S.taken.2 S.parts), old := S.trimmed.table, parts := S.taken.1, epoch := S.epoch + 1, slot := 1 - S.slot }) := by
        have hep := HEP.out
        unfold Store.commit
        rw [if_neg (by rw [HBR.out]; simp), if_neg (by rw [HNEED.out]; exact hfull), if_neg (by omega), HLAID.out]
      have HCM := Lib.hid hcm
      have HLAY1 := Lib.hid hlay2
      have b1 : decide (((FMap.list S.m 0).length : Int) < rootNeed (gk : Int)) = false := by simpa using hfull
      have b2 : decide (1099511627776 ≤ S.epoch) = false := by have := HEP.out; simp; omega
      obtain ⟨nn, hnn⟩ : ∃ nn : Nat, nn = S.need.toNat := ⟨_, rfl⟩
      have hn0 : 0 ≤ rootNeed (gk : Int) ∧ rootNeed (gk : Int) ≤ 5 := rootNeed_le (by omega) (by omega)
      have hndn : rootNeed (gk : Int) = (nn : Int) := by rw [hnn, HNEED.out]; omega
      have hn5 : nn ≤ 5 := by omega
      have hcnt : nn ≤ List.countP (fun x => x == 0) S.m := by
        rw [list_len] at hfull
        omega
      have b1n : decide ((FMap.list S.m 0).length < nn) = false := by simp; omega
      have HCNT := Lib.hid hcnt
      have HNN := Lib.hid hnn
      have HMANY : Hid (S.taken.1.length = nn) := Lib.hid (by rw [hnn]; exact (takes_ok S.need.toNat S.m (by rw [← hnn]; exact hcnt)).many)
      clear hcm hfull hn0 hcnt hnn hlay2 HLAY0 HLAID
      rw [hndn] at HND b1
      rw [hndn] at HNEED
      generalize (FMap.list S.m 0).length = fl at *
      go_wp2_with (first
        | (go_at_call 102; (with_reducible refine HND.out.mono ?_); rintro e w' ⟨rfl, rfl⟩)
        | (go_at_call 103; (with_reducible refine HFR2.out.mono ?_); rintro e w2 ⟨rfl, hc2⟩; have C2 := Lib.hid hc2; have m52 : w2.cell? ⟨b.s, 5, none⟩ = some (intV S.epoch) := (HST.out.kept hc2 (by simp)).st.cell 5; clear hc2))
      have HLT : Hid (∀ x ∈ ({ b with tv := .slice ta gk tc } : StoreB).set, x < wc.heap.size) := Lib.hid (fun x hx => HST.out.lt x hx)
      have T0 : Hid (TakeSt wc w2 { b with tv := .slice ta gk tc } S.trimmed 0 (.slice none 0 0)) := Lib.hid ⟨HST.out.kept C2.out (by simp), Own.nil _ _ _, by simp [ownBlk], C2.out.mono (by simp)⟩
      clear HST C2 HFR2 HND
      go_loopw [5, 72] (fun pv i wr => ∃ k : Nat, k ≤ nn ∧ i = .int .i64 k ∧ TakeSt wc wr { b with tv := .slice ta gk tc } S.trimmed k pv) (fun _ i _ => nn - (intOf i).toNat)
      case atStart => exact ⟨0, Nat.zero_le _, rfl, T0.out⟩
      case round =>
        obtain ⟨k, hk, rfl, hs⟩ := hrel
        have HS := Lib.hid hs
        have hown := hs.own
        obtain ⟨pad, pc, rfl, hpc1, hpc2⟩ := hown.shape
        clear hs hown T0
        by_cases hlt : k < nn
        · have htk := take_next (k := k) (m := S.m) (by have := HCNT.out; omega)
          have hmt := map_take HS.out.st.m
          have hmt2 : Calls Tryz.prog 104 #[ptrV b.m.m] wr fun e w' => e = .returned (.tuple #[intV ((FMap.first (takes k S.m).2 : Nat) : Int), intV 0]) ∧ MapAt w' b.m (List.set (takes k S.m).2 (FMap.first (takes k S.m).2) 2) ∧ Chg b.m.set wr w' := by
            have : FMap.take ({ S.trimmed with m := (takes k S.trimmed.m).2 } : Store).m = (((FMap.first (takes k S.m).2 : Nat) : Int), 0, List.set (takes k S.m).2 (FMap.first (takes k S.m).2) 2) := htk
            rw [this] at hmt
            exact hmt
          have HMT := Lib.hid hmt2
          have HSN := Lib.hid (takes_snoc k S.m)
          have n1 : wr.cell? ⟨b.s, 1, none⟩ = some (ptrV b.m.m) := HS.out.st.st.cell 1
          have hkn : (k : Int) < (nn : Int) := by omega
          clear htk hmt hmt2 m1 m2 m5 m52 HCM HLAY1
          generalize hfp : FMap.first (takes k S.m).2 = fp at *
          generalize hM2 : List.set (takes k S.m).2 fp 2 = M2 at *
          clear hfp hM2
          go_wp2_with (first
            | (go_at_call 104; (with_reducible refine HMT.out.mono ?_); rintro e w3 ⟨rfl, hm3, hc3⟩; have H3 := Lib.hid (HS.out.st.onM hm3 hc3); have C3 := Lib.hid hc3; have O3 := Lib.hid (HS.out.own.kept hc3 (fun x hx hm => by
                have h1 := HS.out.new x hx
                have h2 := HLT.out x (m_sub ({ b with tv := .slice ta gk tc } : StoreB) x hm)
                omega)); clear hm3 hc3)
            | (refine wpList_append rfl (.tmp 82) (.tmp 84) 52 52 rfl 3 1 8 (intV 0) Tryz.underlying52 info_int rfl (by omega) (.slice pad k pc) k 1 _ _ rfl (O3.out.alloc _) (src_one Tryz.underlying52 w3 _ rfl 3) (by omega) (by unfold maxLen; omega) ?_; intro ad' c' w4 hown2 hc2 hge2 hcm2 hkc2))
          go_roundw
          case rel => exact ⟨k + 1, by omega, by go_num, HS.out.next H3.out C3.out hc2 hown2 hge2 HSN.out HLT.out⟩
          case measure => simp [intOf]; omega
        · obtain rfl : k = nn := by omega
          have htk : takes k S.m = S.taken := by rw [HNN.out]; rfl
          have hml : S.taken.1.length = k := HMANY.out
          have hst2 : StoreAt wr { b with tv := .slice ta gk tc } { S.trimmed with m := S.taken.2 } := by
            rw [← htk]
            exact HS.out.st
          have hown2 : Own wr 3 1 (.slice pad k pc) S.taken.1.length (ints S.taken.1) := by
            rw [hml, ← htk]
            exact HS.out.own
          have hpnew : ∀ x ∈ ownBlk (.slice pad k pc), w.heap.size ≤ x := fun x hx => Nat.le_trans HCH.out.size (HS.out.new x hx)
          have hpn : ∀ x ∈ ownBlk (.slice pad k pc), x ∉ ({ b with tv := .slice ta gk tc } : StoreB).set := fun x hx hm => by
            have h1 := HS.out.new x hx
            have h2 := HLT.out x hm
            omega
          have HLAY : Hid (Calls Tryz.prog 105 #[ptrV b.s, .slice pad k pc] wr fun e w' => e = .returned (intV le) ∧ StoreAt w' { b with tv := .slice ta gk tc } { S.trimmed with m := S.taken.2, d := D4 } ∧ Chg b.d.set wr w') := Lib.hid (HLAY1.out wr _ (.slice pad k pc) hst2 hown2 hpn)
          have HML := Lib.hid hml
          have HPN := Lib.hid hpn
          have HPNEW := Lib.hid hpnew
          have HOW2 := Lib.hid hown2
          have HCHG := Lib.hid HS.out.chg
          obtain ⟨oa, oc, hpv, -, -⟩ := HH.out.p.shape
          have HPV := Lib.hid hpv
          have hp5 := HP5.out
          clear htk hml hst2 hown2 hpn hpv m1 m2 m5 m52 hk hlt HLAY1 HS hpnew HCNT
          by_cases hle : le = 0
          · have hcm := HCM.out
            rw [if_neg (by simp [hle])] at hcm
            clear HCM
            have HCM := Lib.hid hcm
            clear hcm
            rw [hle] at HLAY
            clear hle
            go_wp2_with (first
              | (go_at_call 105; (with_reducible refine HLAY.out.mono ?_); rintro e w5 ⟨rfl, h5, hc5⟩; have H5 := Lib.hid h5; have C5 := Lib.hid hc5; have p4 : w5.cell? ⟨b.s, 4, none⟩ = some (.slice oa S.parts.length oc) := (by have := h5.st.cell 4; simp [storeCells] at this; rw [← HPV.out]; exact this); clear h5 hc5))
            have L0 : Hid (LeaveSt wc w5 { b with tv := .slice ta gk tc } { S.trimmed with d := D4 } S.taken.2 (.slice pad k pc) S.taken.1) := Lib.hid ⟨H5.out, HOW2.out.kept C5.out (fun x hx hm => HPN.out x hx (d_sub ({ b with tv := .slice ta gk tc } : StoreB) x hm)), HCHG.out.trans1 (C5.out.mono (d_sub ({ b with tv := .slice ta gk tc } : StoreB)))⟩
            clear p4 HCHG H5 C5 HOW2 HLAY
            go_loopw [101] (fun i wr => ∃ (j : Nat) (m' : FMap), j ≤ S.parts.length ∧ i = .int .i64 j ∧ leaveAll S.taken.2 S.parts = leaveAll m' (S.parts.drop j) ∧ LeaveSt wc wr { b with tv := .slice ta gk tc } { S.trimmed with d := D4 } m' (.slice pad k pc) S.taken.1) (fun i _ => S.parts.length - (intOf i).toNat)
            case atStart => exact ⟨0, S.taken.2, Nat.zero_le _, rfl, rfl, L0.out⟩
            case round =>
              obtain ⟨j, m', hj, rfl, hla, hl⟩ := hrel
              have HL := Lib.hid hl
              have HLA := Lib.hid hla
              clear hl hla L0
              by_cases hlt : j < S.parts.length
              · have hpo : Own wr 3 1 b.pv S.parts.length (ints S.parts) := HL.out.st.p
                rw [HPV.out] at hpo
                obtain ⟨g3, c3, cur3, hv3, -⟩ := hpo.pos (by omega)
                simp only [Value.slice.injEq] at hv3
                obtain ⟨rfl, -, rfl⟩ := hv3
                obtain ⟨c0, z0⟩ := hpo.cell rfl hlt
                rw [ints_get, List.getElem?_eq_getElem hlt] at c0
                simp only [Option.map_some] at c0
                have hlv : Calls Tryz.prog 101 #[ptrV b.m.m, intV S.parts[j]] wr fun e w' => e = .returned (intV (FMap.leave m' S.parts[j]).1) ∧ MapAt w' b.m (FMap.leave m' S.parts[j]).2 ∧ Chg b.m.set wr w' := map_leave HL.out.st.m S.parts[j]
                have HLV := Lib.hid hlv
                have HNX : Hid (leaveAll S.taken.2 S.parts = leaveAll (FMap.leave m' S.parts[j]).2 (S.parts.drop (j + 1))) := Lib.hid (by rw [HLA.out, List.drop_eq_getElem_cons hlt]; rfl)
                have n1 : wr.cell? ⟨b.s, 1, none⟩ = some (ptrV b.m.m) := HL.out.st.st.cell 1
                have hji : (j : Int) < (S.parts.length : Int) := by omega
                generalize S.parts[j] = px at *
                clear z0 hpo hlv
                go_wp2_with (first
                  | (go_at_call 101; (with_reducible refine HLV.out.mono ?_); rintro e w6 ⟨rfl, hm6, hc6⟩; have L6 := Lib.hid (HL.out.onM hm6 hc6 HPN.out); clear hm6 hc6))
                go_roundw
                case rel => exact ⟨j + 1, _, by omega, by go_num, HNX.out, L6.out⟩
                case measure => simp [intOf]; omega
              · obtain rfl : j = S.parts.length := by omega
                rw [List.drop_length] at HLA
                have hla2 : leaveAll S.taken.2 S.parts = m' := HLA.out
                have hcm0 := HCM.out
                rw [hla2] at hcm0
                clear HCM
                have HCM := Lib.hid hcm0
                clear hcm0
                have n1 : wr.cell? ⟨b.s, 1, none⟩ = some (ptrV b.m.m) := HL.out.st.st.cell 1
                have hcm : Calls Tryz.prog 106 #[ptrV b.m.m] wr fun e w' => e = .returned (.bool true) ∧ MapAt w' b.m (FMap.commit m') ∧ Chg b.m.set wr w' := map_commit HL.out.st.m
                have HCMT := Lib.hid hcm
                clear hcm hla2 HLA hj hlt
                go_upto_region 27 with (first
                  | (go_at_call 106; (with_reducible refine HCMT.out.mono ?_); rintro e w6 ⟨rfl, hm6, hc6⟩; have L6 := Lib.hid (HL.out.onM hm6 hc6 HPN.out); clear hm6 hc6))
                have L7 := Lib.hid (L6.out.on0 ((Chg.refl [] w6).drew))
                have hto : Own w6.drew 3 1 (.slice ta gk tc) S.trimmed.table.length (ints S.trimmed.table) := L7.out.st.t
                have hgk2 : S.trimmed.table.length = gk := by rw [HGK.out]; rfl
                have hcl := slices_clone hto (by rw [hgk2]; omega)
                rw [hgk2] at hcl
                have HCL := Lib.hid hcl
                have e1 : IntKind.i64.wrap (S.epoch + 1) = S.epoch + 1 := IntWalk.i64_in _ (by have := HEP.out; omega)
                have e2 : IntKind.i64.wrap (1 - S.slot) = 1 - S.slot := IntWalk.i64_in _ (by have := HSL.out; omega)
                have FACTS : Hid (∀ w7 : World, Chg [] w6.drew w7 → w7.cell? ⟨b.s, 2, none⟩ = some (.slice ta gk tc) ∧ w7.cell? ⟨b.s, 3, none⟩ = some b.ov ∧ w7.cell? ⟨b.s, 4, none⟩ = some b.pv ∧ w7.cell? ⟨b.s, 5, none⟩ = some (intV S.epoch) ∧ w7.cell? ⟨b.s, 6, none⟩ = some (intV S.slot) ∧ w7.frozen? ⟨b.s, 3, none⟩ = false ∧ w7.frozen? ⟨b.s, 4, none⟩ = false ∧ w7.frozen? ⟨b.s, 5, none⟩ = false ∧ w7.frozen? ⟨b.s, 6, none⟩ = false) := Lib.hid (fun w7 hc => by
                  have h := (L7.out.on0 hc).st.st
                  exact ⟨h.cell 2, h.cell 3, h.cell 4, h.cell 5, h.cell 6, h.free 3, h.free 4, h.free 5, h.free 6⟩)
                have FIN : Hid (∀ (w7 : World) (v7 : Value), Own w7 3 1 v7 gk (ints S.trimmed.table) → Chg [] w6.drew w7 → (∀ k ∈ ownBlk v7, w6.drew.heap.size ≤ k) → StoreTo b w ((((w7.setCell ⟨b.s, 3, none⟩ v7).setCell ⟨b.s, 4, none⟩ (.slice pad k pc)).setCell ⟨b.s, 5, none⟩ (intV (S.epoch + 1))).setCell ⟨b.s, 6, none⟩ (intV (1 - S.slot))) { S.trimmed with d := D4, m := FMap.commit m', old := S.trimmed.table, parts := S.taken.1, epoch := S.epoch + 1, slot := 1 - S.slot }) := Lib.hid (fun w7 v7 h1 h2 h3 =>
                  commit_fin (S.epoch + 1) (1 - S.slot) HSET.out rfl HCH.out L7.out HPNEW.out HPN.out (by rw [hgk2]; exact h1) h2 h3)
                generalize ({ S.trimmed with d := D4, m := FMap.commit m', old := S.trimmed.table, parts := S.taken.1, epoch := S.epoch + 1, slot := 1 - S.slot } : Store) = SC at *
                generalize ints S.trimmed.table = tbl at *
                generalize S.epoch = ep at *
                generalize S.slot = slo at *
                clear hcl hto hgk2 n1 HCMT L6 L7 HL HPN HPNEW HSET HCH HEP HSL
                go_cut [] (fun wx => StoreTo b w wx SC)
                case first =>
                  obtain ⟨x2, x3, x4, x5, x6, j3, j4, j5, j6⟩ := FACTS.out w6.drew (Chg.refl _ _)
                  clear HH HBR HP5 htl htc htc2 HTV HTL hgk512 HGK HLT hpc1 hpc2 HNEED hndn hn5 HNN HMANY b1 b1n HML HPV hp5 HCM
                  refine wp_region_late (fun w' => w'.cell? ⟨b.s, 2, none⟩ = some (.slice ta gk tc) ∧ w'.cell? ⟨b.s, 5, none⟩ = some (intV ep) ∧ w'.cell? ⟨b.s, 6, none⟩ = some (intV slo)) (fun j => decide (20 ≤ j)) (by kernel_rfl) 32 rfl ?_
                  refine wpAnyL_pure (v := ?v0) 0 117 rfl rfl (by kernel_rfl) (by kernel_rfl) (by kernel_rfl) (by rfl) (fun _ _ _ h => h) ?hy0 ?rest0
                  case hy0 => intro w; go_simp; with_reducible rfl
                  simp only [List.setIfInBounds_toArray, List.set_cons_zero, List.set_cons_succ]
                  refine wpAnyL_pure (v := ?v1) 1 118 rfl rfl (by kernel_rfl) (by kernel_rfl) (by kernel_rfl) (by rfl) (fun _ _ _ h => h) ?hy1 ?rest1
                  case hy1 => intro w; go_simp; with_reducible rfl
                  simp only [List.setIfInBounds_toArray, List.set_cons_zero, List.set_cons_succ]
                  refine wpAnyL_pure (v := ?v2) 2 119 rfl rfl (by kernel_rfl) (by kernel_rfl) (by kernel_rfl) (by rfl) (fun _ _ _ h => h) ?hy2 ?rest2
                  case hy2 => intro w; go_simp; with_reducible rfl
                  simp only [List.setIfInBounds_toArray, List.set_cons_zero, List.set_cons_succ]
                  refine wpAnyL_pure (v := ?v3) 3 120 rfl rfl (by kernel_rfl) (by kernel_rfl) (by kernel_rfl) (by rfl) (fun _ _ _ h => h) ?hy3 ?rest3
                  case hy3 => intro w; go_simp; with_reducible rfl
                  simp only [List.setIfInBounds_toArray, List.set_cons_zero, List.set_cons_succ]
                  refine wpAnyL_pure (v := ?v4) 4 121 rfl rfl (by kernel_rfl) (by kernel_rfl) (by kernel_rfl) (by rfl) (fun _ _ _ h => h) ?hy4 ?rest4
                  case hy4 => intro w; go_simp; with_reducible rfl
                  simp only [List.setIfInBounds_toArray, List.set_cons_zero, List.set_cons_succ]
                  refine wpAnyL_pure (v := ?v5) 5 122 rfl rfl (by kernel_rfl) (by kernel_rfl) (by kernel_rfl) (by rfl) (fun _ _ _ h => h) ?hy5 ?rest5
                  case hy5 => intro w; go_simp; with_reducible rfl
                  simp only [List.setIfInBounds_toArray, List.set_cons_zero, List.set_cons_succ]
                  refine wpAnyL_pure (v := ?v6) 6 123 rfl rfl (by kernel_rfl) (by kernel_rfl) (by kernel_rfl) (by rfl) (fun _ _ _ h => h) ?hy6 ?rest6
                  case hy6 => intro w; go_simp; with_reducible rfl
                  simp only [List.setIfInBounds_toArray, List.set_cons_zero, List.set_cons_succ]
                  refine wpAnyL_load (v := ?v7) 7 124 rfl rfl (by kernel_rfl) (by kernel_rfl) (by kernel_rfl) (by kernel_rfl) (by rfl) (fun _ _ _ h => h) ⟨x2, x5, x6⟩ ?hy7 ?rest7
                  case hy7 => intro w hS; obtain ⟨s2, s5, s6⟩ := hS; go_simp; with_reducible rfl
                  simp only [List.setIfInBounds_toArray, List.set_cons_zero, List.set_cons_succ]
                  refine wpAnyL_pure (v := ?v9) 9 126 rfl rfl (by kernel_rfl) (by kernel_rfl) (by kernel_rfl) (by rfl) (fun _ _ _ h => h) ?hy9 ?rest9
                  case hy9 => intro w; go_simp; with_reducible rfl
                  simp only [List.setIfInBounds_toArray, List.set_cons_zero, List.set_cons_succ]
                  refine wpAnyL_pure (v := ?v10) 10 127 rfl rfl (by kernel_rfl) (by kernel_rfl) (by kernel_rfl) (by rfl) (fun _ _ _ h => h) ?hy10 ?rest10
                  case hy10 => intro w; go_simp; with_reducible rfl
                  simp only [List.setIfInBounds_toArray, List.set_cons_zero, List.set_cons_succ]
                  refine wpAnyL_pure (v := ?v11) 11 128 rfl rfl (by kernel_rfl) (by kernel_rfl) (by kernel_rfl) (by rfl) (fun _ _ _ h => h) ?hy11 ?rest11
                  case hy11 => intro w; go_simp; with_reducible rfl
                  simp only [List.setIfInBounds_toArray, List.set_cons_zero, List.set_cons_succ]
                  refine wpAnyL_pure (v := ?v12) 12 129 rfl rfl (by kernel_rfl) (by kernel_rfl) (by kernel_rfl) (by rfl) (fun _ _ _ h => h) ?hy12 ?rest12
                  case hy12 => intro w; go_simp; with_reducible rfl
                  simp only [List.setIfInBounds_toArray, List.set_cons_zero, List.set_cons_succ]
                  refine wpAnyL_load (v := ?v13) 13 130 rfl rfl (by kernel_rfl) (by kernel_rfl) (by kernel_rfl) (by kernel_rfl) (by rfl) (fun _ _ _ h => h) ⟨x2, x5, x6⟩ ?hy13 ?rest13
                  case hy13 => intro w hS; obtain ⟨s2, s5, s6⟩ := hS; go_simp; with_reducible rfl
                  simp only [List.setIfInBounds_toArray, List.set_cons_zero, List.set_cons_succ]
                  refine wpAnyL_pure (v := ?v14) 14 131 rfl rfl (by kernel_rfl) (by kernel_rfl) (by kernel_rfl) (by rfl) (fun _ _ _ h => h) ?hy14 ?rest14
                  case hy14 => intro w; go_simp; with_reducible rfl
                  simp only [List.setIfInBounds_toArray, List.set_cons_zero, List.set_cons_succ]
                  refine wpAnyL_pure (v := ?v15) 15 132 rfl rfl (by kernel_rfl) (by kernel_rfl) (by kernel_rfl) (by rfl) (fun _ _ _ h => h) ?hy15 ?rest15
                  case hy15 => intro w; go_simp; with_reducible rfl
                  simp only [List.setIfInBounds_toArray, List.set_cons_zero, List.set_cons_succ]
                  refine wpAnyL_pure (v := ?v16) 16 133 rfl rfl (by kernel_rfl) (by kernel_rfl) (by kernel_rfl) (by rfl) (fun _ _ _ h => h) ?hy16 ?rest16
                  case hy16 => intro w; go_simp; with_reducible rfl
                  simp only [List.setIfInBounds_toArray, List.set_cons_zero, List.set_cons_succ]
                  refine wpAnyL_pure (v := ?v17) 17 134 rfl rfl (by kernel_rfl) (by kernel_rfl) (by kernel_rfl) (by rfl) (fun _ _ _ h => h) ?hy17 ?rest17
                  case hy17 => intro w; go_simp; with_reducible rfl
                  simp only [List.setIfInBounds_toArray, List.set_cons_zero, List.set_cons_succ]
                  refine wpAnyL_load (v := ?v18) 18 135 rfl rfl (by kernel_rfl) (by kernel_rfl) (by kernel_rfl) (by kernel_rfl) (by rfl) (fun _ _ _ h => h) ⟨x2, x5, x6⟩ ?hy18 ?rest18
                  case hy18 => intro w hS; obtain ⟨s2, s5, s6⟩ := hS; go_simp; with_reducible rfl
                  simp only [List.setIfInBounds_toArray, List.set_cons_zero, List.set_cons_succ]
                  refine wpAnyL_pure (v := ?v19) 19 136 rfl rfl (by kernel_rfl) (by kernel_rfl) (by kernel_rfl) (by rfl) (fun _ _ _ h => h) ?hy19 ?rest19
                  case hy19 => intro w; go_simp; with_reducible rfl
                  simp only [List.setIfInBounds_toArray, List.set_cons_zero, List.set_cons_succ]
                  refine wpAnyL_call (f := 80) (args := #[.slice ta gk tc]) 8 125 rfl rfl (by kernel_rfl) (by rfl) ?hr8 (fun v w7 => ∃ na nc, v = .slice na gk nc ∧ Own w7 3 1 v gk tbl ∧ Chg [] w6.drew w7 ∧ ∀ k ∈ ownBlk v, w6.drew.heap.size ≤ k) ?hc8 ?rest8
                  case hr8 => go_simp
                  case hc8 => exact HCL.out.mono fun e w7 ⟨v7, h1, h2, h3, h4⟩ => (by obtain ⟨na, nc, h5, -, -⟩ := h2.shape; exact ⟨v7, h1, na, nc, h5, h2, h3, h4⟩)
                  rintro v7 w7 ⟨na, nc, rfl, O7, C7, N7⟩
                  obtain ⟨y2, y3, y4, y5, y6, g3, g4, g5, g6⟩ := FACTS.out w7 C7
                  refine ⟨fun _ _ => ⟨y2, y5, y6⟩, ?_⟩
                  have HF := Lib.hid (FIN.out w7 _ O7 C7 N7)
                  clear O7 C7 N7 FACTS x2 x3 x4 x5 x6 j3 j4 j5 j6 FIN HCL
                  simp only [List.setIfInBounds_toArray, List.set_cons_zero, List.set_cons_succ]
                  refine wpAnyL_pure (v := ?v20) 20 137 rfl rfl (by kernel_rfl) (by kernel_rfl) (by kernel_rfl) (by rfl) (fun _ _ _ h => h) ?hy20 ?rest20
                  case hy20 => intro w; go_simp; with_reducible rfl
                  simp only [List.setIfInBounds_toArray, List.set_cons_zero, List.set_cons_succ]
                  refine wpAnyL_pure (v := ?v21) 21 138 rfl rfl (by kernel_rfl) (by kernel_rfl) (by kernel_rfl) (by rfl) (fun _ _ _ h => h) ?hy21 ?rest21
                  case hy21 => intro w; go_simp; with_reducible rfl
                  simp only [List.setIfInBounds_toArray, List.set_cons_zero, List.set_cons_succ]
                  refine wpAnyL_store (w' := ?w22) 22 rfl rfl (by kernel_rfl) (by rfl) rfl ?hs22 ?rest22
                  case hs22 => go_simp; with_reducible rfl
                  refine wpAnyL_pure (v := ?v23) 23 139 rfl rfl (by kernel_rfl) (by kernel_rfl) (by kernel_rfl) (by rfl) (fun _ _ _ h => h) ?hy23 ?rest23
                  case hy23 => intro w; go_simp; with_reducible rfl
                  simp only [List.setIfInBounds_toArray, List.set_cons_zero, List.set_cons_succ]
                  refine wpAnyL_pure (v := ?v24) 24 140 rfl rfl (by kernel_rfl) (by kernel_rfl) (by kernel_rfl) (by rfl) (fun _ _ _ h => h) ?hy24 ?rest24
                  case hy24 => intro w; go_simp; with_reducible rfl
                  simp only [List.setIfInBounds_toArray, List.set_cons_zero, List.set_cons_succ]
                  refine wpAnyL_store (w' := ?w25) 25 rfl rfl (by kernel_rfl) (by rfl) rfl ?hs25 ?rest25
                  case hs25 => go_simp; with_reducible rfl
                  refine wpAnyL_pure (v := ?v26) 26 141 rfl rfl (by kernel_rfl) (by kernel_rfl) (by kernel_rfl) (by rfl) (fun _ _ _ h => h) ?hy26 ?rest26
                  case hy26 => intro w; go_simp; with_reducible rfl
                  simp only [List.setIfInBounds_toArray, List.set_cons_zero, List.set_cons_succ]
                  refine wpAnyL_pure (v := ?v27) 27 142 rfl rfl (by kernel_rfl) (by kernel_rfl) (by kernel_rfl) (by rfl) (fun _ _ _ h => h) ?hy27 ?rest27
                  case hy27 => intro w; go_simp; with_reducible rfl
                  simp only [List.setIfInBounds_toArray, List.set_cons_zero, List.set_cons_succ]
                  refine wpAnyL_store (w' := ?w28) 28 rfl rfl (by kernel_rfl) (by rfl) rfl ?hs28 ?rest28
                  case hs28 => go_simp; with_reducible rfl
                  refine wpAnyL_pure (v := ?v29) 29 143 rfl rfl (by kernel_rfl) (by kernel_rfl) (by kernel_rfl) (by rfl) (fun _ _ _ h => h) ?hy29 ?rest29
                  case hy29 => intro w; go_simp; with_reducible rfl
                  simp only [List.setIfInBounds_toArray, List.set_cons_zero, List.set_cons_succ]
                  refine wpAnyL_pure (v := ?v30) 30 144 rfl rfl (by kernel_rfl) (by kernel_rfl) (by kernel_rfl) (by rfl) (fun _ _ _ h => h) ?hy30 ?rest30
                  case hy30 => intro w; go_simp; with_reducible rfl
                  simp only [List.setIfInBounds_toArray, List.set_cons_zero, List.set_cons_succ]
                  refine wpAnyL_store (w' := ?w31) 31 rfl rfl (by kernel_rfl) (by rfl) rfl ?hs31 ?rest31
                  case hs31 => go_simp; with_reducible rfl
                  refine wpAnyL_done (by kernel_rfl) ?_
                  go_wp2_with fail
                  go_meet
                  case rel => exact HF.out
                case rest =>
                  have HC := Lib.hid hcut
                  clear hcut
                  go_wp2_with fail
                  go_ret
                  rw [HCM.out]
                  exact ⟨rfl, HC.out⟩
          · have hcm := HCM.out
            rw [if_pos hle] at hcm
            clear HCM
            have HCM := Lib.hid hcm
            have q1 : (le == 0) = false := by simpa using hle
            have q2 : (le != 0) = true := by simpa using hle
            clear hcm hle
            go_wp2_with (first
              | (go_at_call 105; (with_reducible refine HLAY.out.mono ?_); rintro e w5 ⟨rfl, h5, hc5⟩; have H5 := Lib.hid h5; have C5 := Lib.hid hc5; have p7 : w5.cell? ⟨b.s, 7, none⟩ = some (.bool S.trimmed.broken) := h5.st.cell 7; have z7 := h5.st.free 7; clear h5 hc5))
            go_ret
            rw [HCM.out]
            refine ⟨rfl, H5.out.breaks rfl HSET.out ?_⟩
            have h1 : Chg b.set wc wr := HSET.out ▸ HCHG.out
            exact (HCH.out.trans1 h1).trans1 (C5.out.mono (d_sub b))

end Go.Proofs.YtjbpdgknhbnfgaaGreat

namespace Go.Proofs.YtjbpdgknhbnfgaaGreat

theorem findIdx_of_map2 {α β : Type} (p : α → Bool) (q : β → Bool) : ∀ (L : List α) (M : List β), L.map p = M.map q → L.findIdx p = M.findIdx q
  | [], [], _ => rfl
  | [], _ :: _, h => by simp at h
  | _ :: _, [], h => by simp at h
  | f :: L, g :: M, h => by
    simp only [List.map_cons, List.cons.injEq] at h
    have ih := findIdx_of_map2 p q L M h.2
    simp only [List.findIdx_cons, h.1, ih]

/-- What a table's entry t says: no page, or a physical page of the payload b, written since the last commit. -/
def Store.Has (S : Store) (t : Int) : Option Bytes → Prop
  | none => t = -1
  | some b => ∃ n : Nat, t = n ∧ n < S.d.pages ∧ S.m[n]? = some 2 ∧ b.length = 232 ∧ ∃ ep, pageGet (S.d.area n) = (⟨n, ep, 2, b⟩, 0)

structure Store.View (S : Store) (A : List (Option Bytes)) (f : Nat) : Prop where
  ok : S.Ok
  up : S.d.Up
  br : S.broken = false
  len : A.length = S.table.length
  cell : ∀ (i : Nat) x, A[i]? = some x → ∃ t, S.table[i]? = some t ∧ S.Has t x
  inj : ∀ (i j : Nat) t, S.table[i]? = some t → S.table[j]? = some t → 0 ≤ t → i = j
  free : List.countP (fun k => k == 0) S.m = f

theorem Store.View.cell' {S : Store} {A : List (Option Bytes)} {f : Nat} (h : S.View A f) {i : Nat} {t : Int} (ht : S.table[i]? = some t) : ∃ x, A[i]? = some x ∧ S.Has t x := by
  have hi : i < A.length := by rw [h.len]; exact (List.getElem?_eq_some_iff.1 ht).1
  obtain ⟨t', h1, h2⟩ := h.cell i _ (List.getElem?_eq_getElem hi)
  rw [ht] at h1
  obtain rfl : t = t' := by simpa using h1
  exact ⟨_, List.getElem?_eq_getElem hi, h2⟩

theorem Store.Has.none_iff {S : Store} {t : Int} {x : Option Bytes} (h : S.Has t x) : (t == -1) = x.isNone := by
  cases x with
  | none => have h1 : t = -1 := h; simp [h1]
  | some b =>
    obtain ⟨n, rfl, -⟩ := h
    have h1 : ¬ ((n : Int) = -1) := by omega
    simp

theorem Store.View.hole {S : Store} {A : List (Option Bytes)} {f : Nat} (h : S.View A f) : S.hole = A.findIdx Option.isNone := by
  unfold Store.hole
  apply findIdx_of_map2
  apply List.ext_getElem?
  intro i
  rw [List.getElem?_map, List.getElem?_map]
  cases ha : A[i]? with
  | none =>
    have hi : S.table[i]? = none := by rw [List.getElem?_eq_none_iff] at ha ⊢; rw [← h.len]; exact ha
    rw [hi]
    rfl
  | some x =>
    obtain ⟨t, ht, hx⟩ := h.cell i x ha
    rw [ht]
    exact congrArg some hx.none_iff

theorem Store.View.tab {S : Store} {A : List (Option Bytes)} {f : Nat} (h : S.View A f) {i : Nat} {b : Bytes} (ha : A[i]? = some (some b)) :
    ∃ n : Nat, S.tab i = n ∧ S.table[i]? = some (n : Int) ∧ i < S.table.length ∧ n < S.d.pages ∧ S.m[n]? = some 2 ∧ b.length = 232 ∧ ∃ ep, pageGet (S.d.area n) = (⟨n, ep, 2, b⟩, 0) := by
  obtain ⟨t, ht, n, rfl, h1⟩ := h.cell i _ ha
  have hi := (List.getElem?_eq_some_iff.1 ht).1
  refine ⟨n, ?_, ht, hi, h1⟩
  rw [Store.tab_of hi]
  exact (List.getElem?_eq_some_iff.1 ht).2

theorem Store.View.at_yes {S : Store} {A : List (Option Bytes)} {f : Nat} (h : S.View A f) {i : Nat} {b : Bytes} (ha : A[i]? = some (some b)) : S.at_ i = 0 := by
  obtain ⟨n, h1, -, h2, -⟩ := h.tab ha
  unfold Store.at_
  rw [h.br, if_neg (by simp), if_neg (by rw [h1]; omega)]

/-- Is there such a page? -/
def lookup (A : List (Option Bytes)) (l : Int) : Option Bytes := if l < 0 then none else (A[l.toNat]?).getD none
theorem lookup_nat (A : List (Option Bytes)) (i : Nat) : lookup A i = (A[i]?).getD none := by
  unfold lookup
  rw [if_neg (by omega), Int.toNat_natCast]
theorem lookup_some {A : List (Option Bytes)} {l : Int} {b : Bytes} (h : lookup A l = some b) : ∃ i : Nat, l = i ∧ A[i]? = some (some b) := by
  unfold lookup at h
  split at h
  · cases h
  · refine ⟨l.toNat, by omega, ?_⟩
    cases hx : A[l.toNat]? with
    | none => rw [hx] at h; cases h
    | some x =>
      rw [hx] at h
      have : x = some b := h
      rw [this]
theorem lookup_of {A : List (Option Bytes)} {i : Nat} {b : Bytes} (h : A[i]? = some (some b)) : lookup A i = some b := by rw [lookup_nat, h]; rfl

theorem Store.View.at_no {S : Store} {A : List (Option Bytes)} {f : Nat} (h : S.View A f) {l : Int} (ha : lookup A l = none) : S.at_ l = 3 := by
  unfold Store.at_
  rw [h.br, if_neg (by simp)]
  split
  · rfl
  · rename_i hc
    obtain ⟨i, rfl⟩ : ∃ i : Nat, l = i := ⟨l.toNat, by omega⟩
    have hi : i < S.table.length := by omega
    obtain ⟨x, hx, hh⟩ := h.cell' (List.getElem?_eq_getElem hi)
    rw [lookup_nat, hx] at ha
    obtain rfl : x = none := ha
    have h1 : S.table[i] = -1 := hh
    rw [Store.tab_of hi, h1] at hc
    omega

theorem Store.View.read {S : Store} {A : List (Option Bytes)} {f : Nat} (h : S.View A f) (l : Int) :
    S.read l = match lookup A l with | some b => (b, 0) | none => ([], 3) := by
  cases hl : lookup A l with
  | none =>
    unfold Store.read
    rw [h.at_no hl]
    rfl
  | some b =>
    obtain ⟨i, rfl, ha⟩ := lookup_some hl
    obtain ⟨n, h1, h2, h3, h4, h5, h6, ep, h7⟩ := h.tab ha
    unfold Store.read
    rw [h.at_yes ha, if_neg (by simp), h1]
    have hp := (Disk.pages_le S.d).1
    rw [pageRead_up h.up n (by omega) _ h7 rfl]
    rfl

theorem Store.View.fresh_full {S : Store} {A : List (Option Bytes)} (h : S.View A 0) (p : Bytes) : S.fresh p = (0, 11, S) := by
  have hf : ¬ FMap.first S.m < S.m.length := by
    intro hlt
    have h0 := List.findIdx_getElem (w := hlt)
    have hc := List.countP_eq_zero.1 h.free S.m[FMap.first S.m] (List.getElem_mem hlt)
    exact hc h0
  unfold Store.fresh FMap.take
  rw [if_neg hf]
  rfl

theorem Store.View.fresh_ok {S : Store} {A : List (Option Bytes)} {f : Nat} (h : S.View A (f + 1)) (p : Bytes) (hl : p.length ≤ 232) :
    ∃ (n : Nat) (D' : Disk), S.fresh p = ((n : Int), 0, { S with m := List.set S.m n 2, d := D' }) ∧ n < S.d.pages ∧ S.m[n]? = some 0 ∧ D'.Up ∧ D'.loose.length = S.d.loose.length ∧
      pageGet (D'.area n) = (⟨n, S.epoch + 1, 2, pad p⟩, 0) ∧ ∀ m, m ≠ n → D'.area m = S.d.area m := by
  have hlt : FMap.first S.m < S.m.length := by
    apply List.findIdx_lt_length_of_exists
    apply Classical.byContradiction
    intro hn
    have : List.countP (fun k => k == 0) S.m = 0 := List.countP_eq_zero.2 fun a ha hb => hn ⟨a, ha, hb⟩
    have := h.free
    omega
  have h0 := List.findIdx_getElem (w := hlt)
  obtain ⟨n, hn⟩ : ∃ n, n = FMap.first S.m := ⟨_, rfl⟩
  have hz : S.m[FMap.first S.m] = 0 := eq_of_beq h0
  have hm0 : S.m[n]? = some 0 := by rw [hn, List.getElem?_eq_getElem hlt, hz]
  rw [← hn] at hlt
  have hml := h.ok.ml
  have hpl := Disk.pages_le S.d
  have hep := h.ok.ep
  have hr : Page.right ⟨n, S.epoch + 1, 2, p⟩ = true := by
    simp [Page.right]
    omega
  obtain ⟨D', e, hu, hll, ha, ho, -⟩ := pageWrite_up h.up n (by omega) (S.epoch + 1) 2 p hr hl
  refine ⟨n, D', ?_, by omega, hm0, hu, hll, ?_, ho⟩
  · unfold Store.fresh FMap.take
    rw [← hn, if_pos hlt]
    dsimp only
    rw [if_neg (by simp)]
    unfold Store.put
    dsimp only
    rw [e, if_neg (by simp)]
  · rw [ha]
    exact pageGet_bytes _ hr hl (by show (n : Int) ≤ _; omega)

theorem countP_set {m : List Int} {n : Nat} {a b : Int} (h : m[n]? = some a) : List.countP (fun k => k == 0) (List.set m n b) + (if a == 0 then 1 else 0) = List.countP (fun k => k == 0) m + (if b == 0 then 1 else 0) := by
  induction m generalizing n with
  | nil => simp at h
  | cons c m ih =>
    cases n with
    | zero =>
      obtain rfl : c = a := by simpa using h
      simp only [List.set_cons_zero, List.countP_cons]
      omega
    | succ n =>
      have := ih (n := n) (by simpa using h)
      simp only [List.set_cons_succ, List.countP_cons]
      omega

theorem Store.View.new_ok {S : Store} {A : List (Option Bytes)} {f : Nat} (h : S.View A (f + 1)) (p : Bytes) (hl : p.length ≤ 232) (hh : A.findIdx Option.isNone < 512) :
    ∃ S', S.new p = (((A.findIdx Option.isNone : Nat) : Int), 0, S') ∧ S'.View (putAt A (A.findIdx Option.isNone) (some (pad p))) f := by
  obtain ⟨n, D', e, hn, hm0, hu, hll, hg, ho⟩ := h.fresh_ok p hl
  have hhole := h.hole
  obtain ⟨k, hk⟩ : ∃ k, k = A.findIdx Option.isNone := ⟨_, rfl⟩
  rw [← hk] at hhole hh ⊢
  have hkl : k ≤ A.length := by rw [hk]; exact List.findIdx_le_length
  have hlen := h.len
  have htab : (if S.hole = S.table.length then S.table ++ [(n : Int)] else S.table.set S.hole n) = putAt S.table k n := by
    unfold putAt
    rw [hhole]
  refine ⟨{ S with m := List.set S.m n 2, d := D', table := putAt S.table k n }, ?_, ?_⟩
  · unfold Store.new
    rw [if_neg (by rw [h.br]; simp), if_neg (by omega), hhole, if_neg (by omega), e]
    dsimp only
    rw [if_neg (by simp)]
    rw [hhole] at htab
    rw [htab]
  · have hpg := Store.pages_of_loose hll
    have hgetT : ∀ j, (putAt S.table k (n : Int))[j]? = if j = k then some (n : Int) else S.table[j]? := fun j => putAt_get _ _ _ (by omega) j
    have hmem : ∀ t ∈ putAt S.table k (n : Int), t = n ∨ t ∈ S.table := fun t ht => by
      obtain ⟨j, hj⟩ := List.mem_iff_getElem?.1 ht
      rw [hgetT] at hj
      split at hj
      · left; simpa using hj.symm
      · right; exact List.mem_of_getElem? hj
    have hnew : ∀ (j : Nat) (t : Int), S.table[j]? = some t → t ≠ n := fun j t ht e => by
      subst e
      obtain ⟨x, -, hx⟩ := h.cell' ht
      cases x with
      | none => have h1 : (n : Int) = -1 := hx; omega
      | some b =>
        obtain ⟨n', e1, -, h2, -⟩ := hx
        obtain rfl : n = n' := by omega
        rw [hm0] at h2
        simp at h2
    refine ⟨⟨h.ok.ep, ?_, ?_, fun t ht => ?_, fun t ht => ?_⟩, hu, h.br, ?_, fun i x hx => ?_, fun i j t hi hj ht => ?_, ?_⟩
    · show (putAt S.table k (n : Int)).length ≤ 512
      rw [putAt_length _ _ _ (by omega)]
      have := h.ok.tl
      omega
    · show (List.set S.m n 2).length = _
      rw [List.length_set, hpg]
      exact h.ok.ml
    · show t < D'.pages
      rw [hpg]
      rcases hmem t ht with rfl | h1
      · omega
      · exact h.ok.hi t h1
    · rcases hmem t ht with rfl | h1
      · omega
      · exact h.ok.lo t h1
    · show _ = (putAt S.table k (n : Int)).length
      rw [putAt_length _ _ _ hkl, putAt_length _ _ _ (by omega), hlen]
    · rw [putAt_get _ _ _ hkl] at hx
      show ∃ t, (putAt S.table k (n : Int))[i]? = some t ∧ _
      rw [hgetT]
      by_cases hik : i = k
      · rw [if_pos hik] at hx ⊢
        obtain rfl : some (pad p) = x := by simpa using hx
        refine ⟨n, rfl, n, rfl, ?_, ?_, pad_length _ hl, S.epoch + 1, hg⟩
        · show n < D'.pages
          rw [hpg]; exact hn
        · show (List.set S.m n 2)[n]? = some 2
          rw [List.getElem?_set, if_pos rfl, if_pos (List.getElem?_eq_some_iff.1 hm0).1]
      · rw [if_neg hik] at hx ⊢
        obtain ⟨t, ht, hs⟩ := h.cell i x hx
        refine ⟨t, ht, ?_⟩
        cases x with
        | none => exact hs
        | some b =>
          have hne := hnew i t ht
          obtain ⟨n', rfl, h1, h2, h3, ep, h4⟩ := hs
          have hnn : n' ≠ n := fun e => hne (by rw [e])
          refine ⟨n', rfl, ?_, ?_, h3, ep, ?_⟩
          · show n' < D'.pages
            rw [hpg]; exact h1
          · show (List.set S.m n 2)[n']? = some 2
            rw [List.getElem?_set, if_neg (by omega), h2]
          · show pageGet (D'.area n') = _
            rw [ho n' hnn, h4]
    · have hi' : (if i = k then some (n : Int) else S.table[i]?) = some t := by rw [← hgetT]; exact hi
      have hj' : (if j = k then some (n : Int) else S.table[j]?) = some t := by rw [← hgetT]; exact hj
      split at hi'
      · split at hj'
        · omega
        · obtain rfl : (n : Int) = t := by simpa using hi'
          exact absurd rfl (hnew _ _ hj')
      · split at hj'
        · obtain rfl : (n : Int) = t := by simpa using hj'
          exact absurd rfl (hnew _ _ hi')
        · exact h.inj i j t hi' hj' ht
    · have := countP_set (b := 2) hm0
      have hf := h.free
      have h2 : ((2 : Int) == 0) = false := rfl
      have h3 : ((0 : Int) == 0) = true := rfl
      rw [h2, h3] at this
      simp only [if_true] at this
      show List.countP (fun k => k == 0) (List.set S.m n 2) = f
      simp at this
      omega

theorem Store.View.new_big {S : Store} {A : List (Option Bytes)} {f : Nat} (h : S.View A f) (p : Bytes) (hl : 232 < p.length) : S.new p = (0, 4, S) := by
  unfold Store.new
  rw [h.br, if_neg (by simp), if_pos hl]
theorem Store.View.new_many {S : Store} {A : List (Option Bytes)} {f : Nat} (h : S.View A f) (p : Bytes) (hl : p.length ≤ 232) (hh : 512 ≤ A.findIdx Option.isNone) : S.new p = (0, 11, S) := by
  unfold Store.new
  rw [h.br, if_neg (by simp), if_neg (by omega), h.hole, if_pos hh]
theorem Store.View.new_full {S : Store} {A : List (Option Bytes)} (h : S.View A 0) (p : Bytes) (hl : p.length ≤ 232) : S.new p = (0, 11, S) := by
  unfold Store.new
  rw [h.br, if_neg (by simp), if_neg (by omega), h.fresh_full p]
  split
  · rfl
  · rfl

theorem Store.View.drop_ok {S : Store} {A : List (Option Bytes)} {f : Nat} (h : S.View A f) (i : Nat) {b : Bytes} (ha : A[i]? = some (some b)) :
    ∃ S', S.drop i = (0, S') ∧ S'.View (A.set i none) (f + 1) := by
  obtain ⟨n, h1, h2, h3, h4, h5, h6, ep, h7⟩ := h.tab ha
  have hml := h.ok.ml
  have hnl : n < S.m.length := by omega
  have hleave : FMap.leave S.m (n : Int) = (0, List.set S.m n 0) := by
    unfold FMap.leave
    rw [FMap.at_of hnl, if_neg (by simp), FMap.kind_of hnl, (List.getElem?_eq_some_iff.1 h5).2, if_pos rfl, Int.toNat_natCast]
  have hil : i < A.length := by rw [h.len]; exact h3
  refine ⟨{ S with m := List.set S.m n 0, table := S.table.set i (-1) }, ?_, ?_⟩
  · unfold Store.drop
    rw [h.at_yes ha, if_neg (by simp), h1, hleave, Int.toNat_natCast]
  · have hgetT : ∀ j, (S.table.set i (-1))[j]? = if j = i then some (-1) else S.table[j]? := fun j => by
      rw [List.getElem?_set]
      by_cases hj : i = j
      · rw [if_pos hj, if_pos h3, if_pos hj.symm]
      · rw [if_neg hj, if_neg (fun e => hj e.symm)]
    have hgetA : ∀ j, (A.set i none)[j]? = if j = i then some none else A[j]? := fun j => by
      rw [List.getElem?_set]
      by_cases hj : i = j
      · rw [if_pos hj, if_pos hil, if_pos hj.symm]
      · rw [if_neg hj, if_neg (fun e => hj e.symm)]
    have hmem : ∀ t ∈ S.table.set i (-1), t = -1 ∨ t ∈ S.table := fun t ht => by
      obtain ⟨j, hj⟩ := List.mem_iff_getElem?.1 ht
      rw [hgetT] at hj
      split at hj
      · left; simpa using hj.symm
      · right; exact List.mem_of_getElem? hj
    refine ⟨⟨h.ok.ep, ?_, ?_, fun t ht => ?_, fun t ht => ?_⟩, h.up, h.br, ?_, fun j x hx => ?_, fun j k t hj hk ht => ?_, ?_⟩
    · show (S.table.set i (-1)).length ≤ 512
      rw [List.length_set]; exact h.ok.tl
    · show (List.set S.m n 0).length = _
      rw [List.length_set]; exact hml
    · rcases hmem t ht with rfl | h8
      · show (-1 : Int) < (S.d.pages : Int)
        omega
      · exact h.ok.hi t h8
    · rcases hmem t ht with rfl | h8
      · omega
      · exact h.ok.lo t h8
    · show _ = (S.table.set i (-1)).length
      rw [List.length_set, List.length_set, h.len]
    · rw [hgetA] at hx
      show ∃ t, (S.table.set i (-1))[j]? = some t ∧ _
      rw [hgetT]
      by_cases hji : j = i
      · rw [if_pos hji] at hx ⊢
        obtain rfl : none = x := by simpa using hx
        exact ⟨-1, rfl, rfl⟩
      · rw [if_neg hji] at hx ⊢
        obtain ⟨t, ht, hs⟩ := h.cell j x hx
        refine ⟨t, ht, ?_⟩
        cases x with
        | none => exact hs
        | some c =>
          obtain ⟨n', rfl, g1, g2, g3⟩ := hs
          have hnn : n ≠ n' := fun e => by
            subst e
            exact hji (h.inj j i n ht h2 (by omega))
          refine ⟨n', rfl, g1, ?_, g3⟩
          show (List.set S.m n 0)[n']? = some 2
          rw [List.getElem?_set, if_neg hnn, g2]
    · have hj' : (if j = i then some (-1) else S.table[j]?) = some t := by rw [← hgetT]; exact hj
      have hk' : (if k = i then some (-1) else S.table[k]?) = some t := by rw [← hgetT]; exact hk
      split at hj'
      · have : -1 = t := by simpa using hj'
        omega
      · split at hk'
        · have : -1 = t := by simpa using hk'
          omega
        · exact h.inj j k t hj' hk' ht
    · have := countP_set (b := 0) h5
      have hf := h.free
      have e2 : ((2 : Int) == 0) = false := rfl
      have e3 : ((0 : Int) == 0) = true := rfl
      rw [e2, e3] at this
      show List.countP (fun k => k == 0) (List.set S.m n 0) = f + 1
      simp at this
      omega

theorem Store.View.drop_no {S : Store} {A : List (Option Bytes)} {f : Nat} (h : S.View A f) {l : Int} (ha : lookup A l = none) : S.drop l = (3, S) := by
  unfold Store.drop
  rw [h.at_no ha]
  rfl

end Go.Proofs.YtjbpdgknhbnfgaaGreat

namespace Go.Proofs.YtjbpdgknhbnfgaaGreat
open Go.RowKit
set_option maxRecDepth 100000

structure Frame where
  page : Int
  payload : Bytes
  held : Int
  dirty : Bool
  used : Bool
def Frame.empty : Frame := ⟨-1, [], 0, false, false⟩
def Frame.cells (f : Frame) : List Value := [intV f.page, strV f.payload, intV f.held, .bool f.dirty, .bool f.used]
def framesCells (L : List Frame) : List Value := L.flatMap Frame.cells
def idxWhere (L : List Frame) (pr : Frame → Bool) : Int := if L.findIdx pr < L.length then (L.findIdx pr : Int) else -1

theorem framesCells_length (L : List Frame) : (framesCells L).length = L.length * 5 := by
  induction L with
  | nil => rfl
  | cons f L ih =>
    simp only [framesCells, List.flatMap_cons, List.length_append, List.length_cons] at ih ⊢
    rw [ih]
    simp [Frame.cells]
    omega
theorem framesCells_at : ∀ (L : List Frame) (i : Nat) (h : i < L.length), ((framesCells L).drop (i * 5)).take 5 = (L[i]).cells
  | f :: L, 0, _ => by simp [framesCells, Frame.cells]
  | f :: L, i + 1, h => by
    have ih := framesCells_at L i (by simpa using h)
    have e : (i + 1) * 5 = i * 5 + 5 := by omega
    rw [e]
    simp only [List.getElem_cons_succ]
    rw [← ih]
    simp only [framesCells, List.flatMap_cons]
    rw [Nat.add_comm, ← List.drop_drop]
    congr 1

theorem Frame.cells_one (f : Frame) : ∀ v ∈ f.cells, v.oneCell' = true := by
  intro v hv
  simp [Frame.cells] at hv
  rcases hv with rfl | rfl | rfl | rfl | rfl <;> rfl
theorem framesCells_one (L : List Frame) : ∀ v ∈ framesCells L, v.oneCell' = true := by
  intro v hv
  simp [framesCells] at hv
  obtain ⟨f, _, hv⟩ := hv
  exact f.cells_one v hv

theorem frame_row {w : World} {v : Value} {L : List Frame} (h : Own w 150 5 v L.length (framesCells L)) (i : Nat) (hi : i < L.length) :
    ∃ g cap cur, v = .slice (some ⟨g, 0, none⟩) L.length cap ∧ ownBlk v = [g] ∧ Row w g cur ∧ i * 5 + 5 ≤ cur.length ∧ (cur.drop (i * 5)).take 5 = (L[i]).cells ∧ L.length ≤ cap ∧ cap ≤ maxLen ∧ cur.take (L.length * 5) = framesCells L := by
  obtain ⟨g, cap, cur, hv, hob, hB, hn, hcm, hcl, hct⟩ := h.pos (by omega)
  refine ⟨g, cap, cur, hv, hob, hB, by omega, ?_, hn, hcm, hct⟩
  rw [← framesCells_at L i hi, ← hct, List.drop_take, List.take_take, Nat.min_eq_left (by omega)]

theorem size_frame : (Tryz.prog.info? 150).map (·.size) = some 5 := by kernel_rfl
theorem load_frame {ρ : Operand → Value} {w : World} {x : Operand} {dst type pos after guard} (h : PtrRow w (ρ x) 5) :
    (execOp ρ { dst := dst, op := .load 150 x, type := type, pos := pos, after := after, guard := guard }).run Tryz.prog w = .ok (.value (.agg (rowOf w (ρ x) 5))) w :=
  exec_load_agg Tryz.underlying150 rfl size_frame h

theorem pool_empty (w : World) :
    Calls Tryz.prog 126 #[] w fun e w' => e = .returned (.agg #[intV (-1), strV [], intV 0, .bool false, .bool false]) ∧ Chg [] w w' := by
  go_enter Tryz.func126, Tryz.ntmps126
  go_wp2
  refine bodyPost_ret (v := .agg #[intV (-1), strV [], intV 0, .bool false, .bool false]) (by simp [results, Tryz.results126, go_sem]) rfl ⟨rfl, ?_⟩
  exact (Chg.refl _ _).alloc _

abbrev frameV (f : Frame) : Value := .agg #[intV f.page, strV f.payload, intV f.held, .bool f.dirty, .bool f.used]
theorem find1 (f : Frame) (l : Int) (g : Nat) (w : World) (hg : w.cell? ⟨g, 0, none⟩ = some (intV l)) :
    Calls Tryz.prog 174 #[frameV f, ptrV g] w fun e w' => e = .returned (.bool (f.page == l)) ∧ Chg [] w w' := by
  obtain ⟨pg, pl, hd, dt, us⟩ := f
  dsimp only [frameV]
  have ha := fun o => held_alloc hg o
  go_enter Tryz.func174, Tryz.ntmps174
  go_wp2
  go_ret
  exact ⟨rfl, (Chg.refl _ _).alloc _⟩

end Go.Proofs.YtjbpdgknhbnfgaaGreat
