/- A part of the walks of the program's functions, each a contract that its caller uses; no condition but what each theorem names. The walk of shadow's load. The walk of shadow.Open. The walk of chain.walk. -/
import Derived.Test.YtjbpdgknhbnfgaaGreatM15

namespace Go.Proofs.YtjbpdgknhbnfgaaGreat
open Go.RowKit
set_option maxRecDepth 100000

theorem pageRead_len {D : Disk} {id : Int} (h : (pageRead D id).2 = 0) : (pageRead D id).1.payload.length = 232 := by
  unfold pageRead at h ⊢
  split at h
  · simp at h
  rename_i h1
  rw [if_neg h1]
  split at h
  · simp at h
  rename_i h2
  rw [if_neg h2]
  dsimp only at h ⊢
  split at h
  · rename_i h3; exact absurd h h3
  rename_i h3
  rw [if_neg h3]
  split at h
  · simp at h
  rename_i h4
  rw [if_neg h4]
  have h5 : (pageGet (List.take 256 (List.drop (64 * (2 + 4 * id.toNat)) D.now))).2 = 0 := by simpa using h3
  generalize List.take 256 (List.drop (64 * (2 + 4 * id.toNat)) D.now) = s at *
  show (pageGet s).1.payload.length = 232
  unfold pageGet at h5 ⊢
  split at h5
  · simp at h5
  rename_i g1
  rw [if_neg g1]
  split at h5
  · simp at h5
  rename_i g2
  rw [if_neg g2]
  split at h5
  · simp at h5
  rename_i g3
  rw [if_neg g3]
  show (s.drop 24).length = 232
  have : s.length = 256 := by simpa using g1
  rw [List.length_drop]
  omega
theorem Store.check_len {S : Store} {id kd : Int} (h : (S.check id kd).2.1 = 0) : (S.check id kd).1.payload.length = 232 := by
  unfold Store.check at h ⊢
  split at h
  · simp at h
  rename_i h1
  rw [if_neg h1]
  split at h
  · rename_i h2
    unfold badErr at h
    dsimp only at h
    split at h <;> simp at h
  rename_i h2
  rw [if_neg h2]
  split at h
  · simp at h
  rename_i h3
  rw [if_neg h3]
  exact pageRead_len (by simpa using h2)
theorem Store.check_mlen (S : Store) (id kd : Int) : (S.check id kd).2.2.length = S.m.length := by
  unfold Store.check
  split
  · rfl
  split
  · exact FMap.use_len _ _
  split
  · exact FMap.use_len _ _
  · exact FMap.use_len _ _

theorem getPart_len (s : Bytes) (m : Nat) (hm : m ≤ 116) : (getPart s m).1.length ≤ 116 := by
  unfold getPart
  split
  · simp
  split
  · simp
  split
  · simp
  · simp; omega

/-- The store at b has become S', on the disk where it was. -/
def StoreOn (b : StoreB) (w w' : World) (S' : Store) : Prop := ∃ b', b'.s = b.s ∧ b'.d = b.d ∧ StoreAt w' b' S' ∧ Grew b.set b'.set w w'

structure LoadSt (w wr : World) (b b' : StoreB) (S S' : Store) (j : Nat) : Prop where
  s : b'.s = b.s
  d : b'.d = b.d
  pv : b'.pv = b.pv
  parts : S'.parts = S.parts
  disk : S'.d = S.d
  ml : S'.m.length = S'.d.pages
  tl : S'.table.length ≤ 116 * j
  at_ : StoreAt wr b' S'
  grew : Grew b.set b'.set w wr
theorem LoadSt.on {w wr : World} {b b' : StoreB} {S S' : Store} {j : Nat} (h : LoadSt w wr b b' S S' j) : StoreOn b w wr S' := ⟨b', h.s, h.d, h.at_, h.grew⟩
theorem Grew.then0 {F G : List Nat} {w w1 w2 : World} (h : Grew F G w w1) (hc : Chg [] w1 w2) : Grew F G w w2 :=
  ⟨h.chg.trans0 hc, fun k hk => Nat.lt_of_lt_of_le (h.lt k hk) hc.size, h.from_⟩
theorem LoadSt.on0 {w wr w2 : World} {b b' : StoreB} {S S' : Store} {j : Nat} (h : LoadSt w wr b b' S S' j) (hc : Chg [] wr w2) : LoadSt w w2 b b' S S' j :=
  ⟨h.s, h.d, h.pv, h.parts, h.disk, h.ml, h.tl, h.at_.kept hc (by simp), h.grew.then0 hc⟩
theorem LoadSt.onM {w wr w2 : World} {b b' : StoreB} {S S' : Store} {j : Nat} {M : FMap} (h : LoadSt w wr b b' S S' j) (hs : StoreAt w2 b' { S' with m := M }) (hl : M.length = S'.m.length) (hc : Chg b'.m.set wr w2) : LoadSt w w2 b b' S { S' with m := M } j :=
  ⟨h.s, h.d, h.pv, h.parts, h.disk, hl.trans h.ml, h.tl, hs, h.grew.trans (Grew.same (hc.mono (m_sub b')) h.at_.lt)⟩
theorem LoadSt.onT {w wr w2 : World} {b b' : StoreB} {S S' : Store} {j k : Nat} {tv : Value} {T : List Int} (h : LoadSt w wr b b' S S' j) (ht : Own w2 3 1 tv T.length (ints T)) (hc : Chg (ownBlk b'.tv) wr w2)
    (hg : ∀ k ∈ ownBlk tv, k ∈ ownBlk b'.tv ∨ wr.heap.size ≤ k) (hl : T.length ≤ 116 * k) : LoadSt w (w2.setCell ⟨b.s, 2, none⟩ tv) b { b' with tv := tv } S { S' with table := T } k := by
  obtain ⟨h1, h2⟩ := StoreTo.grown (F := []) h.at_ (Chg.refl [] wr) (by simp) h.at_ ht hc hg
  rw [← h.s]
  exact ⟨h.s, h.d, h.pv, h.parts, h.disk, h.ml, hl, h1, h.grew.trans h2⟩

set_option maxHeartbeats 2000000 in
theorem store_load {w : World} {b : StoreB} {S : Store} (h : StoreAt w b S) (hml : S.m.length = S.d.pages) (htl : S.table = []) (logical : Int) (hlg : 0 ≤ logical ∧ logical ≤ 512) (hpl : (S.parts.length : Int) = rootNeed logical) :
    Calls Tryz.prog 95 #[ptrV b.s, intV logical] w fun e w' => e = .returned (intV (S.loads logical S.parts 0).1) ∧ StoreOn b w w' (S.loads logical S.parts 0).2 := by
  have hp5 : S.parts.length ≤ 5 := by have := rootNeed_le hlg.1 hlg.2; omega
  obtain ⟨pa, pc, hpv, -, -⟩ := h.p.shape
  have k4 := h.st.cell 4
  simp [storeCells, hpv] at k4
  have HPV := Lib.hid hpv
  have L0 : Hid (LoadSt w w b b S S 0) := Lib.hid ⟨rfl, rfl, rfl, rfl, rfl, hml, by rw [htl]; simp, h, Grew.same (Chg.refl _ _) h.lt⟩
  have hlg0 := hlg.1
  have hlg1 := hlg.2
  have HPL := Lib.hid hpl
  obtain ⟨RES, hRES⟩ : ∃ RES, S.loads logical S.parts 0 = RES := ⟨_, rfl⟩
  rw [hRES]
  have HRES := Lib.hid hRES
  clear h hml htl hlg hpl hpv hRES
  go_enter Tryz.func95, Tryz.ntmps95
  go_wp2_with fail
  go_loopw [15] (fun i wr => ∃ (j : Nat) (b' : StoreB) (S' : Store), j ≤ S.parts.length ∧ i = .int .i64 j ∧ S'.loads logical (S.parts.drop j) j = RES ∧ LoadSt w wr b b' S S' j) (fun i _ => S.parts.length - (intOf i).toNat)
  case atStart => exact ⟨0, b, S, by omega, rfl, HRES.out, L0.out⟩
  case round =>
    obtain ⟨j, b', S', hj, rfl, hlo, hl⟩ := hrel
    have HLO := Lib.hid hlo
    have HL := Lib.hid hl
    clear hlo hl L0 HRES
    by_cases hlt : j < S.parts.length
    · have hpo : Own wr 3 1 b'.pv S.parts.length (ints S.parts) := by
        have := HL.out.at_.p
        rwa [HL.out.parts] at this
      rw [HL.out.pv, HPV.out] at hpo
      obtain ⟨g3, c3, cur3, hv3, -⟩ := hpo.pos (by omega)
      simp only [Value.slice.injEq] at hv3
      obtain ⟨rfl, -, rfl⟩ := hv3
      obtain ⟨c0, z0⟩ := hpo.cell rfl hlt
      rw [ints_get, List.getElem?_eq_getElem hlt] at c0
      simp only [Option.map_some] at c0
      have hbs := HL.out.s
      have hck : Calls Tryz.prog 96 #[ptrV b.s, intV S.parts[j], intV 1] wr fun e w' => e = .returned (.tuple #[pageV (S'.check S.parts[j] 1).1, intV (S'.check S.parts[j] 1).2.1]) ∧ StoreAt w' b' { S' with m := (S'.check S.parts[j] 1).2.2 } ∧ Chg b'.m.set wr w' := by
        have := store_check HL.out.at_ HL.out.ml S.parts[j] 1
        rwa [hbs] at this
      have hl2 := HLO.out
      rw [List.drop_eq_getElem_cons hlt, Store.loads] at hl2
      have hcl := fun (h0 : (S'.check S.parts[j] 1).2.1 = 0) => Store.check_len h0
      have hcm := Store.check_mlen S' S.parts[j] 1
      have hji : (j : Int) < (S.parts.length : Int) := by omega
      generalize S.parts[j] = px at *
      generalize hck2 : S'.check px 1 = ck at *
      obtain ⟨⟨qi, qe, qk, qp⟩, ce, cm⟩ := ck
      dsimp only [pageV] at hck hl2 hcl hcm
      have HCK := Lib.hid hck
      have HCM := Lib.hid hcm
      have HBS := Lib.hid hbs
      clear hck hcm z0 hpo HLO hck2 hbs
      by_cases hce : ce = 0
      · subst hce
        rw [if_neg (by simp)] at hl2
        have hq : qp.length = 232 := hcl rfl
        -- how many numbers this part has
        obtain ⟨m, hm, hm2⟩ : ∃ m : Nat, min 116 (logical - (j : Int) * 116) = m ∧ m ≤ 116 := by
          have h1 := HPL.out
          unfold rootNeed at h1
          refine ⟨(min 116 (logical - (j : Int) * 116)).toNat, ?_, ?_⟩
          · split at h1 <;> omega
          · omega
        have hgp := fun (wr : World) => root_getpart qp hq m hm2 wr
        rw [hm] at hl2
        have e1 : IntKind.i64.wrap ((j : Int) * 116) = (j : Int) * 116 := IntWalk.i64_in _ (by omega)
        have e2 : IntKind.i64.wrap (logical - (j : Int) * 116) = logical - (j : Int) * 116 := IntWalk.i64_in _ (by omega)
        clear hcl
        by_cases hmin : 116 ≤ logical - (j : Int) * 116
        · obtain rfl : m = 116 := by omega
          have HGP := Lib.hid hgp
          clear hgp hm
          replace HGP : Hid (∀ wr : World, Calls Tryz.prog 155 #[strV qp, intV 116] wr fun e w' => ∃ v, e = .returned (.tuple #[v, intV (getPart qp (116 : Nat)).2]) ∧ Own w' 3 1 v (getPart qp (116 : Nat)).1.length (ints (getPart qp (116 : Nat)).1) ∧ Chg [] wr w' ∧ ∀ k ∈ ownBlk v, wr.heap.size ≤ k) := HGP
          obtain ⟨m, hm⟩ : ∃ m : Nat, (116 : Nat) = m := ⟨_, rfl⟩
          rw [hm] at HGP hl2
          have hm2 : m ≤ 116 := by omega
          clear hm
          by_cases hge : (getPart qp m).2 = 0
          · rw [if_neg (by simp [hge])] at hl2
            have HL2 := Lib.hid hl2
            rw [hge] at HGP
            have hml2 : (getPart qp m).1.length ≤ 116 := getPart_len qp m hm2
            generalize (getPart qp m).1 = L at *
            have HML := Lib.hid hml2
            clear hl2 hge hml2 hm2
            go_wp2_with (first
              | (go_at_call 96; (with_reducible refine HCK.out.mono ?_); rintro e w2 ⟨rfl, hs2, hc2⟩; have L2 := Lib.hid (HL.out.onM hs2 HCM.out hc2); clear hs2 hc2)
              | (go_at_call 155; (with_reducible refine (HGP.out _).mono ?_); rintro e w3 ⟨v3, rfl, ho3, hc3, hn3⟩; have L3 := Lib.hid ((L2.out.on0 ((Chg.refl [] _).alloc _)).on0 hc3); have O3 := Lib.hid ho3; obtain ⟨va, vc, rfl, -, -⟩ := ho3.shape; obtain ⟨ta, tc, htv, htn, htc⟩ := L3.out.at_.t.shape; have HTV := Lib.hid htv; have j2 : w3.cell? ⟨b.s, 2, none⟩ = some (.slice ta S'.table.length tc) := (by have := L3.out.at_.st.cell 2; simp [storeCells] at this; rw [HBS.out] at this; rw [← htv]; exact this); have HT := Lib.hid (show Own w3 3 1 (.slice ta S'.table.length tc) S'.table.length (ints S'.table) from by rw [← htv]; exact L3.out.at_.t); have TL : S'.table.length ≤ 116 * j := L3.out.tl; have TL2 : L.length ≤ 116 := HML.out; clear ho3 hc3 hn3 htv)
              | (refine wpList_append rfl (.tmp 46) (.tmp 47) 52 52 rfl 3 1 8 (intV 0) Tryz.underlying52 info_int rfl (by omega) (.slice ta S'.table.length tc) S'.table.length L.length (ints S'.table) (ints L) rfl HT.out (by exact Src.ofOwn Tryz.underlying52 O3.out (ints_one L)) (by omega) (by unfold maxLen; omega) ?_; intro ad' c' w4 hown4 hc4 hge4 hcm4 hkc4; have j4 : w4.cell? ⟨b.s, 2, none⟩ = some (.slice ta S'.table.length tc) := (by have hns := (StoreB.apart L3.out.at_.nodup).s_t; rw [HTV.out, HBS.out] at hns; have hk := (L3.out.at_.st.kept hc4 (by rw [HBS.out]; exact hns)); have := hk.cell 2; simp [storeCells] at this; rw [HBS.out, HTV.out] at this; exact this); have y4 := (by have hns := (StoreB.apart L3.out.at_.nodup).s_t; rw [HTV.out, HBS.out] at hns; have hk := (L3.out.at_.st.kept hc4 (by rw [HBS.out]; exact hns)); have := hk.free 2; rw [HBS.out] at this; exact this)))
            go_roundw
            case rel =>
              have e : ints S'.table ++ ints L = ints (S'.table ++ L) := by simp [ints]
              refine ⟨j + 1, _, _, by omega, by go_num, HL2.out, L3.out.onT (T := S'.table ++ L) ?_ (by rw [HTV.out]; exact hc4) (by rw [HTV.out]; exact hge4) ?_⟩
              · rw [List.length_append, ← e]
                exact hown4
              · have := L3.out.tl
                have := HML.out
                show (S'.table ++ L).length ≤ _
                rw [List.length_append]
                have h9 : ({ S' with m := cm } : Store).table = S'.table := rfl
                omega
            case measure => simp [intOf]; omega
          · rw [if_pos hge] at hl2
            have z1 : ((getPart qp m).2 == 0) = false := by simpa using hge
            have z2 : ((getPart qp m).2 != 0) = true := by simpa using hge
            have HL2 := Lib.hid hl2
            generalize (getPart qp m).2 = ge at *
            generalize (getPart qp m).1 = L at *
            clear hl2 hge hm2
            go_wp2_with (first
              | (go_at_call 96; (with_reducible refine HCK.out.mono ?_); rintro e w2 ⟨rfl, hs2, hc2⟩; have L2 := Lib.hid (HL.out.onM hs2 HCM.out hc2); clear hs2 hc2)
              | (go_at_call 155; (with_reducible refine (HGP.out _).mono ?_); rintro e w3 ⟨v3, rfl, ho3, hc3, hn3⟩; have L3 := Lib.hid ((L2.out.on0 ((Chg.refl [] _).alloc _)).on0 hc3); clear ho3 hc3 hn3))
            go_ret
            rw [← HL2.out]
            exact ⟨rfl, L3.out.on⟩
        · have hmm : (m : Int) = logical - (j : Int) * 116 := by omega
          rw [hmm] at hgp
          have HGP := Lib.hid hgp
          rw [← hmm] at HGP
          replace HGP : Hid (∀ wr : World, Calls Tryz.prog 155 #[strV qp, intV (logical - (j : Int) * 116)] wr fun e w' => ∃ v, e = .returned (.tuple #[v, intV (getPart qp m).2]) ∧ Own w' 3 1 v (getPart qp m).1.length (ints (getPart qp m).1) ∧ Chg [] wr w' ∧ ∀ k ∈ ownBlk v, wr.heap.size ≤ k) := Lib.hid (by rw [← hmm]; exact HGP.out)
          clear hgp hm hmm
          by_cases hge : (getPart qp m).2 = 0
          · rw [if_neg (by simp [hge])] at hl2
            have HL2 := Lib.hid hl2
            rw [hge] at HGP
            have hml2 : (getPart qp m).1.length ≤ 116 := getPart_len qp m hm2
            generalize (getPart qp m).1 = L at *
            have HML := Lib.hid hml2
            clear hl2 hge hml2 hm2
            go_wp2_with (first
              | (go_at_call 96; (with_reducible refine HCK.out.mono ?_); rintro e w2 ⟨rfl, hs2, hc2⟩; have L2 := Lib.hid (HL.out.onM hs2 HCM.out hc2); clear hs2 hc2)
              | (go_at_call 155; (with_reducible refine (HGP.out _).mono ?_); rintro e w3 ⟨v3, rfl, ho3, hc3, hn3⟩; have L3 := Lib.hid ((L2.out.on0 ((Chg.refl [] _).alloc _)).on0 hc3); have O3 := Lib.hid ho3; obtain ⟨va, vc, rfl, -, -⟩ := ho3.shape; obtain ⟨ta, tc, htv, htn, htc⟩ := L3.out.at_.t.shape; have HTV := Lib.hid htv; have j2 : w3.cell? ⟨b.s, 2, none⟩ = some (.slice ta S'.table.length tc) := (by have := L3.out.at_.st.cell 2; simp [storeCells] at this; rw [HBS.out] at this; rw [← htv]; exact this); have HT := Lib.hid (show Own w3 3 1 (.slice ta S'.table.length tc) S'.table.length (ints S'.table) from by rw [← htv]; exact L3.out.at_.t); have TL : S'.table.length ≤ 116 * j := L3.out.tl; have TL2 : L.length ≤ 116 := HML.out; clear ho3 hc3 hn3 htv)
              | (refine wpList_append rfl (.tmp 46) (.tmp 47) 52 52 rfl 3 1 8 (intV 0) Tryz.underlying52 info_int rfl (by omega) (.slice ta S'.table.length tc) S'.table.length L.length (ints S'.table) (ints L) rfl HT.out (by exact Src.ofOwn Tryz.underlying52 O3.out (ints_one L)) (by omega) (by unfold maxLen; omega) ?_; intro ad' c' w4 hown4 hc4 hge4 hcm4 hkc4; have j4 : w4.cell? ⟨b.s, 2, none⟩ = some (.slice ta S'.table.length tc) := (by have hns := (StoreB.apart L3.out.at_.nodup).s_t; rw [HTV.out, HBS.out] at hns; have hk := (L3.out.at_.st.kept hc4 (by rw [HBS.out]; exact hns)); have := hk.cell 2; simp [storeCells] at this; rw [HBS.out, HTV.out] at this; exact this); have y4 := (by have hns := (StoreB.apart L3.out.at_.nodup).s_t; rw [HTV.out, HBS.out] at hns; have hk := (L3.out.at_.st.kept hc4 (by rw [HBS.out]; exact hns)); have := hk.free 2; rw [HBS.out] at this; exact this)))
            go_roundw
            case rel =>
              have e : ints S'.table ++ ints L = ints (S'.table ++ L) := by simp [ints]
              refine ⟨j + 1, _, _, by omega, by go_num, HL2.out, L3.out.onT (T := S'.table ++ L) ?_ (by rw [HTV.out]; exact hc4) (by rw [HTV.out]; exact hge4) ?_⟩
              · rw [List.length_append, ← e]
                exact hown4
              · have := L3.out.tl
                have := HML.out
                show (S'.table ++ L).length ≤ _
                rw [List.length_append]
                have h9 : ({ S' with m := cm } : Store).table = S'.table := rfl
                omega
            case measure => simp [intOf]; omega
          · rw [if_pos hge] at hl2
            have z1 : ((getPart qp m).2 == 0) = false := by simpa using hge
            have z2 : ((getPart qp m).2 != 0) = true := by simpa using hge
            have HL2 := Lib.hid hl2
            generalize (getPart qp m).2 = ge at *
            generalize (getPart qp m).1 = L at *
            clear hl2 hge hm2
            go_wp2_with (first
              | (go_at_call 96; (with_reducible refine HCK.out.mono ?_); rintro e w2 ⟨rfl, hs2, hc2⟩; have L2 := Lib.hid (HL.out.onM hs2 HCM.out hc2); clear hs2 hc2)
              | (go_at_call 155; (with_reducible refine (HGP.out _).mono ?_); rintro e w3 ⟨v3, rfl, ho3, hc3, hn3⟩; have L3 := Lib.hid ((L2.out.on0 ((Chg.refl [] _).alloc _)).on0 hc3); clear ho3 hc3 hn3))
            go_ret
            rw [← HL2.out]
            exact ⟨rfl, L3.out.on⟩
      · rw [if_pos hce] at hl2
        have z1 : (ce == 0) = false := by simpa using hce
        have z2 : (ce != 0) = true := by simpa using hce
        have HL2 := Lib.hid hl2
        clear hl2 hcl hce
        go_wp2_with (first
          | (go_at_call 96; (with_reducible refine HCK.out.mono ?_); rintro e w2 ⟨rfl, hs2, hc2⟩; have L2 := Lib.hid (HL.out.onM hs2 HCM.out hc2); clear hs2 hc2))
        go_ret
        rw [← HL2.out]
        exact ⟨rfl, (L2.out.on0 ((Chg.refl [] _).alloc _)).on⟩
    · obtain rfl : j = S.parts.length := by omega
      have hl2 := HLO.out
      rw [List.drop_length, Store.loads] at hl2
      have HL2 := Lib.hid hl2
      clear hl2 HLO hj hlt
      go_wp2_with fail
      go_ret
      rw [← HL2.out]
      exact ⟨rfl, HL.out.on⟩

end Go.Proofs.YtjbpdgknhbnfgaaGreat

namespace Go.Proofs.YtjbpdgknhbnfgaaGreat
open Go.RowKit
set_option maxRecDepth 100000

theorem StoreAt.setO {w : World} {b : StoreB} {S : Store} (h : StoreAt w b S) {ov : Value} {T : List Int} (ho : Own w 3 1 ov T.length (ints T)) (h1 : ∀ k ∈ ownBlk ov, k ∉ b.set) :
    StoreAt (w.setCell ⟨b.s, 3, none⟩ ov) { b with ov := ov } { S with old := T } := by
  have a := StoreB.apart h.nodup
  have hm : ∀ k, (k = b.s ∨ k ∈ b.d.set ∨ k ∈ b.m.set ∨ k ∈ ownBlk b.tv ∨ k ∈ ownBlk b.ov ∨ k ∈ ownBlk b.pv) → k ∈ b.set := fun k hk => by simpa [StoreB.set] using hk
  have hc : Chg [b.s] w (w.setCell ⟨b.s, 3, none⟩ ov) := (Chg.refl _ _).setCell _ _ (.inl (by simp))
  have hap : StoreB.Apart { b with ov := ov } :=
    { a with
      so := fun hk => h1 _ hk (hm _ (by simp)), d_o := fun k hk hk2 => h1 _ hk2 (hm _ (by simp [hk])), mo := fun k hk hk2 => h1 _ hk2 (hm _ (by simp [hk])),
      t_o := fun k hk hk2 => h1 _ hk2 (hm _ (by simp [show k ∈ ownBlk b.tv from hk])), o_p := fun k hk hk2 => h1 _ hk (hm _ (by simp [show k ∈ ownBlk b.pv from hk2])) }
  refine ⟨h.d.kept hc fun k hk hk2 => ?_, h.m.kept hc fun k hk hk2 => ?_, h.t.kept hc fun k hk hk2 => ?_, ho.kept hc fun k hk hk2 => ?_, h.p.kept hc fun k hk hk2 => ?_, h.st.set 3 ov, hap.nodup h.d.nodup (by simpa [MapB.set] using h.m.ne)⟩
  · simp at hk2; subst hk2; exact a.sd hk
  · simp at hk2; subst hk2; exact a.sm hk
  · simp at hk2; subst hk2; exact a.s_t hk
  · simp at hk2; subst hk2; exact h1 _ hk (hm _ (by simp))
  · simp at hk2; subst hk2; exact a.s_p hk

theorem rootGet_right {s : Bytes} {r : Root} (h : rootGet s = some r) : r.right = true := by
  unfold rootGet at h
  split at h
  · simp at h
  split at h
  · simp at h
  split at h
  · simp at h
  split at h
  · rename_i h4
    obtain rfl : rootOf s = r := by simpa using h
    cases hr : (rootOf s).right with
    | true => rfl
    | false =>
      rw [rootPut_no hr] at h4
      simp at h4
  · simp at h
theorem rootNewer_right {a b : Bytes} {x : Root × Int} (h : rootNewer a b = some x) : x.1.right = true ∧ (x.2 = 0 ∨ x.2 = 1) := by
  unfold rootNewer at h
  cases ha : rootGet a with
  | none =>
    cases hb : rootGet b with
    | none => rw [ha, hb] at h; simp at h
    | some y =>
      rw [ha, hb] at h
      obtain rfl : (y, (1 : Int)) = x := by simpa using h
      exact ⟨rootGet_right hb, .inr rfl⟩
  | some z =>
    cases hb : rootGet b with
    | none =>
      rw [ha, hb] at h
      obtain rfl : (z, (0 : Int)) = x := by simpa using h
      exact ⟨rootGet_right ha, .inl rfl⟩
    | some y =>
      rw [ha, hb] at h
      dsimp only at h
      split at h
      · obtain rfl : (y, (1 : Int)) = x := by simpa using h
        exact ⟨rootGet_right hb, .inr rfl⟩
      · obtain rfl : (z, (0 : Int)) = x := by simpa using h
        exact ⟨rootGet_right ha, .inl rfl⟩

/-- the store that Open makes, before it reads the table -/
theorem bare_store {w0 w : World} {b : DiskB} {D : Disk} {bm : MapB} {g : Nat} {r : Root} {sl : Int} {pv : Value} (hd : DiskAt w b D) (hm : MapAt w bm (List.replicate D.pages 0)) (hp : Own w 3 1 pv r.parts.length (ints r.parts))
    (hs : Blk w g 115 [ptrV b.d, ptrV bm.m, .slice none 0 0, .slice none 0 0, pv, intV r.epoch, intV sl, .bool false])
    (h1 : ∀ k ∈ b.set, k < w0.heap.size) (h2 : ∀ k ∈ ownBlk pv, w0.heap.size ≤ k ∧ k < g) (h3 : w0.heap.size ≤ g) (h4 : ∀ k ∈ bm.set, g < k) :
    StoreAt w ⟨g, b, bm, .slice none 0 0, .slice none 0 0, pv⟩ (Store.bare D r sl) := by
  refine ⟨hd, hm, Own.nil _ _ _, Own.nil _ _ _, hp, hs, ?_⟩
  refine StoreB.Apart.nodup ⟨fun hk => ?_, fun hk => ?_, by simp [ownBlk], by simp [ownBlk], fun hk => ?_, fun k hk hk2 => ?_, by simp [ownBlk], by simp [ownBlk], fun k hk hk2 => ?_, by simp [ownBlk], by simp [ownBlk], fun k hk hk2 => ?_, by simp [ownBlk], by simp [ownBlk], by simp [ownBlk]⟩
    hd.nodup (by simpa [MapB.set] using hm.ne)
  · have := h1 g hk; omega
  · have := h4 g hk; omega
  · have := h2 g hk; omega
  · have := h1 k hk; have := h4 k hk2; omega
  · have := h1 k hk; have := h2 k hk2; omega
  · have := h4 k hk; have := h2 k hk2; omega

/-- what Open answers -/
def OpenedAs (b : DiskB) (D : Disk) (w : World) (R : Int × Option Store) (e : Ending) (w' : World) : Prop :=
  DiskAt w' b D ∧ Chg b.set w w' ∧ match R with
    | (x, none) => e = .returned (.tuple #[.pointer none, intV x])
    | (_, some S) => ∃ sb : StoreB, e = .returned (.tuple #[ptrV sb.s, intV 0]) ∧ sb.d = b ∧ StoreAt w' sb S ∧ ∀ k ∈ sb.set, k ∈ b.set ∨ w.heap.size ≤ k
def Opened (b : DiskB) (D : Disk) (w : World) (e : Ending) (w' : World) : Prop := OpenedAs b D w (openStore D) e w'

theorem read_len {w : World} {b : DiskB} {D : Disk} (h : DiskAt w b D) {i : Int} (he : (D.read i).2 = 0) : (D.read i).1.length = 64 := by
  unfold Disk.read at he ⊢
  split at he
  · rename_i h1; exact absurd he h1
  · rename_i h1
    rw [if_neg h1]
    obtain ⟨-, h2, h3⟩ := Disk.at_zero (by simpa using h1 : D.at_ i = 0)
    exact sector_length h.ok.now (by omega)

structure NewSt2 (w wr : World) (b : DiskB) (D : Disk) (r : Root) (pv : Value) : Prop where
  d : DiskAt wr b D
  p : Own wr 3 1 pv r.parts.length (ints r.parts)
  new : ∀ k ∈ ownBlk pv, w.heap.size ≤ k
  chg : Chg [] w wr
theorem NewSt2.on {w wr w2 : World} {b : DiskB} {D : Disk} {r : Root} {pv : Value} (h : NewSt2 w wr b D r pv) (hc : Chg [] wr w2) : NewSt2 w w2 b D r pv :=
  ⟨h.d.kept hc (by simp), h.p.kept hc (by simp), h.new, h.chg.trans0 hc⟩

abbrev rootO (r : Root) (pv : Value) : Obj := .cells #[intV r.epoch, intV r.logical, pv] 125
abbrev bareO (b : DiskB) (r : Root) (sl : Int) (pv : Value) : Obj := .cells #[ptrV b.d, .pointer none, .slice none 0 0, .slice none 0 0, pv, intV r.epoch, intV sl, .bool false] 115
structure MadeSt (w wB : World) (b : DiskB) (D : Disk) (r : Root) (sl : Int) (g q : Nat) (bm : MapB) (pv : Value) : Prop where
  st : StoreAt wB ⟨g, b, bm, .slice none 0 0, .slice none 0 0, pv⟩ (Store.bare D r sl)
  chg : Chg [] w wB
  lg : wB.cell? ⟨q, 1, none⟩ = some (intV r.logical)
  from_ : ∀ k ∈ StoreB.set ⟨g, b, bm, .slice none 0 0, .slice none 0 0, pv⟩, k ∈ b.set ∨ w.heap.size ≤ k
  qn : q ∉ StoreB.set ⟨g, b, bm, .slice none 0 0, .slice none 0 0, pv⟩

theorem open_made {w w2 w3 : World} {b : DiskB} {D : Disk} {r : Root} {sl : Int} {bm : MapB} {pv : Value} (h : NewSt2 w w2 b D r pv) (hold : ∀ k ∈ b.set, k < w.heap.size) (hm : MapAt w3 bm (List.replicate D.pages 0))
    (hc : Chg [] ((w2.alloc (rootO r pv)).alloc (bareO b r sl pv)) w3) (hn : ∀ k ∈ bm.set, ((w2.alloc (rootO r pv)).alloc (bareO b r sl pv)).heap.size ≤ k) :
    MadeSt w (w3.setCell ⟨w2.heap.size + 1, 1, none⟩ (ptrV bm.m)) b D r sl (w2.heap.size + 1) w2.heap.size bm pv := by
  have hq : Blk ((w2.alloc (rootO r pv)).alloc (bareO b r sl pv)) w2.heap.size 125 [intV r.epoch, intV r.logical, pv] := (Blk.new w2 _ _).alloc _
  have hg : Blk ((w2.alloc (rootO r pv)).alloc (bareO b r sl pv)) (w2.heap.size + 1) 115 [ptrV b.d, .pointer none, .slice none 0 0, .slice none 0 0, pv, intV r.epoch, intV sl, .bool false] := by
    have := Blk.new (w2.alloc (rootO r pv)) 115 [ptrV b.d, .pointer none, .slice none 0 0, .slice none 0 0, pv, intV r.epoch, intV sl, .bool false]
    simpa using this
  have hsz := h.chg.size
  have hown := h.p.lt
  have hn' : ∀ k ∈ bm.set, w2.heap.size + 1 < k := fun k hk => by
    have := hn k hk
    simp at this
    omega
  have hc2 : Chg [w2.heap.size + 1] w3 (w3.setCell ⟨w2.heap.size + 1, 1, none⟩ (ptrV bm.m)) := (Chg.refl _ _).setCell _ _ (.inl (by simp))
  have hN : ∀ k, k < w2.heap.size + 1 → k ∉ [w2.heap.size + 1] := fun k hk hm => by simp at hm; omega
  have h2 := (h.on (((Chg.refl [] w2).alloc (rootO r pv)).alloc (bareO b r sl pv))).on hc
  refine ⟨bare_store (w0 := w) (h2.d.kept hc2 fun k hk => hN k (by have := hold k hk; omega)) (hm.kept hc2 fun k hk hm2 => by simp at hm2; have := hn' k hk; omega) (h2.p.kept hc2 fun k hk => hN k (by have := hown k hk; omega)) ((hg.kept hc (by simp)).set 1 _) hold (fun k hk => ⟨h.new k hk, by have := hown k hk; omega⟩) (by omega) hn', (h2.chg).setCell _ _ (.inr (by show w.heap.size ≤ w2.heap.size + 1; omega)), ?_, fun k hk => ?_, fun hk => ?_⟩
  · exact ((hq.kept hc (by simp)).other _ _ (by show w2.heap.size ≠ w2.heap.size + 1; omega)).cell 1
  · simp only [StoreB.set, List.mem_cons, List.mem_append] at hk
    rcases hk with rfl | hk | hk | hk | hk | hk
    · right; omega
    · exact .inl hk
    · right; have := hn' k hk; omega
    · simp [ownBlk] at hk
    · simp [ownBlk] at hk
    · exact .inr (h.new k hk)
  · simp only [StoreB.set, List.mem_cons, List.mem_append] at hk
    rcases hk with hk | hk | hk | hk | hk | hk
    · omega
    · have := hold _ hk; omega
    · have := hn' _ hk; omega
    · simp [ownBlk] at hk
    · simp [ownBlk] at hk
    · have := hown _ hk; omega

theorem Store.loads_keeps (lg : Int) : ∀ (ps : List Int) (i : Nat) (s : Store), (s.loads lg ps i).2.d = s.d ∧ (s.loads lg ps i).2.m.length = s.m.length ∧ (s.loads lg ps i).2.table.length ≤ s.table.length + 116 * ps.length ∧ (s.loads lg ps i).2.epoch = s.epoch ∧ (s.loads lg ps i).2.parts = s.parts ∧ (s.loads lg ps i).2.slot = s.slot ∧ (s.loads lg ps i).2.broken = s.broken
  | [], _, s => ⟨rfl, rfl, Nat.le_add_right _ _, rfl, rfl, rfl, rfl⟩
  | p :: ps, i, s => by
    unfold Store.loads
    split
    · exact ⟨rfl, Store.check_mlen _ _ _, by show s.table.length ≤ _; omega, rfl, rfl, rfl, rfl⟩
    split
    · exact ⟨rfl, Store.check_mlen _ _ _, by show s.table.length ≤ _; omega, rfl, rfl, rfl, rfl⟩
    have h := Store.loads_keeps lg ps (i + 1) { s with m := (s.check p 1).2.2, table := s.table ++ (getPart (s.check p 1).1.payload (min 116 (lg - (i : Int) * 116))).1 }
    refine ⟨h.1, h.2.1.trans (Store.check_mlen _ _ _), ?_, h.2.2.2.1, h.2.2.2.2.1, h.2.2.2.2.2.1, h.2.2.2.2.2.2⟩
    have h1 := h.2.2.1
    have h2 : (getPart (s.check p 1).1.payload (min 116 (lg - (i : Int) * 116))).1.length ≤ 116 := by
      unfold getPart
      split
      · simp
      split
      · simp
      split
      · simp
      · simp; omega
    simp only [List.length_append, List.length_cons] at h1 ⊢
    omega

structure CkSt (w wr : World) (b : DiskB) (b' : StoreB) (S1 : Store) (D : Disk) (M : FMap) : Prop where
  st : StoreAt wr b' { S1 with m := M }
  chg : Chg b.set w wr
  from_ : ∀ k ∈ b'.set, k ∈ b.set ∨ w.heap.size ≤ k
  ml : M.length = S1.d.pages
  bd : b'.d = b
  dd : S1.d = D
theorem CkSt.disk {w wr : World} {b : DiskB} {b' : StoreB} {S1 : Store} {D : Disk} {M : FMap} (h : CkSt w wr b b' S1 D M) : DiskAt wr b D := by
  have := h.st.d
  rw [h.bd] at this
  rw [← h.dd]
  exact this
theorem CkSt.on0 {w wr w2 : World} {b : DiskB} {b' : StoreB} {S1 : Store} {D : Disk} {M : FMap} (h : CkSt w wr b b' S1 D M) (hc : Chg [] wr w2) : CkSt w w2 b b' S1 D M :=
  ⟨h.st.kept hc (by simp), h.chg.trans0 hc, h.from_, h.ml, h.bd, h.dd⟩
theorem CkSt.onM {w wr w2 : World} {b : DiskB} {b' : StoreB} {S1 : Store} {D : Disk} {M M2 : FMap} (h : CkSt w wr b b' S1 D M) (hs : StoreAt w2 b' { S1 with m := M2 }) (hc : Chg b'.m.set wr w2) (hl : M2.length = M.length) : CkSt w w2 b b' S1 D M2 :=
  ⟨hs, h.chg.trans hc (fun k hk => h.from_ k (m_sub b' k hk)), h.from_, hl.trans h.ml, h.bd, h.dd⟩

theorem shadow_open_nil (w : World) : Calls Tryz.prog 30 #[.pointer none] w fun e w' => e = .returned (.tuple #[.pointer none, intV 1]) ∧ w = w' := by
  go_enter Tryz.func30, Tryz.ntmps30
  go_wp2_with fail
  go_ret2
  exact ⟨rfl, rfl⟩

set_option maxHeartbeats 2000000 in
theorem shadow_open {w : World} {b : DiskB} {D : Disk} (h : DiskAt w b D) : Calls Tryz.prog 30 #[ptrV b.d] w (Opened b D w) := by
  have hr0 : Calls Tryz.prog 85 #[ptrV b.d, intV 0] w fun e w' => e = .returned (.tuple #[strV (D.read 0).1, intV (D.read 0).2]) ∧ w = w' := disk_read h 0
  have hr1 : Calls Tryz.prog 85 #[ptrV b.d, intV 1] w fun e w' => e = .returned (.tuple #[strV (D.read 1).1, intV (D.read 1).2]) ∧ w = w' := disk_read h 1
  have HR0 := Lib.hid hr0
  have HR1 := Lib.hid hr1
  have HH := Lib.hid h
  clear hr0 hr1
  obtain ⟨RES, hRES⟩ : ∃ RES, openStore D = RES := ⟨_, rfl⟩
  unfold Opened
  rw [hRES]
  unfold openStore at hRES
  by_cases he0 : (D.read 0).2 ≠ 0
  · rw [if_pos he0] at hRES
    have z1 : ((D.read 0).2 == 0) = false := by simpa using he0
    have z2 : ((D.read 0).2 != 0) = true := by simpa using he0
    generalize (D.read 0).2 = e0 at *
    generalize (D.read 0).1 = a0 at *
    subst hRES
    clear he0 h
    go_enter Tryz.func30, Tryz.ntmps30
    go_wp2_with (first
      | (go_at_call 85; (with_reducible refine HR0.out.mono ?_); rintro e w' ⟨rfl, rfl⟩))
    go_ret2
    exact ⟨HH.out, Chg.refl _ _, rfl⟩
  · rw [if_neg he0] at hRES
    have he0' : (D.read 0).2 = 0 := by simpa using he0
    by_cases he1 : (D.read 1).2 ≠ 0
    · rw [if_pos he1] at hRES
      have z1 : ((D.read 1).2 == 0) = false := by simpa using he1
      have z2 : ((D.read 1).2 != 0) = true := by simpa using he1
      rw [he0'] at HR0
      generalize (D.read 1).2 = e1 at *
      generalize (D.read 1).1 = a1 at *
      generalize (D.read 0).1 = a0 at *
      subst hRES
      clear he0 he0' he1 h
      go_enter Tryz.func30, Tryz.ntmps30
      go_wp2_with (first
        | (go_at_call 85; (with_reducible refine HR0.out.mono ?_); rintro e w' ⟨rfl, rfl⟩)
        | (go_at_call 85; (with_reducible refine HR1.out.mono ?_); rintro e w' ⟨rfl, rfl⟩))
      go_ret2
      exact ⟨HH.out, Chg.refl _ _, rfl⟩
    · rw [if_neg he1] at hRES
      have he1' : (D.read 1).2 = 0 := by simpa using he1
      have hla : (D.read 0).1.length = 64 := read_len h he0'
      have hlb : (D.read 1).1.length = 64 := read_len h he1'
      have hnw := fun (wr : World) => root_newer hla hlb wr
      rw [he0'] at HR0
      rw [he1'] at HR1
      generalize (D.read 1).1 = a1 at *
      generalize (D.read 0).1 = a0 at *
      clear he0 he0' he1 he1' h hla hlb
      cases hN : rootNewer a0 a1 with
      | none =>
        rw [hN] at hnw hRES
        dsimp only at hRES
        subst hRES
        have HN := Lib.hid hnw
        clear hnw hN
        go_enter Tryz.func30, Tryz.ntmps30
        go_wp2_with (first
          | (go_at_call 85; (with_reducible refine HR0.out.mono ?_); rintro e w' ⟨rfl, rfl⟩)
          | (go_at_call 85; (with_reducible refine HR1.out.mono ?_); rintro e w' ⟨rfl, rfl⟩)
          | (go_at_call 92; (with_reducible refine (HN.out _).mono ?_); rintro e w2 ⟨hc2, rfl⟩; have C2 := Lib.hid hc2; clear hc2))
        go_ret2
        exact ⟨HH.out.kept (C2.out.alloc _) (by simp), (C2.out.alloc _).mono (by simp), rfl⟩
      | some x =>
        rw [hN] at hnw hRES
        dsimp only at hRES
        obtain ⟨hrr, hsl⟩ := rootNewer_right hN
        obtain ⟨r, sl⟩ := x
        dsimp only at hrr hsl hRES
        obtain ⟨-, -, hlg0, hlg1, hpl, hp5, -⟩ := Root.right_facts hrr
        have hpg := fun (wr : World) (hd : DiskAt wr b D) => shadow_pages hd
        have hle := (Disk.pages_le D).2
        have hmn := fun (wr : World) => map_new wr D.pages hle
        have hld := fun (wr : World) (sb : StoreB) (hs : StoreAt wr sb (Store.bare D r sl)) => store_load (S := Store.bare D r sl) hs (by simp [Store.bare]) rfl r.logical ⟨hlg0, hlg1⟩ hpl
        have HN := Lib.hid hnw
        have HPG := Lib.hid hpg
        have HMN := Lib.hid hmn
        have HRES := Lib.hid hRES
        clear hnw hpg hmn hRES hN hrr hsl
        obtain ⟨L, hL⟩ : ∃ L, (Store.bare D r sl).loads r.logical r.parts 0 = L := ⟨_, rfl⟩
        have HLD := Lib.hid (fun (wr : World) (sb : StoreB) (hs : StoreAt wr sb (Store.bare D r sl)) => by
          have := hld wr sb hs
          have e : (Store.bare D r sl).parts = r.parts := rfl
          rw [e, hL] at this
          exact this)
        have hkp := Store.loads_keeps r.logical r.parts 0 (Store.bare D r sl)
        rw [hL] at hkp
        have HKP := Lib.hid hkp
        have HOLD := Lib.hid HH.out.lt
        have HR2 : Hid (RES = if L.1 ≠ 0 then (L.1, none) else if (L.2.checks L.2.table).1 ≠ 0 then ((L.2.checks L.2.table).1, none) else (0, some { (L.2.checks L.2.table).2 with old := (L.2.checks L.2.table).2.table })) := Lib.hid (by
          rw [← HRES.out]
          unfold openRoot
          dsimp only
          rw [hL]
          by_cases h1 : L.1 ≠ 0
          · rw [if_pos h1, if_pos h1, if_pos h1]
          · rw [if_neg h1, if_neg h1]
            by_cases h2 : (L.2.checks L.2.table).1 ≠ 0
            · rw [if_pos h2, if_pos h2, if_pos h2]
            · rw [if_neg h2, if_neg h2]
              simp)
        clear hld hL hle hlg0 hlg1 hpl hkp HRES
        go_enter Tryz.func30, Tryz.ntmps30
        go_wp2_with (first
          | (go_at_call 85; (with_reducible refine HR0.out.mono ?_); rintro e w' ⟨rfl, rfl⟩)
          | (go_at_call 85; (with_reducible refine HR1.out.mono ?_); rintro e w' ⟨rfl, rfl⟩)
          | (go_at_call 92; (with_reducible refine (HN.out _).mono ?_); rintro e w2 ⟨hc2, pv, rfl, ho2, hn2⟩; obtain ⟨pa, pc, rfl, -, -⟩ := ho2.shape; have N2 := Lib.hid (show NewSt2 w w2 b D r (.slice pa r.parts.length pc) from ⟨HH.out.kept hc2 (by simp), ho2, hn2, hc2⟩); clear hc2 ho2 hn2))
        refine (HPG.out _ ((N2.out.d.kept ((Chg.refl [] w2).alloc _) (by simp)).kept ((Chg.refl [] _).alloc _) (by simp))).mono ?_
        rintro e w' ⟨rfl, rfl⟩
        go_wp2_with fail
        refine (HMN.out _).mono ?_
        rintro e w3 ⟨bm, rfl, hm3, hc3, hn3⟩
        have M3 := Lib.hid (open_made N2.out HOLD.out hm3 hc3 hn3)
        have q1 : w3.cell? ⟨w2.heap.size + 1, 1, none⟩ = some (.pointer none) := (by
          have := Blk.new (w2.alloc (rootO r (.slice pa r.parts.length pc))) 115 [ptrV b.d, .pointer none, .slice none 0 0, .slice none 0 0, .slice pa r.parts.length pc, intV r.epoch, intV sl, .bool false]
          have h2 := (this.kept hc3 (by simp)).cell 1
          simpa using h2)
        have q2 : w3.frozen? ⟨w2.heap.size + 1, 1, none⟩ = false := (by
          have := Blk.new (w2.alloc (rootO r (.slice pa r.parts.length pc))) 115 [ptrV b.d, .pointer none, .slice none 0 0, .slice none 0 0, .slice pa r.parts.length pc, intV r.epoch, intV sl, .bool false]
          have h2 := (this.kept hc3 (by simp)).free 1
          simpa using h2)
        have q3 := M3.out.lg
        clear hm3 hc3 hn3
        go_wp2_with fail
        refine (HLD.out _ _ M3.out.st).mono ?_
        rintro e w4 ⟨rfl, b4, hbs, hbd, hs4, hg4⟩
        have K4 : Hid (CkSt w w4 b b4 L.2 D L.2.m) := Lib.hid ⟨hs4, (M3.out.chg.mono (G := b.set) (by simp)).trans hg4.chg M3.out.from_, fun k hk => (hg4.from_ k hk).elim (fun h => M3.out.from_ k h) (fun h => .inr (Nat.le_trans M3.out.chg.size h)), by rw [HKP.out.2.1, HKP.out.1]; simp [Store.bare], hbd, HKP.out.1⟩
        have HBS := Lib.hid hbs
        clear hs4 hg4 hbd q1 q2 q3 M3 N2 HLD HMN HPG HR0 HR1 HN hbs
        generalize w2.heap.size + 1 = g at *
        by_cases hl0 : L.1 = 0
        · rw [hl0]
          have hr := HR2.out
          rw [if_neg (by simp [hl0])] at hr
          have HR3 := Lib.hid hr
          have j2 : w4.cell? ⟨g, 2, none⟩ = some b4.tv := by have := K4.out.st.st.cell 2; rw [HBS.out] at this; exact this
          obtain ⟨ta, tc, htv, htn, htc⟩ := K4.out.st.t.shape
          rw [htv] at j2
          have HTV := Lib.hid htv
          have htl : L.2.table.length ≤ 60000 := by
            have h1 := HKP.out.2.2.1
            have h2 : (Store.bare D r sl).table.length = 0 := rfl
            omega
          have HKP2 : Hid (∀ M, ({ L.2 with m := M } : Store).d = D) := Lib.hid (fun M => HKP.out.1)
          clear hr hl0 htv HR2 HKP HOLD
          obtain ⟨S1, hS1⟩ : ∃ S1, L.2 = S1 := ⟨_, rfl⟩
          rw [hS1] at K4 HR3 HTV j2 htn htl HKP2
          obtain ⟨RC, hRC⟩ : ∃ RC, S1.checks S1.table = RC := ⟨_, rfl⟩
          rw [hRC] at HR3
          have HRC := Lib.hid hRC
          clear hRC hS1
          go_wp2_with fail
          go_loopw [72] (fun i wr => ∃ (j : Nat) (M : FMap), j ≤ S1.table.length ∧ i = .int .i64 j ∧ Store.checks { S1 with m := M } (S1.table.drop j) = RC ∧ CkSt w wr b b4 S1 D M) (fun i _ => S1.table.length - (intOf i).toNat)
          case atStart => exact ⟨0, S1.m, by omega, rfl, HRC.out, K4.out⟩
          case round =>
            obtain ⟨j, M, hj, rfl, hck, hK⟩ := hrel
            have HCK := Lib.hid hck
            have HK := Lib.hid hK
            clear hck hK K4 HRC
            by_cases hlt : j < S1.table.length
            · have hto : Own wr 3 1 (.slice ta S1.table.length tc) S1.table.length (ints S1.table) := by
                have := HK.out.st.t
                rw [HTV.out] at this
                exact this
              obtain ⟨g3, c3, cur3, hv3, -⟩ := hto.pos (by omega)
              simp only [Value.slice.injEq] at hv3
              obtain ⟨rfl, -, rfl⟩ := hv3
              obtain ⟨c0, z0⟩ := hto.cell rfl hlt
              rw [ints_get, List.getElem?_eq_getElem hlt] at c0
              simp only [Option.map_some] at c0
              have hl2 := HCK.out
              rw [List.drop_eq_getElem_cons hlt, Store.checks] at hl2
              have hji : (j : Int) < (S1.table.length : Int) := by omega
              have hcc : Calls Tryz.prog 96 #[ptrV g, intV S1.table[j], intV 2] wr fun e w' => e = .returned (.tuple #[pageV (Store.check { S1 with m := M } S1.table[j] 2).1, intV (Store.check { S1 with m := M } S1.table[j] 2).2.1]) ∧ StoreAt w' b4 { S1 with m := (Store.check { S1 with m := M } S1.table[j] 2).2.2 } ∧ Chg b4.m.set wr w' := by
                have := store_check HK.out.st HK.out.ml S1.table[j] 2
                rwa [HBS.out] at this
              have hcm := Store.check_mlen { S1 with m := M } S1.table[j] 2
              generalize S1.table[j] = x at *
              obtain ⟨⟨⟨qi, qe, qk, qp⟩, ce, cm⟩, hck2⟩ : ∃ ck, Store.check { S1 with m := M } x 2 = ck := ⟨_, rfl⟩
              rw [hck2] at hcc hl2 hcm
              dsimp only [pageV] at hcc hl2 hcm
              have HCC := Lib.hid hcc
              have HCM := Lib.hid hcm
              clear hcc hcm hck2 z0 hto HCK
              by_cases hx : x < 0
              · rw [if_pos hx] at hl2
                have z1 : decide (x < 0) = true := by simpa using hx
                have HL2 := Lib.hid hl2
                clear hl2 hx HCC HCM
                go_wp2_with fail
                go_roundw
                case rel => exact ⟨j + 1, M, by omega, by go_num, HL2.out, HK.out⟩
                case measure => simp [intOf]; omega
              · rw [if_neg hx] at hl2
                have z1 : decide (x < 0) = false := by simpa using hx
                by_cases hce : ce = 0
                · subst hce
                  rw [if_neg (by simp)] at hl2
                  have HL2 := Lib.hid hl2
                  clear hl2 hx
                  go_wp2_with (first
                    | (go_at_call 96; (with_reducible refine HCC.out.mono ?_); rintro e w6 ⟨rfl, hs6, hc6⟩; have K6 := Lib.hid ((HK.out.onM hs6 hc6 HCM.out).on0 ((Chg.refl [] w6).alloc (.cells #[intV qi, intV qe, intV qk, strV qp] 55))); clear hs6 hc6))
                  go_roundw
                  case rel => exact ⟨j + 1, cm, by omega, by go_num, HL2.out, K6.out⟩
                  case measure => simp [intOf]; omega
                · rw [if_pos hce] at hl2
                  have z2 : (ce == 0) = false := by simpa using hce
                  have z3 : (ce != 0) = true := by simpa using hce
                  have hr := HR3.out
                  rw [← hl2, if_pos hce] at hr
                  have HR4 := Lib.hid hr
                  clear hl2 hx hce hr HR3
                  go_wp2_with (first
                    | (go_at_call 96; (with_reducible refine HCC.out.mono ?_); rintro e w6 ⟨rfl, hs6, hc6⟩; have K6 := Lib.hid ((HK.out.onM hs6 hc6 HCM.out).on0 ((Chg.refl [] w6).alloc (.cells #[intV qi, intV qe, intV qk, strV qp] 55))); clear hs6 hc6))
                  go_ret2
                  rw [HR4.out]
                  exact ⟨K6.out.disk, K6.out.chg, rfl⟩
            · obtain rfl : j = S1.table.length := by omega
              have hl2 := HCK.out
              rw [List.drop_length, Store.checks] at hl2
              have hr := HR3.out
              rw [← hl2, if_neg (by simp)] at hr
              have HR4 := Lib.hid hr
              have n2 : wr.cell? ⟨g, 2, none⟩ = some (.slice ta S1.table.length tc) := by have := HK.out.st.st.cell 2; rw [HBS.out] at this; simp [storeCells, HTV.out] at this; exact this
              have hcl := slices_clone (L := S1.table) HK.out.st.t htl
              have hbt : b4.tv = .slice ta S1.table.length tc := HTV.out
              rw [hbt] at hcl
              have HCL := Lib.hid hcl
              clear hl2 hr HR3 HCK hcl hj hlt hbt
              go_wp2_with (first
                | (go_at_call 80; (with_reducible refine HCL.out.mono ?_); rintro e w7 ⟨v7, rfl, ho7, hc7, hn7⟩; obtain ⟨na, nc, rfl, -, -⟩ := ho7.shape; have K7 := Lib.hid (HK.out.on0 hc7); have O7 := Lib.hid ho7; have N7 := Lib.hid hn7; have n3 : w7.cell? ⟨g, 3, none⟩ = some b4.ov := (by have := K7.out.st.st.cell 3; rw [HBS.out] at this; exact this); have y3 := K7.out.st.st.free 3; rw [HBS.out] at y3; clear ho7 hc7 hn7))
              go_ret2
              rw [HR4.out]
              have hlt7 := HK.out.st.lt
              have hfin := K7.out.st.setO O7.out (fun k hk hm => by have := N7.out k hk; have := hlt7 k hm; omega)
              rw [HBS.out] at hfin
              have hcf := K7.out.chg.setCell ⟨g, 3, none⟩ (.slice na S1.table.length nc) (by rcases K7.out.from_ b4.s (by simp [StoreB.set]) with h | h <;> rw [HBS.out] at h <;> simp [h])
              refine ⟨?_, hcf, ⟨g, b4.d, b4.m, b4.tv, .slice na S1.table.length nc, b4.pv⟩, rfl, K7.out.bd, hfin, fun k hk => ?_⟩
              · have := hfin.d
                rw [← K7.out.bd, ← K7.out.dd]
                exact this
              · simp only [StoreB.set, List.mem_cons, List.mem_append] at hk
                have hin : ∀ k, (k = b4.s ∨ k ∈ b4.d.set ∨ k ∈ b4.m.set ∨ k ∈ ownBlk b4.tv ∨ k ∈ ownBlk b4.ov ∨ k ∈ ownBlk b4.pv) → k ∈ b.set ∨ w.heap.size ≤ k := fun k hk => K7.out.from_ k (by simpa [StoreB.set] using hk)
                rcases hk with hk | hk | hk | hk | hk | hk
                · exact hin k (.inl (by rw [HBS.out]; exact hk))
                · exact hin k (by simp [hk])
                · exact hin k (by simp [hk])
                · exact hin k (by simp [hk])
                · have h1 := N7.out k hk
                  have h2 := HK.out.chg.size
                  right; omega
                · exact hin k (by simp [hk])
        · have z1 : (L.1 == 0) = false := by simpa using hl0
          have z2 : (L.1 != 0) = true := by simpa using hl0
          have hr := HR2.out
          rw [if_pos hl0] at hr
          have HR3 := Lib.hid hr
          clear hl0 HR2 hr
          generalize L.1 = le at *
          go_wp2_with fail
          go_ret2
          rw [HR3.out]
          exact ⟨K4.out.disk, K4.out.chg, rfl⟩

end Go.Proofs.YtjbpdgknhbnfgaaGreat

namespace Go.Proofs.YtjbpdgknhbnfgaaGreat
open Go.RowKit
set_option maxRecDepth 100000

/-! a slice of bytes that owns its row, as a string -/
def IsOwnB (w : World) (v : Value) : Prop := ∃ l : Bytes, Own w 5 1 v l.length (byts l)
theorem Own.bytesAt {w : World} {T : TypeId} {v : Value} {l : Bytes} (h : Own w T 1 v l.length (byts l)) : bytesAt w v = l := by
  rcases h.2 with ⟨a, rfl, hn⟩ | ⟨g, cap, cur, rfl, ⟨T, hB⟩, hn, -, -, -, h3⟩
  · have hl : l = [] := List.eq_nil_of_length_eq_zero hn
    subst hl
    cases a with
    | none => rfl
    | some a =>
      simp only [Proofs.YtjbpdgknhbnfgaaGreat.bytesAt]
      split <;> simp
  · exact bytesAt_blk (off := 0) hB (by simpa using h3)
theorem conv_own {ρ : Operand → Value} {w : World} {x : Operand} {dst type pos after guard} (h : IsOwnB w (ρ x)) :
    (execOp ρ { dst := dst, op := .convert 141 9 x, type := type, pos := pos, after := after, guard := guard }).run Tryz.prog w = .ok (.value (strV (bytesAt w (ρ x)))) w := by
  obtain ⟨l, h⟩ := h
  rw [h.bytesAt]
  rcases h.2 with ⟨ad, hv, hn⟩ | ⟨g, cap, cur, hv, ⟨T, hB⟩, hn, h0, h1, h2, h3⟩
  · have hl : l = [] := List.eq_nil_of_length_eq_zero hn
    subst hl
    have hr : (convert 141 9 (ρ x)).run Tryz.prog w = .ok (strV []) w := by
      rw [hv]
      cases ad with
      | none => rw [run_convert_bytes_nil (P := Tryz.prog) w 141 5 Tryz.underlying141 Tryz.underlying5 0 0 9 Tryz.underlying9]; rfl
      | some ad =>
        have := run_convert_bytes_string (P := Tryz.prog) w 141 9 5 (some ad) 0 0 Tryz.underlying141 Tryz.underlying5 Tryz.underlying9
        rw [this, run_bytesToString w ad 0 0 [] (by simp [loadCells, loadCellsFrom])]
        rfl
    simp only [execOp, Sem.run_bind, Sem.run_pure, Result.andThen_ok, hr]
  · simp only [execOp, hv, Sem.run_bind, Sem.run_pure, Result.andThen_ok, run_bytes_str (l := l) (off := 0) Tryz.underlying141 Tryz.underlying5 Tryz.underlying9 hB (by simpa using h3) rfl]
theorem isOwnB_drewN (w : World) (v : Value) (n : Nat) : IsOwnB (w.drewN n) v = IsOwnB w v := rfl
theorem bytesAt_drewN (w : World) (v : Value) (n : Nat) : bytesAt (w.drewN n) v = bytesAt w v := rfl
theorem isOwnB_drew (w : World) (v : Value) : IsOwnB w.drew v = IsOwnB w v := rfl
theorem bytesAt_drew (w : World) (v : Value) : bytesAt w.drew v = bytesAt w v := rfl
attribute [local go_sem ↓] conv_own
attribute [local go_sem] isOwnB_drewN bytesAt_drewN isOwnB_drew bytesAt_drew

structure WalkSt (w wr : World) (b : PoolB) (A : Pages) (f : Nat) (lv bv : Value) (ps : List Int) (bs : Bytes) : Prop where
  pool : PoolIs wr b A f
  l : Own wr 3 1 lv ps.length (ints ps)
  bb : Own wr 5 1 bv bs.length (byts bs)
  nl : ∀ k ∈ ownBlk lv, w.heap.size ≤ k
  nb : ∀ k ∈ ownBlk bv, w.heap.size ≤ k
  ap : ∀ k ∈ ownBlk lv, k ∉ ownBlk bv
  chg : Chg b.set w wr
  lt : ∀ k ∈ b.set, k < w.heap.size

theorem WalkSt.on {w wr w2 : World} {b : PoolB} {A : Pages} {f : Nat} {lv bv : Value} {ps : List Int} {bs : Bytes} (h : WalkSt w wr b A f lv bv ps bs) (hp : PoolIs w2 b A f) (hc : Chg b.set wr w2) : WalkSt w w2 b A f lv bv ps bs :=
  ⟨hp, h.l.kept hc fun k hk hm => by have := h.nl k hk; have := h.lt k hm; omega, h.bb.kept hc fun k hk hm => by have := h.nb k hk; have := h.lt k hm; omega, h.nl, h.nb, h.ap, h.chg.trans1 hc, h.lt⟩
theorem WalkSt.on0 {w wr w2 : World} {b : PoolB} {A : Pages} {f : Nat} {lv bv : Value} {ps : List Int} {bs : Bytes} (h : WalkSt w wr b A f lv bv ps bs) (hc : Chg [] wr w2) : WalkSt w w2 b A f lv bv ps bs :=
  h.on (h.pool.kept0 hc) (hc.mono (by simp))
theorem WalkSt.stepL {w wr w2 : World} {b : PoolB} {A : Pages} {f : Nat} {lv lv' bv : Value} {ps : List Int} {bs : Bytes} {p : Int} (h : WalkSt w wr b A f lv bv ps bs)
    (hown : Own w2 3 1 lv' (ps.length + 1) (ints ps ++ [intV p])) (hc : Chg (ownBlk lv) wr w2) (hg : ∀ k ∈ ownBlk lv', k ∈ ownBlk lv ∨ wr.heap.size ≤ k) : WalkSt w w2 b A f lv' bv (ps ++ [p]) bs := by
  have hs := h.chg.size
  have hb := h.bb.lt
  refine ⟨h.pool.kept hc fun k hk hm => by have := h.lt k hk; have := h.nl k hm; omega, ?_, h.bb.kept hc fun k hk hm => h.ap k hm hk, fun k hk => ?_, h.nb, fun k hk hm => ?_, ?_, h.lt⟩
  · rw [List.length_append, show ints (ps ++ [p]) = ints ps ++ [intV p] by simp [ints]]
    exact hown
  · rcases hg k hk with h1 | h1
    · exact h.nl k h1
    · omega
  · rcases hg k hk with h1 | h1
    · exact h.ap k h1 hm
    · have := hb k hm; omega
  · exact h.chg.trans hc fun g hg' => .inr (h.nl g hg')
theorem WalkSt.stepB {w wr w2 : World} {b : PoolB} {A : Pages} {f : Nat} {lv bv bv' : Value} {ps : List Int} {bs pc : Bytes} (h : WalkSt w wr b A f lv bv ps bs)
    (hown : Own w2 5 1 bv' (bs.length + pc.length) (byts bs ++ byts pc)) (hc : Chg (ownBlk bv) wr w2) (hg : ∀ k ∈ ownBlk bv', k ∈ ownBlk bv ∨ wr.heap.size ≤ k) : WalkSt w w2 b A f lv bv' ps (bs ++ pc) := by
  have hs := h.chg.size
  have hb := h.l.lt
  refine ⟨h.pool.kept hc fun k hk hm => by have := h.lt k hk; have := h.nb k hm; omega, h.l.kept hc fun k hk hm => h.ap k hk hm, ?_, h.nl, fun k hk => ?_, fun k hk hm => ?_, ?_, h.lt⟩
  · rw [List.length_append, show byts (bs ++ pc) = byts bs ++ byts pc by simp [byts]]
    exact hown
  · rcases hg k hk with h1 | h1
    · exact h.nb k h1
    · omega
  · rcases hg k hm with h1 | h1
    · exact h.ap k hk h1
    · have := hb k hk; omega
  · exact h.chg.trans hc fun g hg' => .inr (h.nb g hg')

theorem Chain.tail {A : Pages} : ∀ {dn rs : List Link}, Chain A (dn ++ rs) → Chain A rs
  | [], _, h => h
  | _ :: dn, _, h => Chain.tail (dn := dn) h.2.2.2

theorem chain_need5 (w : World) : Calls Tryz.prog 132 #[intV 1024] w fun e w' => e = .returned (intV 5) ∧ w = w' := by
  have := chain_need 1024 w (by omega)
  exact this

set_option maxHeartbeats 2000000 in
theorem chain_walk_ok {w : World} {b : PoolB} {A : Pages} {f : Nat} (h : PoolIs w b A f) (r : List Link) (hr : Chain A r) (hne : r ≠ []) (h5 : r.length ≤ 5) (hb : (cbytes r).length ≤ 1024) (first : Int) (hf : nxt r = first) :
    Calls Tryz.prog 138 #[ptrV b.p, intV first] w fun e w' => ∃ lv bv, e = .returned (.tuple #[lv, strV (cbytes r), intV 0]) ∧ WalkSt w w' b A f lv bv (cpages r) (cbytes r) := by
  have hst : WalkSt w w b A f (.slice none 0 0) (.slice none 0 0) (cpages []) (cbytes []) := ⟨h, Own.nil _ _ _, Own.nil _ _ _, by simp [ownBlk], by simp [ownBlk], by simp [ownBlk], Chg.refl _ _, h.lt⟩
  have HS := Lib.hid hst
  have HC := Lib.hid hr
  have HL := Lib.hid h5
  have HB := Lib.hid hb
  have HNE := Lib.hid hne
  have HFI := Lib.hid hf
  clear hst hr h5 hb hne h hf
  go_enter Tryz.func138, Tryz.ntmps138
  go_wp2_with (first
    | (go_at_call 132; with_reducible refine (chain_need5 _).mono ?_; rintro e w1 ⟨rfl, rfl⟩))
  go_loopw [7, 8, 9, 16] (fun lv bv at_ i wr => ∃ (dn rs : List Link) (x : Int), r = dn ++ rs ∧ rs ≠ [] ∧ nxt rs = x ∧ at_ = intV x ∧ i = .int .i64 (dn.length : Nat) ∧ WalkSt w wr b A f lv bv (cpages dn) (cbytes dn)) (fun _ _ _ i _ => 5 - (intOf i).toNat)
  case atStart => exact ⟨[], r, first, rfl, HNE.out, HFI.out, rfl, rfl, HS.out⟩
  case round =>
    obtain ⟨dn, rs, l', hrr, hrs, hll, rfl, rfl, hs⟩ := hrel
    cases rs with
    | nil => exact absurd rfl hrs
    | cons x rs =>
      obtain ⟨l, pc⟩ := x
      obtain rfl : l = l' := hll
      have hch : Chain A ((l, pc) :: rs) := Chain.tail (dn := dn) (by rw [← hrr]; exact HC.out)
      obtain ⟨c1, c2, c3, c4⟩ := hch
      have nb := c4.nxt_bd
      have hl1 : dn.length + (rs.length + 1) ≤ 5 := by have := HL.out; rw [hrr] at this; simpa using this
      have hl2 : (cbytes dn).length + pc.length ≤ 1024 := by
        have := HB.out
        rw [hrr] at this
        simp [cbytes] at this ⊢
        omega
      have hl0 : (dn.length : Int) < 5 := by omega
      have hread := chain_read_link hs.pool l (nxt rs) pc nb.1 (by omega) c2 c1
      have HR := Lib.hid hread
      have HW := Lib.hid hs
      have HRR := Lib.hid hrr
      have HCR := Lib.hid c4
      clear hread hs hrr c1 c4 hrs
      obtain ⟨nx, hnx⟩ : ∃ nx, nxt rs = nx := ⟨_, rfl⟩
      rw [hnx] at HR nb
      have HNX := Lib.hid hnx
      clear hnx
      obtain ⟨ps, hps⟩ : ∃ ps, cpages dn = ps := ⟨_, rfl⟩
      obtain ⟨bs, hbs⟩ : ∃ bs, cbytes dn = bs := ⟨_, rfl⟩
      have hpl : ps.length = dn.length := by rw [← hps]; simp [cpages]
      rw [hps, hbs] at HW
      rw [hbs] at hl2
      have HPS := Lib.hid hps
      have HBS := Lib.hid hbs
      have hpl2 : ps.length ≤ 5 := by omega
      have HPL := Lib.hid hpl
      clear hps hbs hpl
      obtain ⟨la, lc, rfl, hla, hlc⟩ := HW.out.l.shape
      obtain ⟨ba, bc, rfl, hba, hbc⟩ := HW.out.bb.shape
      by_cases hneg : nx < 0
      · go_wp2_with (first
          | (go_at_call 181; with_reducible refine HR.out.mono ?_; rintro e w1 ⟨rfl, h1, hc1⟩; have W1 := Lib.hid (HW.out.on h1 hc1); clear h1 hc1)
          | (refine wpList_append rfl (.tmp 36) (.tmp 38) 52 52 rfl 3 1 8 (intV 0) Tryz.underlying52 info_int rfl (by omega) (.slice la ps.length lc) ps.length 1 (ints ps) [intV l] rfl (by exact (W1.out.on0 (((Chg.refl [] _).alloc _).alloc _)).l) (by exact src_new' Tryz.underlying52 _ 3 [intV l] _ 1 1 (by simp) rfl (by simp [Value.oneCell'])) (by omega) (by unfold maxLen; omega) ?_; intro ad c w2 hown hc2 hg2 hcm hnc
             have W2 := Lib.hid ((W1.out.on0 (((Chg.refl [] _).alloc _).alloc _)).stepL hown hc2 hg2)
             have B2 := Lib.hid (Blk.kept ((Blk.new w1 197 [intV nx, strV pc]).alloc _) hc2 (fun hm => absurd (W1.out.l.lt _ hm) (Nat.lt_irrefl _)))
             have k1 := B2.out.cell 1; have k0 := B2.out.cell 0; simp at k0 k1; clear hown hc2 hg2)
          | (refine wpList_append rfl (.tmp 40) (.tmp 42) 141 9 rfl 5 1 1 (bytV 0) Tryz.underlying141 info_u8 rfl (by omega) (.slice ba bs.length bc) bs.length pc.length (byts bs) (byts pc) rfl W2.out.bb (src_str Tryz.underlying9 _ pc) (by omega) (by unfold maxLen; omega) ?_; intro ad2 c2 w3 hown hc2 hg2 hcm2 hnc2
             have W3 := Lib.hid (W2.out.stepB hown hc2 hg2)
             have B3 := Lib.hid (Blk.kept B2.out hc2 (fun hm => absurd (W1.out.bb.lt _ hm) (Nat.lt_irrefl _)))
             have k1 := B3.out.cell 1; have k0 := B3.out.cell 0; simp at k0 k1; clear hown hc2 hg2))
        have hob : IsOwnB w3 (.slice ad2 (bs.length + pc.length) c2) := ⟨bs ++ pc, by have := W3.out.bb; rw [List.length_append] at this ⊢; exact this⟩
        have hbv : bytesAt w3 (.slice ad2 (bs.length + pc.length) c2) = bs ++ pc := by have := W3.out.bb; rw [List.length_append] at this; exact (show Own w3 5 1 (.slice ad2 (bs.length + pc.length) c2) (bs ++ pc).length (byts (bs ++ pc)) by rw [List.length_append]; exact this).bytesAt
        have HOB := Lib.hid hbv
        clear hbv
        go_region
        go_wp2_with fail
        go_ret3
        have hrn : rs = [] := by
          cases rs with
          | nil => rfl
          | cons y ys =>
            have h1 := lookup_nonneg HCR.out.1
            have h2 : y.1 = nx := HNX.out
            omega
        have e1 : cpages r = ps ++ [l] := by rw [HRR.out, hrn, ← HPS.out]; simp [cpages]
        have e2 : cbytes r = bs ++ pc := by rw [HRR.out, hrn, ← HBS.out]; simp [cbytes]
        rw [e1, e2]
        exact ⟨.slice ad (ps.length + 1) c, .slice ad2 (bs.length + pc.length) c2, by rw [HOB.out]; rfl, W3.out.on0 ((Chg.refl _ _).drew)⟩
      · have hneg2 : 0 ≤ nx := by omega
        go_wp2_with (first
          | (go_at_call 181; with_reducible refine HR.out.mono ?_; rintro e w1 ⟨rfl, h1, hc1⟩; have W1 := Lib.hid (HW.out.on h1 hc1); clear h1 hc1)
          | (refine wpList_append rfl (.tmp 36) (.tmp 38) 52 52 rfl 3 1 8 (intV 0) Tryz.underlying52 info_int rfl (by omega) (.slice la ps.length lc) ps.length 1 (ints ps) [intV l] rfl (by exact (W1.out.on0 (((Chg.refl [] _).alloc _).alloc _)).l) (by exact src_new' Tryz.underlying52 _ 3 [intV l] _ 1 1 (by simp) rfl (by simp [Value.oneCell'])) (by omega) (by unfold maxLen; omega) ?_; intro ad c w2 hown hc2 hg2 hcm hnc
             have W2 := Lib.hid ((W1.out.on0 (((Chg.refl [] _).alloc _).alloc _)).stepL hown hc2 hg2)
             have B2 := Lib.hid (Blk.kept ((Blk.new w1 197 [intV nx, strV pc]).alloc _) hc2 (fun hm => absurd (W1.out.l.lt _ hm) (Nat.lt_irrefl _)))
             have k1 := B2.out.cell 1; have k0 := B2.out.cell 0; simp at k0 k1; clear hown hc2 hg2)
          | (refine wpList_append rfl (.tmp 40) (.tmp 42) 141 9 rfl 5 1 1 (bytV 0) Tryz.underlying141 info_u8 rfl (by omega) (.slice ba bs.length bc) bs.length pc.length (byts bs) (byts pc) rfl W2.out.bb (src_str Tryz.underlying9 _ pc) (by omega) (by unfold maxLen; omega) ?_; intro ad2 c2 w3 hown hc2 hg2 hcm2 hnc2
             have W3 := Lib.hid (W2.out.stepB hown hc2 hg2)
             have B3 := Lib.hid (Blk.kept B2.out hc2 (fun hm => absurd (W1.out.bb.lt _ hm) (Nat.lt_irrefl _)))
             have k1 := B3.out.cell 1; have k0 := B3.out.cell 0; simp at k0 k1; clear hown hc2 hg2))
        go_roundw
        case rel =>
          have hrn : rs ≠ [] := fun e => by
            have := HNX.out
            rw [e] at this
            have h2 : (-1 : Int) = nx := this
            omega
          refine ⟨dn ++ [(l, pc)], rs, nx, by rw [HRR.out]; simp, hrn, HNX.out, rfl, by rw [List.length_append]; go_num, ?_⟩
          have e1 : cpages (dn ++ [(l, pc)]) = ps ++ [l] := by rw [← HPS.out]; simp [cpages]
          have e2 : cbytes (dn ++ [(l, pc)]) = bs ++ pc := by rw [← HBS.out]; simp [cbytes]
          rw [e1, e2]
          exact W3.out
        case measure => simp [intOf]; omega

end Go.Proofs.YtjbpdgknhbnfgaaGreat
