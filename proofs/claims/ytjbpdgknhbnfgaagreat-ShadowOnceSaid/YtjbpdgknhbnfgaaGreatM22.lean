/- A part of the walks of the program's functions, each a contract that its caller uses; no condition but what each theorem names. slices.Sort at integers, at most twelve: by the insertion sort alone. The walk of shadow's Reach. The walk of law 14's bytes. What a store's reach is: every page that the committed root reaches, each once, in order. The walk of the law ShadowOnce. -/
import Derived.Test.YtjbpdgknhbnfgaaGreatM21
import Derived.Lib.Strings
import Derived.Lib.Slices
import Derived.Lib.Small
import Derived.Lib.Walk
import Derived.Lib.BitFns

namespace Go.Proofs.YtjbpdgknhbnfgaaGreat
open Go.RowKit
set_option maxRecDepth 100000

theorem ins_sort0 (a : Option Addr) (cap : Nat) (w : World) :
    Calls Tryz.prog 182 #[.slice a 0 cap, intV 0, intV 0] w fun e w' => e = .returned (.tuple #[]) ∧ w = w' := by
  go_enter Tryz.func182, Tryz.ntmps182
  go_wp2_with fail
  go_loop [6] (fun i => i = .int .i64 1) (fun _ => 0)
  case atStart => rfl
  case round =>
    obtain rfl := hrel
    go_wp2_with fail
    go_end0
    exact ⟨rfl, rfl⟩

/-- What a sort leaves. -/
structure SortTo (w w' : World) (v : Value) (L : List Int) : Prop where
  ex : ∃ L' : List Int, L'.length = L.length ∧ Own w' 3 1 v L'.length (ints L') ∧ Asc L' ∧ L'.Perm L
  chg : Chg (ownBlk v) w w'

theorem ins_sort_any {w : World} {v : Value} {L : List Int} (h : Own w 3 1 v L.length (ints L)) (hl : L.length ≤ 60000) :
    Calls Tryz.prog 182 #[v, intV 0, intV L.length] w fun e w' => e = .returned (.tuple #[]) ∧ SortTo w w' v L := by
  by_cases h0 : L = []
  · subst h0
    obtain ⟨a, c, rfl, -, -⟩ := h.shape
    refine (ins_sort0 a c w).mono fun e w' ⟨g1, g2⟩ => ⟨g1, ?_⟩
    subst g2
    exact ⟨⟨[], rfl, h, List.Pairwise.nil, List.Perm.refl _⟩, Chg.refl _ _⟩
  · have hpos : 0 < L.length := by
      cases L with
      | nil => exact absurd rfl h0
      | cons x L' => simp
    obtain ⟨g, cap, cur, rfl, hob, -, h1, h2, -⟩ := h.pos hpos
    refine (ins_sort (L := L) ⟨h, rfl⟩ hpos hl h1 h2).mono fun e w' ⟨g1, g2⟩ => ⟨g1, ?_⟩
    obtain ⟨A, C, k1, k2, k3, k4⟩ := g2.ex
    have hlen := k1.len
    have hC : C = [] := List.eq_nil_of_length_eq_zero (by simp at hlen; omega)
    subst hC
    rw [List.append_nil] at k1 k4
    refine ⟨⟨A, k2, ?_, k3, k4⟩, by rw [hob]; exact g2.chg⟩
    rw [k2]
    exact k1.own

set_option maxHeartbeats 1000000 in
theorem pdq_sort {w : World} {v : Value} {L : List Int} (h : Own w 3 1 v L.length (ints L)) (hl : L.length ≤ 12) (lim : Int) :
    Calls Tryz.prog 147 #[v, intV 0, intV L.length, intV lim] w fun e w' => e = .returned (.tuple #[]) ∧ SortTo w w' v L := by
  have HI := Lib.hid (ins_sort_any h (by omega))
  obtain ⟨n, hn⟩ : ∃ n, L.length = n := ⟨_, rfl⟩
  rw [hn] at HI ⊢
  have h12 : n ≤ 12 := by omega
  have h12I : (n : Int) ≤ 12 := by omega
  clear h hl hn
  go_enter Tryz.func147, Tryz.ntmps147
  go_wp2_with fail
  go_loopw [1, 2] (fun x y wr => x = intV 0 ∧ y = intV n ∧ w = wr) (fun _ _ _ => 0)
  case atStart => exact ⟨rfl, rfl, rfl⟩
  case round =>
    obtain ⟨rfl, rfl, rfl⟩ := hrel
    go_wp2_with (first | (go_at_call 182; (with_reducible refine HI.out.mono ?_); rintro e w' ⟨rfl, h2⟩; have H2 := Lib.hid h2; clear h2))
    exact bodyPost_ret (v := .tuple #[]) (results_none rfl _ _ _) rfl ⟨rfl, H2.out⟩

theorem bits_len64 (n : Nat) (hn : n ≤ 12) (w : World) : Calls Tryz.prog 192 #[.int .u64 n] w fun e w' => (∃ k, e = .returned (intV k)) ∧ w = w' := by
  have h0 : (0 : Int) ≤ n := by omega
  have h1 : (n : Int) ≤ 12 := by omega
  generalize (n : Int) = x at *
  have h2 : ¬ 4294967296 ≤ x := by omega
  have h3 : ¬ 65536 ≤ x := by omega
  have h4 : ¬ 256 ≤ x := by omega
  go_enter Tryz.func192, Tryz.ntmps192
  go_wp2
  go_ret
  exact ⟨⟨_, rfl⟩, rfl⟩
theorem bits_len (n : Nat) (hn : n ≤ 12) (w : World) : Calls Tryz.prog 148 #[.int .u64 n] w fun e w' => (∃ k, e = .returned (intV k)) ∧ w = w' := by
  go_enter Tryz.func148, Tryz.ntmps148
  go_wp2_with (go_at_call 192; refine (bits_len64 n hn _).mono ?_; rintro e w' ⟨⟨k, rfl⟩, rfl⟩)
  go_ret
  exact ⟨⟨_, rfl⟩, rfl⟩

theorem slices_sort {w : World} {v : Value} {L : List Int} (h : Own w 3 1 v L.length (ints L)) (hl : L.length ≤ 12) :
    Calls Tryz.prog 81 #[v] w fun e w' => e = .returned (.tuple #[]) ∧ SortTo w w' v L := by
  obtain ⟨a, c, rfl, h1, h2⟩ := h.shape
  have HP := Lib.hid (fun lim => pdq_sort h hl lim)
  have h12 : (L.length : Int) ≤ 12 := by omega
  have HB := Lib.hid (bits_len L.length hl)
  clear h hl
  generalize L.length = n at *
  go_enter Tryz.func81, Tryz.ntmps81
  go_wp2_with (first
    | (go_at_call 148; refine (HB.out _).mono ?_; rintro e w' ⟨⟨k, rfl⟩, rfl⟩)
    | (go_at_call 147; refine (HP.out _).mono ?_; rintro e w' ⟨rfl, h2⟩; have H2 := Lib.hid h2; clear h2))
  go_end0
  exact ⟨rfl, H2.out⟩

end Go.Proofs.YtjbpdgknhbnfgaaGreat

namespace Go.Proofs.YtjbpdgknhbnfgaaGreat
open Go.RowKit
set_option maxRecDepth 100000

def reachTo (S : Store) (k : Nat) : List Int := S.parts ++ keptIds (S.old.take k)
theorem reachTo_yes (S : Store) (k : Nat) (hk : k < S.old.length) (h : 0 ≤ S.old[k]) : reachTo S (k + 1) = reachTo S k ++ [S.old[k]] := by
  unfold reachTo keptIds
  rw [List.take_succ_eq_append_getElem hk, List.filter_append, List.append_assoc]
  simp [h]
theorem reachTo_no (S : Store) (k : Nat) (hk : k < S.old.length) (h : ¬ 0 ≤ S.old[k]) : reachTo S (k + 1) = reachTo S k := by
  unfold reachTo keptIds
  rw [List.take_succ_eq_append_getElem hk, List.filter_append]
  simp [h]
theorem reachTo_all (S : Store) : reachTo S S.old.length = S.parts ++ keptIds S.old := by
  unfold reachTo
  rw [List.take_length]
theorem reachTo_len (S : Store) (k : Nat) : (reachTo S k).length ≤ (S.parts ++ keptIds S.old).length := by
  unfold reachTo keptIds
  rw [List.length_append, List.length_append]
  have := ((List.take_sublist k S.old).filter (fun x => decide (0 ≤ x))).length_le
  omega

set_option maxHeartbeats 2000000 in
theorem store_reach {w : World} {b : StoreB} {S : Store} (h : StoreAt w b S) (hol : S.old.length ≤ 512) (hl : (S.parts ++ keptIds S.old).length ≤ 12) :
    Calls Tryz.prog 24 #[ptrV b.s] w fun e w' => ∃ v L', e = .returned v ∧ Own w' 3 1 v L'.length (ints L') ∧ Asc L' ∧ L'.Perm (S.parts ++ keptIds S.old) ∧ Chg [] w w' := by
  have hpl : S.parts.length ≤ 12 := by simp at hl; omega
  have HCL : Hid (∀ wr, Chg [] w wr → Calls Tryz.prog 80 #[b.pv] wr fun e w' => ∃ v', e = .returned v' ∧ Own w' 3 1 v' S.parts.length (ints S.parts) ∧ Chg [] wr w' ∧ ∀ k ∈ ownBlk v', wr.heap.size ≤ k) := Lib.hid fun wr hc => slices_clone (h.kept hc (by simp)).p (by omega)
  have HK : Hid (∀ wr, Chg [] w wr → wr.cell? ⟨b.s, 3, none⟩ = some b.ov ∧ wr.cell? ⟨b.s, 4, none⟩ = some b.pv) := Lib.hid fun wr hc => by
    have := (h.kept hc (by simp)).st
    exact ⟨this.cell 3, this.cell 4⟩
  have HO : Hid (∀ wr, Chg [] w wr → Own wr 3 1 b.ov S.old.length (ints S.old)) := Lib.hid fun wr hc => (h.kept hc (by simp)).o
  obtain ⟨oa, oc, hov, -, -⟩ := h.o.shape
  obtain ⟨pa, pc, hpv, -, -⟩ := h.p.shape
  rw [hpv] at HCL
  rw [hov] at HO
  rw [hov, hpv] at HK
  obtain ⟨k3, k4⟩ := HK.out w (Chg.refl _ _)
  have HALL := Lib.hid (reachTo_all S)
  have HLEN := Lib.hid (reachTo_len S)
  have HYES := Lib.hid (reachTo_yes S)
  have HNO := Lib.hid (reachTo_no S)
  have H0 : Hid (reachTo S 0 = S.parts) := Lib.hid (by unfold reachTo keptIds; simp)
  have HL := Lib.hid hl
  clear h hov hpv
  generalize reachTo S = RT at *
  generalize S.parts ++ keptIds S.old = RES at *
  generalize S.old = O at *
  generalize S.parts = PT at *
  go_enter Tryz.func24, Tryz.ntmps24
  go_wp2_with (go_at_call 80; (with_reducible refine (HCL.out _ (Chg.refl _ _)).mono ?_); rintro e w1 ⟨v1, rfl, o1, c1, n1⟩; have O1 := Lib.hid o1; have C1 := Lib.hid c1; have N1 := Lib.hid n1; obtain ⟨m3, m4⟩ := HK.out w1 c1; clear o1 c1 n1)
  go_loopw [3, 18] (fun v i wr => ∃ k : Nat, k ≤ O.length ∧ i = .int .i64 k ∧ Own wr 3 1 v (RT k).length (ints (RT k)) ∧ Chg [] w wr ∧ ∀ g ∈ ownBlk v, w.heap.size ≤ g) (fun _ i _ => O.length - (intOf i).toNat)
  case atStart => exact ⟨0, Nat.zero_le _, rfl, by rw [H0.out]; exact O1.out, C1.out, N1.out⟩
  case round =>
    obtain ⟨k, hk, rfl, hown, hc, hge⟩ := hrel
    obtain ⟨ad, c, rfl, hnc, hcm⟩ := hown.shape
    have hlen := HLEN.out k
    have hl12 := HL.out
    by_cases hlt : k < O.length
    · have hkI : (k : Int) < (O.length : Int) := by omega
      obtain ⟨g, cap, hv, -, -, z1⟩ := int_cell (HO.out wr hc) k hlt
      simp only [Value.slice.injEq] at hv
      obtain ⟨rfl, -, rfl⟩ := hv
      have HY := Lib.hid (HYES.out k hlt)
      have HN := Lib.hid (HNO.out k hlt)
      have HOW := Lib.hid hown
      have HC := Lib.hid hc
      have HG := Lib.hid hge
      clear hown hc hge
      generalize O[k] = kd at *
      by_cases hb : 0 ≤ kd
      · have hy := HY.out hb
        have HY2 := Lib.hid hy
        clear hy HY HN
        go_wp2_with (refine wpList_append rfl (.tmp 24) (.tmp 26) 52 52 rfl 3 1 8 (intV 0) Tryz.underlying52 info_int rfl (by omega) (.slice ad (RT k).length c) (RT k).length 1 _ _ rfl (HOW.out.alloc _) (src_one Tryz.underlying52 wr _ rfl 3) (by omega) (by unfold maxLen; omega) ?_; intro ad' c' w2 hown2 hc2 hge2 hcm2 hkc2)
        have hln : (RT (k + 1)).length = (RT k).length + 1 := by rw [HY2.out]; simp
        have hint : ints (RT (k + 1)) = ints (RT k) ++ [intV kd] := by rw [HY2.out]; simp [ints]
        have hown3 : Own w2 3 1 (.slice ad' ((RT k).length + 1) c') (RT (k + 1)).length (ints (RT (k + 1))) := by
          rw [hln, hint]
          exact hown2
        have HO3 := Lib.hid hown3
        clear hln hint hown2 hown3
        go_roundw
        case rel =>
          refine ⟨k + 1, by omega, by go_num, HO3.out, (HC.out.alloc _).trans hc2 (fun g hg => .inr (HG.out g hg)), ?_⟩
          intro g hg
          rcases hge2 g hg with h | h
          · exact HG.out g h
          · have := HC.out.size
            simp at h
            omega
        case measure => simp [intOf]; omega
      · have hy := HN.out (by omega)
        have HY2 := Lib.hid hy
        clear hy HY HN
        go_wp2
        go_roundw
        case rel => exact ⟨k + 1, by omega, by go_num, by rw [HY2.out]; exact HOW.out, HC.out, HG.out⟩
        case measure => simp [intOf]; omega
    · obtain rfl : k = O.length := by omega
      have hS : Calls Tryz.prog 81 #[.slice ad (RT O.length).length c] wr fun e w' => e = .returned (.tuple #[]) ∧ SortTo wr w' (.slice ad (RT O.length).length c) (RT O.length) := slices_sort hown (by omega)
      have HS := Lib.hid hS
      have HC := Lib.hid hc
      have HG := Lib.hid hge
      clear hS hown hc hge
      go_wp2_with (go_at_call 81; (with_reducible refine HS.out.mono ?_); rintro e w2 ⟨rfl, h2⟩; have H2 := Lib.hid h2; clear h2)
      go_ret
      obtain ⟨L', l1, l2, l3, l4⟩ := H2.out.ex
      rw [HALL.out] at l4
      refine ⟨_, L', rfl, ?_, l3, l4, HC.out.trans H2.out.chg fun g hg => .inr (HG.out g hg)⟩
      exact l2

end Go.Proofs.YtjbpdgknhbnfgaaGreat

namespace Go.Proofs.YtjbpdgknhbnfgaaGreat
open Go.RowKit
set_option maxRecDepth 100000

theorem area_sectors (D : Disk) (hu : D.Up) (n : Nat) (hn : n < D.many) : ∀ k, k ≤ 4 → ((D.now.drop (64 * (2 + 4 * n))).take (64 * k)) = ((List.range k).flatMap fun i => (D.read ((2 + 4 * n + i : Nat) : Int)).1)
  | 0, _ => by simp
  | k + 1, hk => by
    have ih := area_sectors D hu n hn k (by omega)
    have hl := hu.ok.now
    have hs := Disk.many_le D hn
    rw [List.range_succ, List.flatMap_append, ← ih]
    have hrd : (D.read ((2 + 4 * n + k : Nat) : Int)).1 = Disk.sector D.now (2 + 4 * n + k) := by
      unfold Disk.read
      rw [hu.at_ (by omega), if_neg (by simp)]
      show Disk.sector D.now ((2 + 4 * n + k : Nat) : Int).toNat = _
      rw [Int.toNat_natCast]
    simp only [List.flatMap_cons, List.flatMap_nil, List.append_nil]
    rw [hrd]
    unfold Disk.sector
    rw [show 64 * (k + 1) = 64 * k + 64 by omega, List.take_add, List.drop_drop]
    congr 3
    omega
theorem read_ok {D : Disk} (hu : D.Up) {i : Nat} (hi : i < D.loose.length) : (D.read i).2 = 0 := by
  unfold Disk.read
  rw [hu.at_ hi, if_neg (by simp)]

def bytesTo (D : Disk) (n k : Nat) : Bytes := (List.range k).flatMap fun i => (D.read ((2 + 4 * n + i : Nat) : Int)).1
theorem bytesTo_succ (D : Disk) (n k : Nat) : bytesTo D n (k + 1) = bytesTo D n k ++ (D.read ((2 + 4 * n + k : Nat) : Int)).1 := by
  unfold bytesTo
  rw [List.range_succ, List.flatMap_append]
  simp

theorem read_len64 (D : Disk) (i : Int) : (D.read i).1.length ≤ 64 := by
  unfold Disk.read
  split
  · simp
  · show (Disk.sector D.now i.toNat).length ≤ 64
    unfold Disk.sector
    rw [List.length_take]
    omega
theorem bytesTo_len (D : Disk) (n : Nat) : ∀ k, (bytesTo D n k).length ≤ 64 * k
  | 0 => by simp [bytesTo]
  | k + 1 => by
    have h1 := bytesTo_len D n k
    have h2 := read_len64 D ((2 + 4 * n + k : Nat) : Int)
    rw [bytesTo_succ, List.length_append]
    omega

set_option maxHeartbeats 1000000 in
theorem law14_bytes {w : World} {b : DiskB} {D : Disk} (h : DiskAt w b D) (hu : D.Up) (n : Nat) (hn : n < D.many) :
    Calls Tryz.prog 26 #[ptrV b.d, intV n] w fun e w' => e = .returned (strV (D.area n)) ∧ w = w' := by
  have hs := Disk.many_le D hn
  have hf := hu.ok.few
  have hA : D.area n = bytesTo D n 4 := area_sectors D hu n hn 4 (Nat.le_refl _)
  rw [hA]
  have HRD : Hid (∀ i : Int, Calls Tryz.prog 85 #[ptrV b.d, intV i] w fun e w' => e = .returned (.tuple #[strV (D.read i).1, intV (D.read i).2]) ∧ w = w') := Lib.hid fun i => disk_read h i
  have HB := Lib.hid (bytesTo_succ D n)
  have h0 : bytesTo D n 0 = [] := rfl
  have hn6 : (n : Int) ≤ 60000 := by omega
  clear h hA hs hf hn
  go_enter Tryz.func26, Tryz.ntmps26
  go_wp2_with fail
  go_loop [5, 6] (fun s i => ∃ k : Nat, k ≤ 4 ∧ i = .int .i64 k ∧ s = strV (bytesTo D n k)) (fun _ i => 4 - (intOf i).toNat)
  case atStart => exact ⟨0, Nat.zero_le _, rfl, rfl⟩
  case round =>
    obtain ⟨k, hk, rfl, rfl⟩ := hrel
    by_cases hlt : k < 4
    · have hkI : (k : Int) < 4 := by omega
      have hr := HRD.out ((2 + 4 * n + k : Nat) : Int)
      have hb := HB.out k
      have hbl := bytesTo_len D n k
      have htl := read_len64 D ((2 + 4 * n + k : Nat) : Int)
      generalize D.read ((2 + 4 * n + k : Nat) : Int) = R at *
      obtain ⟨t, x⟩ := R
      dsimp only at hr hb htl
      have hix : ((2 + 4 * n + k : Nat) : Int) = 2 + 4 * (n : Int) + (k : Int) := by omega
      rw [hix] at hr
      have HR := Lib.hid hr
      have HBK := Lib.hid hb
      clear hr hb hix
      generalize bytesTo D n k = bk at *
      have hbl2 : bk.length ≤ 256 := by omega
      have hml : bk.length + t.length ≤ maxLen := by unfold maxLen; omega
      go_wp2_with (go_at_call 85; (with_reducible refine HR.out.mono ?_); rintro e w' ⟨rfl, rfl⟩)
      go_round
      case rel => exact ⟨k + 1, by omega, by go_num, by rw [HBK.out, str_app]⟩
      case measure => simp [intOf]; omega
    · obtain rfl : k = 4 := by omega
      go_wp2_with fail
      go_ret
      exact ⟨rfl, rfl⟩

end Go.Proofs.YtjbpdgknhbnfgaaGreat

namespace Go.Proofs.YtjbpdgknhbnfgaaGreat
open Go.RowKit
set_option maxRecDepth 100000

theorem Store.Rel.old_iff {S : Store} {r : Ref} (h : S.Rel r) (i : Nat) : decide (0 ≤ tabF S.old i) = (Ref.oldF r.old i).isSome := by
  cases hx : Ref.oldF r.old i with
  | none => rw [h.core.old0 i hx]; rfl
  | some b =>
    obtain ⟨n, h1, -⟩ := h.core.old1 i b hx
    rw [h1]
    simp
theorem Store.Rel.reach_len {S : Store} {r : Ref} (h : S.Rel r) : ((S.parts ++ keptIds S.old).length : Int) = r.kept := by
  unfold Ref.kept
  rw [List.length_append, keptIds_len S.old (by rw [h.ol]; exact h.ol2), Ref.there_eq _ h.ol2, ← h.ol, ← h.pl, C_same h.old_iff]
  omega
theorem Store.Rel.reach_few {S : Store} {r : Ref} (h : S.Rel r) : (S.parts ++ keptIds S.old).length ≤ S.d.pages := by
  have h1 := h.reach_len
  rw [h.kept] at h1
  have h2 := sum4 S.m h.core.all
  have h3 := h.core.len
  omega
theorem Store.Rel.reach_nodup {S : Store} {r : Ref} (h : S.Rel r) : (S.parts ++ keptIds S.old).Nodup := by
  rw [List.nodup_append]
  refine ⟨h.core.nodup, nodup_of_inj _ fun i j x hi hj hx => ?_, fun a ha b hb e => ?_⟩
  · have e1 := tabF_of hi
    have e2 := tabF_of hj
    exact h.core.injQ i j (by rw [e1, e2]) (by rw [e1]; exact hx)
  · subst e
    unfold keptIds at hb
    obtain ⟨hb1, hb2⟩ := List.mem_filter.1 hb
    have h0 : 0 ≤ a := by simpa using hb2
    obtain ⟨i, -, -, e1, -⟩ := h.mem_old hb1 h0
    exact h.core.pQ i (by rw [e1]; exact h0) (by rw [e1]; exact ha)
theorem Store.Rel.reach_page {S : Store} {r : Ref} (h : S.Rel r) : ∀ p ∈ S.parts ++ keptIds S.old, ∃ (n : Nat) (e k : Int) (b : Bytes), p = n ∧ n < S.d.pages ∧ e ≤ S.epoch ∧ (k = 1 ∨ k = 2) ∧ pageGet (S.d.area n) = (⟨n, e, k, b⟩, 0) := by
  intro p hp
  rcases List.mem_append.1 hp with hp | hp
  · obtain ⟨n, h1, h2, -⟩ := h.core.part p hp
    obtain ⟨i, hi⟩ := List.mem_iff_getElem?.1 hp
    obtain ⟨n', e, b, g1, g2, g3, -⟩ := h.rt.part i p hi
    have : n = n' := by omega
    subst this
    exact ⟨n, e, 1, b, h1, h2, g2, .inl rfl, g3⟩
  · unfold keptIds at hp
    obtain ⟨hp1, hp2⟩ := List.mem_filter.1 hp
    obtain ⟨i, n, b, -, g2, g3, -, -, e, g4, g5⟩ := h.mem_old hp1 (by simpa using hp2)
    exact ⟨n, e, 2, b, g2, g3, g4, .inr rfl, g5⟩

theorem asc_strict {L : List Int} (h : Asc L) (hn : L.Nodup) (j : Nat) (hj : j + 1 < L.length) : L[j] < L[j + 1] := by
  have h1 : L[j] ≤ L[j + 1] := List.pairwise_iff_getElem.1 h j (j + 1) (by omega) hj (by omega)
  have h2 : L[j] ≠ L[j + 1] := fun e => by
    have := (List.getElem_inj hn).1 e
    omega
  omega

/-- the reach in order -/
structure Reached (S : Store) (r : Ref) (L : List Int) : Prop where
  len : (L.length : Int) = r.kept
  few : L.length ≤ S.d.pages
  page : ∀ k (hk : k < L.length), ∃ (n : Nat) (e kd : Int) (b : Bytes), L[k] = n ∧ n < S.d.pages ∧ e ≤ S.epoch ∧ (kd = 1 ∨ kd = 2) ∧ pageGet (S.d.area n) = (⟨n, e, kd, b⟩, 0)
  up : ∀ j (hj : j + 1 < L.length), L[j] < L[j + 1]
theorem Store.Rel.reached {S : Store} {r : Ref} (h : S.Rel r) {L : List Int} (ha : Asc L) (hp : L.Perm (S.parts ++ keptIds S.old)) : Reached S r L := by
  have hl := hp.length_eq
  refine ⟨by rw [hl]; exact h.reach_len, by rw [hl]; exact h.reach_few, fun k hk => h.reach_page _ (hp.mem_iff.1 (List.getElem_mem hk)), fun j hj => asc_strict ha (hp.nodup_iff.2 h.reach_nodup) j hj⟩

end Go.Proofs.YtjbpdgknhbnfgaaGreat

namespace Go.Proofs.YtjbpdgknhbnfgaaGreat
open Go.RowKit
set_option maxRecDepth 100000

attribute [local go_sem ↓] load_act

structure OnceSt (w : World) (b : StoreB) (rb : RefB) (s : Value) (wx : World) (k : Nat) : Prop where
  ex : ∃ (b' : StoreB) (rb' : RefB) (r : Ref), s = ptrV b'.s ∧ b'.d = b.d ∧ rb'.p = rb.p ∧ r.epoch ≤ 1 + k ∧ r.many = 12 ∧ Two w wx b' rb' r r

theorem Ref.act_many (r : Ref) (a : Act14) : (r.act a).many = r.many := by
  unfold Ref.act
  split
  · unfold Ref.new
    split
    · rfl
    · split <;> rfl
  · split
    · unfold Ref.drop
      split <;> rfl
    · split
      · unfold Ref.commit
        split <;> rfl
      · split
        · rfl
        · split
          · rfl
          · unfold Ref.write
            split
            · rfl
            · split
              · rfl
              · split <;> rfl

set_option maxHeartbeats 4000000 in
theorem law_once (v : Value) (L : List Act14) (w : World) (hv : ActsAt w v L) :
    Calls Tryz.prog 5 #[v] w (YesOk w) := by
  have hb1 : Calls Tryz.prog 13 #[intV 12] w (Begun14 w 12) := law14_begun 12 w (by omega) (by omega)
  have HB := Lib.hid hb1
  have HV : Hid (∀ w', Chg [] w w' → ActsAt w' v L) := Lib.hid fun w' hc => hv.kept hc
  obtain ⟨va, vc, rfl, hl1, hl2⟩ := hv.len
  clear hb1 hv
  go_enter Tryz.func5, Tryz.ntmps5
  go_wp2_with (first
    | (go_at_call 13; (with_reducible refine HB.out.mono ?_); rintro e w2 ⟨b, rb, rfl, h2⟩; have HP := Lib.hid h2; clear h2)
    | (go_at_call 14; (with_reducible refine (law14_awake _).mono ?_); rintro e w3 ⟨rfl, hc⟩; have HP := Lib.hid (HP.out.on0 hc); clear hc))
  have HDO : Hid (∀ (wr : World) (b' : StoreB) (rb' : RefB) (r : Ref) (a : Act14), b'.d = b.d → rb'.p = rb.p → Two w wr b' rb' r r → a.s.length < 500 → r.epoch ≤ 41 → Calls Tryz.prog 16 #[ptrV b.d.d, ptrV b'.s, ptrV rb.p, a.v] wr fun e w' => ∃ b2 rb2, e = .returned (.tuple #[ptrV b2.s, .bool true]) ∧ b2.d = b.d ∧ rb2.p = rb.p ∧ Two w w' b2 rb2 (r.act a) (r.act a)) := Lib.hid fun wr b' rb' r a e1 e2 h h1 h2 => by
    rw [← e1, ← e2]
    exact law14_do h a (by omega) (by omega)
  go_loopw [4, 6] (fun s i wr => ∃ k : Nat, k ≤ L.length ∧ k ≤ 40 ∧ i = .int .i64 k ∧ OnceSt w b rb s wr k) (fun _ i _ => L.length - (intOf i).toNat)
  case atStart => exact ⟨0, Nat.zero_le _, by omega, rfl, ⟨b, rb, _, rfl, rfl, rfl, by show (1 : Int) ≤ 1 + ((0 : Nat) : Int); omega, rfl, HP.out⟩⟩
  case round =>
    obtain ⟨k, hk, hk4, rfl, ⟨b', rb', r, rfl, hbd, hrp, hre, hmn, htw⟩⟩ := hrel
    have HT := Lib.hid htw
    have HBD := Lib.hid hbd
    have HRP := Lib.hid hrp
    clear htw hbd hrp
    by_cases hlt : k < L.length
    · have hkI : (k : Int) < (L.length : Int) := by omega
      by_cases h40 : k < 40
      · have h4I : (k : Int) < 40 := by omega
        obtain ⟨a, cap, hvv, -, -, -, -⟩ := (HV.out w (Chg.refl _ _)).row k hlt
        simp only [Value.slice.injEq] at hvv
        obtain ⟨rfl, -, rfl⟩ := hvv
        have HR : Hid (∀ w', Chg [] w w' → ActRow w' (.pointer (some (a.add (k * 3)))) ∧ actAt w' (.pointer (some (a.add (k * 3)))) = L[k].v) := Lib.hid fun w' hc => by
          obtain ⟨a', cap', hv', -, -, g1, g2⟩ := (HV.out w' hc).row k hlt
          simp only [Value.slice.injEq, Option.some.injEq] at hv'
          obtain ⟨rfl, -, rfl⟩ := hv'
          exact ⟨g1, g2⟩
        have hae := Ref.act_epoch r L[k]
        have ham := Ref.act_many r L[k]
        generalize L[k] = act at *
        obtain ⟨R', hR'⟩ : ∃ R', r.act act = R' := ⟨_, rfl⟩
        have HDO1 : Hid (∀ wr, Two w wr b' rb' r r → act.s.length < 500 → Calls Tryz.prog 16 #[ptrV b.d.d, ptrV b'.s, ptrV rb.p, act.v] wr fun e w' => ∃ b2 rb2, e = .returned (.tuple #[ptrV b2.s, .bool true]) ∧ b2.d = b.d ∧ rb2.p = rb.p ∧ Two w w' b2 rb2 R' R') := Lib.hid fun wr h h1 => by
          rw [← hR']
          exact HDO.out wr b' rb' r act HBD.out HRP.out h h1 (by omega)
        have HAE : Hid (R'.epoch ≤ 1 + ((k + 1 : Nat) : Int) ∧ R'.many = 12) := Lib.hid (by rw [← hR']; exact ⟨by omega, by rw [ham]; exact hmn⟩)
        have HAE0 : Hid (r.epoch ≤ 1 + ((k + 1 : Nat) : Int) ∧ r.many = 12) := Lib.hid ⟨by omega, hmn⟩
        obtain ⟨r1, r2⟩ := HR.out wr HT.out.chg
        clear hae hR' hre ham hmn
        go_upto_if 40 with (go_at_call 15; (with_reducible refine (law14_short act _).mono ?_); rintro e w4 ⟨rfl, hc⟩; have HT4 := Lib.hid (HT.out.on0 hc); obtain ⟨r3, r4⟩ := HR.out _ HT4.out.chg; clear hc)
        go_cut [4] (fun s wx => OnceSt w b rb s wx (k + 1))
        case first =>
          by_cases hs : act.s.length < 500
          · have z1 : decide (act.s.length < 500) = true := by simpa using hs
            have HS := Lib.hid hs
            clear hs
            have HX := Lib.hid (HDO1.out _ HT4.out HS.out)
            go_wp2_with (go_at_call 16; (with_reducible refine HX.out.mono ?_); rintro e w5 ⟨b2, rb2, rfl, e2, e3, h5⟩; have HT5 := Lib.hid h5; have E2 := Lib.hid e2; have E3 := Lib.hid e3; clear h5 e2 e3)
            go_meet
            case rel => exact ⟨b2, rb2, R', rfl, E2.out, E3.out, HAE.out.1, HAE.out.2, HT5.out⟩
          · have z1 : decide (act.s.length < 500) = false := by simpa using hs
            go_wp2_with fail
            go_meet
            case rel => exact ⟨b', rb', r, rfl, HBD.out, HRP.out, HAE0.out.1, HAE0.out.2, HT4.out⟩
        case rest =>
          obtain ⟨b1, rb1, q, rfl, hbd, hrp, hqe, hqm, htw⟩ := hcut
          obtain ⟨S, hS, hRel⟩ := htw.s.ex
          obtain ⟨u, hu1, hu2, hu3⟩ := hRel.count
          have hpg : S.d.pages = 12 := by have := hRel.many; omega
          have hpm := (Disk.pages_le S.d).1
          have hse := hRel.ep
          have hep1 := hRel.ep1
          have hfr : (0 : Int) ≤ q.free := by rw [← hRel.free]; omega
          have hsum : q.free + (u : Int) + (q.freshN : Int) + (q.leaving : Int) = 12 := by
            have : q.free = q.many - q.kept - q.freshN := rfl
            omega
          have HST : Hid (∀ w', Chg [] wc w' → StoreAt w' b1 S) := Lib.hid fun w' hc => hS.kept hc (by simp)
          have HCT : Hid (∀ w', Chg [] wc w' → Calls Tryz.prog 23 #[ptrV b1.s] w' fun e w'' => e = .returned (.tuple #[intV q.free, intV u, intV q.freshN, intV q.leaving]) ∧ Chg [] w' w'') := Lib.hid fun w' hc => by rw [← hu1]; exact store_count (HST.out w' hc)
          have HRE : Hid (∀ w', Chg [] wc w' → Calls Tryz.prog 24 #[ptrV b1.s] w' fun e w'' => ∃ (a : Option Addr) (c : Nat) (L' : List Int), e = .returned (.slice a L'.length c) ∧ Own w'' 3 1 (.slice a L'.length c) L'.length (ints L') ∧ Reached S q L' ∧ Chg [] w' w'') := Lib.hid fun w' hc =>
            (store_reach (HST.out w' hc) (by rw [hRel.ol]; exact hRel.ol2) (by have := hRel.reach_few; omega)).mono fun e w'' ⟨v, L', g1, g2, g3, g4, g5⟩ => (by
              obtain ⟨a, c, rfl, -, -⟩ := g2.shape
              exact ⟨a, c, L', g1, g2, hRel.reached g3 g4, g5⟩)
          have HBY : Hid (∀ w' (n : Nat), Chg [] wc w' → n < S.d.pages → Calls Tryz.prog 26 #[ptrV b.d.d, intV n] w' fun e w'' => e = .returned (strV (S.d.area n)) ∧ w' = w'') := Lib.hid fun w' n hc hn => by
            have := law14_bytes (HST.out w' hc).d hRel.up n (by omega)
            rw [hbd] at this
            exact this
          have HEP : Hid (∀ w', Chg [] wc w' → Calls Tryz.prog 27 #[ptrV b1.s] w' fun e w'' => e = .returned (intV S.epoch) ∧ w' = w'') := Lib.hid fun w' hc => store_epoch (HST.out w' hc)
          have HTW := Lib.hid htw
          have HBD2 := Lib.hid hbd
          have HRP2 := Lib.hid hrp
          have HQ := Lib.hid hqe
          have HQM := Lib.hid hqm
          have HKP : Hid (q.kept = (u : Int) + (q.leaving : Int)) := Lib.hid hu2.symm
          have HPG := Lib.hid hpg
          clear hS hRel htw hbd hrp hu1 hu2 hqe hqm hpm hse hep1 hpg HDO1 HAE HAE0 HT4 HT HR HBD HRP
          generalize hvf : q.free = vf at *
          generalize hvs : q.freshN = vs at *
          generalize hvl : q.leaving = vl at *
          clear hvf hvs hvl
          have s1 : vf + (u : Int) ≤ 12 := by omega
          have s2 : vf + (u : Int) + (vs : Int) ≤ 12 := by omega
          have z5 : (vf + (u : Int) + (vs : Int) + (vl : Int) == 12) = true := by simpa using hsum
          have z6 : (vf + (u : Int) + (vs : Int) + (vl : Int) != 12) = false := by simp [hsum]
          have C0 : Hid (Chg [] wc wc) := Lib.hid (Chg.refl _ _)
          go_wp2_with (go_at_call 23; (with_reducible refine (HCT.out _ C0.out).mono ?_); rintro e w6 ⟨rfl, h6⟩; have C6 := Lib.hid h6; clear h6)
          with_reducible refine (HRE.out _ C6.out).mono ?_
          rintro e w7 ⟨ra, rc, RL, rfl, o7, rd, h7⟩
          have C7 := Lib.hid (C6.out.trans0 h7)
          have O7 := Lib.hid o7
          have RD := Lib.hid rd
          have hrl : (RL.length : Int) = (u : Int) + (vl : Int) := rd.len.trans HKP.out
          have z7 : ((RL.length : Int) == (u : Int) + (vl : Int)) = true := by simpa using hrl
          have z8 : ((RL.length : Int) != (u : Int) + (vl : Int)) = false := by simp [hrl]
          have hr12 : RL.length ≤ 12 := by have := rd.few; have := HPG.out; omega
          have HOWN : Hid (∀ w', Chg [] w7 w' → Own w' 3 1 (.slice ra RL.length rc) RL.length (ints RL)) := Lib.hid fun w' hc => O7.out.kept hc (by simp)
          clear h7 o7 rd hrl
          go_wp2_with fail
          go_loopw [12] (fun i wr => ∃ j : Nat, j ≤ RL.length ∧ i = .int .i64 j ∧ Chg [] w7 wr) (fun i _ => RL.length - (intOf i).toNat)
          case atStart => exact ⟨0, Nat.zero_le _, rfl, Chg.refl _ _⟩
          case round =>
            obtain ⟨j, hj, rfl, hcj⟩ := hrel
            have CJ := Lib.hid hcj
            have CC := Lib.hid (C7.out.trans0 hcj)
            clear hcj
            by_cases hjl : j < RL.length
            · have hjI : (j : Int) < (RL.length : Int) := by omega
              have hj12 : (j : Int) ≤ 12 := by omega
              obtain ⟨g, cap, hgv, -, -, -⟩ := int_cell (HOWN.out _ CJ.out) j hjl
              simp only [Value.slice.injEq] at hgv
              obtain ⟨rfl, -, rfl⟩ := hgv
              have HCELL : Hid (∀ w' (i : Nat) (hi : i < RL.length), Chg [] w7 w' → w'.cell? ⟨g, i, none⟩ = some (intV RL[i])) := Lib.hid fun w' i hi hc => by
                obtain ⟨g', cap', hv', -, -, e⟩ := int_cell (HOWN.out w' hc) i hi
                simp only [Value.slice.injEq, Option.some.injEq, Addr.mk.injEq, and_true] at hv'
                obtain ⟨rfl, -, rfl⟩ := hv'
                exact e
              obtain ⟨n, pe, pk, pb, hn, hnp, hpe, -, hget⟩ := RD.out.page j hjl
              have hn11 : n ≤ 11 := by have := HPG.out; omega
              have c1 := HCELL.out _ j hjl CJ.out
              rw [hn] at c1
              have HB1 := Lib.hid (HBY.out _ n CC.out hnp)
              have HG1 : Hid (∀ w', Calls Tryz.prog 25 #[strV (S.d.area n)] w' fun e w'' => e = .returned (.tuple #[.agg #[intV n, intV pe, intV pk, strV pb], intV 0]) ∧ Chg [] w' w'') := Lib.hid fun w' => r11_get _ _ w' hget
              have HN := Lib.hid hn
              have y1 : decide ((n : Int) < 0) = false := by simp
              have y2 : decide (11 < (n : Int)) = false := by simp; omega
              have y3 : decide (S.epoch < pe) = false := by simp; omega
              clear hget hnp hn hpe
              go_upto_region 17 with (first
                | (go_at_call 26; (with_reducible refine HB1.out.mono ?_); rintro e w8 ⟨rfl, rfl⟩)
                | (go_at_call 25; (with_reducible refine (HG1.out _).mono ?_); rintro e w9 ⟨rfl, h9⟩; have C9 := Lib.hid (CJ.out.trans0 h9); have D9 := Lib.hid (CC.out.trans0 h9); clear h9))
              have CA : Hid (Chg [] w7 (w9.alloc (.cells #[intV n, intV pe, intV pk, strV pb] 55))) := Lib.hid (C9.out.alloc _)
              have hB : Blk (w9.alloc (.cells #[intV n, intV pe, intV pk, strV pb] 55)) w9.heap.size 55 [intV n, intV pe, intV pk, strV pb] := Blk.new w9 _ _
              obtain ⟨⟨p0, p1, -, -⟩, -⟩ := page_at hB
              have cj := HCELL.out _ j hjl CA.out
              rw [HN.out] at cj
              clear hB
              rcases Nat.eq_zero_or_pos j with hj0 | hjp
              · have u1 : decide (0 < (j : Int)) = false := by simp; omega
                have u2 : decide (0 < j) = false := by simp; omega
                clear hj0
                go_quiet ((first | (go_at_call 27; exact quiet_kept (HEP.out _ ((D9.out.alloc _).drewN _)))))
                go_wp2_with fail
                go_roundw
                case rel => exact ⟨j + 1, by omega, by go_num, CA.out.drewN _⟩
                case measure => simp [intOf]; omega
              · obtain ⟨m, hm⟩ : ∃ m, j = m + 1 := ⟨j - 1, by omega⟩
                have u1 : decide (0 < (j : Int)) = true := by simp; omega
                have u2 : decide (0 < j) = true := by simp; omega
                have hjm : (j : Int) - 1 = (m : Int) := by omega
                have hml : m < RL.length := by omega
                have hmI : (m : Int) < (RL.length : Int) := by omega
                have cm := HCELL.out _ m hml CA.out
                have hup := RD.out.up m (by omega)
                have hnn : RL[m + 1] = (n : Int) := by
                  have := HN.out
                  simp only [hm] at this
                  exact this
                rw [hnn] at hup
                generalize RL[m] = pm at *
                have u3 : decide ((n : Int) ≤ pm) = false := by simp; omega
                clear hup hnn hm hjp
                go_quiet ((first | (go_at_call 27; exact quiet_kept (HEP.out _ ((D9.out.alloc _).drewN _)))))
                go_wp2_with fail
                go_roundw
                case rel => exact ⟨j + 1, by omega, by go_num, CA.out.drewN _⟩
                case measure => simp [intOf]; omega
            · obtain rfl : j = RL.length := by omega
              go_wp2_with fail
              go_roundw
              case rel => exact ⟨k + 1, by omega, by omega, by go_num, b1, rb1, q, rfl, HBD2.out, HRP2.out, HQ.out, HQM.out, HTW.out.on0 CC.out⟩
              case measure => simp [intOf]; omega
      · have h4I : ¬ (k : Int) < 40 := by omega
        go_wp2_with fail
        go_ret
        exact ⟨rfl, HT.out.chg⟩
    · have hkI : ¬ (k : Int) < (L.length : Int) := by omega
      go_wp2_with fail
      go_ret
      exact ⟨rfl, HT.out.chg⟩

end Go.Proofs.YtjbpdgknhbnfgaaGreat
