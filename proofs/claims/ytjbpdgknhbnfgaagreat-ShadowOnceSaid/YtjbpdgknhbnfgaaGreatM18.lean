/- A part of the walks of the program's functions, each a contract that its caller uses; no condition but what each theorem names. The walk of reference 14's set. The walks of reference 14's counts, of reference 13's Need, of reference 01's Ints. The walks of reference 14's Leaving and Pages, and of reference 01's Ints. The walks of reference 14's New, Write, Drop, Abort. -/
import Derived.Test.YtjbpdgknhbnfgaaGreatM17

namespace Go.Proofs.YtjbpdgknhbnfgaaGreat
open Go.RowKit
set_option maxRecDepth 100000

theorem info_slot : (Tryz.prog.info? 91).map (fun i => (i.zero, i.size, i.bytes)) = some (some (.agg #[.bool false, .bool false, .string ⟨#[]⟩]), 3, 24) := by kernel_rfl
theorem size_slot : (Tryz.prog.info? 91).map (·.size) = some 3 := by kernel_rfl
theorem store_slot {ρ : Operand → Value} {w : World} {x y : Operand} {dst type pos after guard} (h : PtrRow w (ρ x) 3) (hy : AggOf (ρ y) 3) :
    (execOp ρ { dst := dst, op := .store 91 x y, type := type, pos := pos, after := after, guard := guard }).run Tryz.prog w = .ok .skip (putRow w (ρ x) (ρ y)) :=
  exec_store_agg size_slot h hy

theorem setL_pad (L : List RSlot) (i k : Nat) (x : RSlot) (hk : k = i + 1 - L.length) : Ref.setL L i x = (L ++ List.replicate k RSlot.none).set i x := by rw [hk]; rfl
theorem pad_succ (L : List RSlot) (k : Nat) : slotCells (L ++ List.replicate k RSlot.none) ++ [.bool false, .bool false, .string ⟨#[]⟩] = slotCells (L ++ List.replicate (k + 1) RSlot.none) := by
  rw [List.replicate_succ', ← List.append_assoc, slotCells_snoc]
  rfl

theorem own_slot_put {w : World} {v : Value} {L : List RSlot} (h : Own w 91 3 v L.length (slotCells L)) {g cap : Nat} (hv : v = .slice (some ⟨g, 0, none⟩) L.length cap) (i : Nat) (hi : i < L.length) (x : RSlot) :
    PtrRow w (.pointer (some ⟨g, i * 3, none⟩)) 3 ∧ Own (putRow w (.pointer (some ⟨g, i * 3, none⟩)) (.agg x.cells.toArray)) 91 3 v (L.set i x).length (slotCells (L.set i x)) ∧ Chg [g] w (putRow w (.pointer (some ⟨g, i * 3, none⟩)) (.agg x.cells.toArray)) := by
  rcases h.2 with ⟨a, hv', hn⟩ | ⟨g', cap', cur, hv', ⟨T, hB⟩, hn, h0, h1, h2, h3⟩
  · omega
  · rw [hv] at hv'
    simp at hv'
    obtain ⟨rfl, rfl⟩ := hv'
    have hcl : x.cells.length = 3 := rfl
    have hp : putRow w (.pointer (some ⟨g, i * 3, none⟩)) (.agg x.cells.toArray) = w.setRow g (lay cur (i * 3) x.cells).toArray := putRow_blk (off := i * 3) hB x.cells
    have hlay : (lay cur (i * 3) x.cells).length = cur.length := lay_length' _ _ _ (by rw [hcl]; omega)
    rw [hp]
    refine ⟨PtrRow.mk' hB (by omega), ⟨by rw [slotCells_length], .inr ⟨g, cap, lay cur (i * 3) x.cells, ?_, ⟨_, hB.row _⟩, by simpa using hn, h0, h1, by rw [hlay]; exact h2, ?_⟩⟩, (Chg.refl _ _).setRow _ _ (.inl (by simp))⟩
    · rw [hv]; simp
    · rw [slotCells_set L i hi x, ← h3, List.length_set]
      exact take_lay _ _ _ _ (by rw [hcl]; omega) (by omega)

structure SetSt (w wr : World) (L : List RSlot) (k : Nat) (v : Value) (x : RSlot) : Prop where
  own : Own wr 91 3 v (L.length + k) (slotCells (L ++ List.replicate k RSlot.none))
  new : ∀ k ∈ ownBlk v, w.heap.size ≤ k
  box : Blk wr w.heap.size 91 [.bool x.is, .bool x.fresh, strV x.b]
  nb : w.heap.size ∉ ownBlk v
  chg : Chg [] w wr
theorem SetSt.next {w wr w3 : World} {L : List RSlot} {k c3 : Nat} {v : Value} {ad3 : Option Addr} {x : RSlot} {o : Obj} (h : SetSt w wr L k v x) (hown : Own w3 91 3 (.slice ad3 (L.length + k + 1) c3) (L.length + k + 1) (slotCells (L ++ List.replicate k RSlot.none) ++ [.bool false, .bool false, .string ⟨#[]⟩]))
    (hc : Chg (ownBlk v) (wr.alloc o) w3) (hg : ∀ k' ∈ ownBlk (.slice ad3 (L.length + k + 1) c3), k' ∈ ownBlk v ∨ (wr.alloc o).heap.size ≤ k') : SetSt w w3 L (k + 1) (.slice ad3 (L.length + (k + 1)) c3) x := by
  rw [pad_succ] at hown
  have hsz := h.chg.size
  have hb := h.box.lt
  refine ⟨hown, fun k' hk => ?_, (h.box.alloc o).kept hc h.nb, fun hm => ?_, (h.chg.alloc o).trans hc fun g hg => .inr (h.new g hg)⟩
  · rcases hg k' hk with h1 | h1
    · exact h.new k' h1
    · simp at h1; omega
  · rcases hg _ hm with h1 | h1
    · exact h.nb h1
    · simp at h1; omega

attribute [local go_sem ↓] store_slot

set_option maxHeartbeats 1000000 in
theorem ref_set {w : World} {v : Value} {L : List RSlot} (h : Own w 91 3 v L.length (slotCells L)) (hl : L.length ≤ 60000) (i : Nat) (hi : i ≤ 60000) (x : RSlot) :
    Calls Tryz.prog 140 #[v, intV i, .agg #[.bool x.is, .bool x.fresh, strV x.b]] w fun e w' => ∃ v', e = .returned v' ∧ Own w' 91 3 v' (Ref.setL L i x).length (slotCells (Ref.setL L i x)) ∧ Chg [] w w' ∧ ∀ k ∈ ownBlk v', w.heap.size ≤ k := by
  obtain ⟨va, vc, rfl, hv1, hv2⟩ := h.shape
  have HX : Hid (Blk (w.alloc (.cells #[.bool x.is, .bool x.fresh, strV x.b] 91)) w.heap.size 91 [.bool x.is, .bool x.fresh, strV x.b]) := Lib.hid (Blk.new w _ _)
  have HO := Lib.hid ((h.alloc (.cells #[.bool x.is, .bool x.fresh, strV x.b] 91)).alloc (.cells #[] 91))
  have HC : Hid (Chg [] w ((w.alloc (.cells #[.bool x.is, .bool x.fresh, strV x.b] 91)).alloc (.cells #[] 91))) := Lib.hid (((Chg.refl _ _).alloc _).alloc _)
  have HX2 := Lib.hid (HX.out.alloc (.cells #[] 91))
  clear h
  go_enter Tryz.func140, Tryz.ntmps140
  go_wp2_with (refine wpList_append rfl (.tmp 8) (.tmp 9) 43 43 rfl 91 3 24 (.agg #[.bool false, .bool false, .string ⟨#[]⟩]) Tryz.underlying43 info_slot rfl (by omega) (.slice (some ⟨w.heap.size + 1, 0, none⟩) 0 0) 0 L.length [] (slotCells L) rfl (Own.bare _ _ _ _) (by exact Src.ofOwn Tryz.underlying43 HO.out (slotCells_one L)) (by omega) (by unfold maxLen; omega) ?_; intro ad2 c2 w2 hown2 hc2 hg2 hcm2 hnc2; simp only [Nat.zero_add, List.nil_append] at hown2 hg2 hnc2; have O2 := Lib.hid hown2; have C2 := Lib.hid (HC.out.trans0 (hc2.mono (by simp [ownBlk]))); have N2 : Hid (∀ k ∈ ownBlk (.slice ad2 L.length c2), w.heap.size < k) := Lib.hid (fun k hk => by rcases hg2 k hk with h1 | h1; (simp [ownBlk] at h1); (simp at h1; omega)); have X2 := Lib.hid (HX2.out.kept (hc2.mono (G := []) (by simp [ownBlk])) (by simp)); clear hown2 hc2 hg2)
  go_loopg [7] (i + 1 - L.length) (fun m v wr => ∃ (k c : Nat) (ad : Option Addr), m + k = i + 1 - L.length ∧ v = .slice ad (L.length + k) c ∧ L.length + k ≤ c ∧ c ≤ maxLen ∧ SetSt w wr L k (.slice ad (L.length + k) c) x)
  case atStart => exact ⟨0, c2, ad2, by omega, rfl, hnc2, hcm2, by simpa using O2.out, fun k hk => Nat.le_of_lt (N2.out k hk), X2.out, fun hk => absurd (N2.out _ hk) (Nat.lt_irrefl _), C2.out⟩
  case round =>
    obtain ⟨k, c, ad, hk, rfl, hkc, hcm, hs⟩ := hrel
    have HS := Lib.hid hs
    clear hs
    by_cases hlt : L.length + k ≤ i
    · have hltI : (L.length : Int) + (k : Int) ≤ (i : Int) := by omega
      obtain ⟨m, rfl⟩ : ∃ m, gk = m + 1 := ⟨gk - 1, by omega⟩
      go_wp2_with (refine wpList_append rfl (.tmp 15) (.tmp 17) 43 43 rfl 91 3 24 (.agg #[.bool false, .bool false, .string ⟨#[]⟩]) Tryz.underlying43 info_slot rfl (by omega) (.slice ad (L.length + k) c) (L.length + k) 1 (slotCells (L ++ List.replicate k RSlot.none)) [.bool false, .bool false, .string ⟨#[]⟩] rfl (by exact HS.out.own.alloc _) (by exact src_new' Tryz.underlying43 _ 91 [.bool false, .bool false, .string ⟨#[]⟩] _ 1 1 rfl rfl (by simp [Value.oneCell'])) (by omega) (by unfold maxLen; omega) ?_; intro ad3 c3 w3 hown3 hc3 hg3 hcm3 hnc3; have S3 := Lib.hid (HS.out.next hown3 hc3 hg3); clear hown3 hc3 hg3)
      go_roundg m
      case measure => omega
      case rel => exact ⟨k + 1, c3, ad3, by omega, rfl, hnc3, hcm3, S3.out⟩
    · have hkk : k = i + 1 - L.length := by omega
      have hltI : ¬ (L.length : Int) + (k : Int) ≤ (i : Int) := by omega
      have hfin := HS.out.own
      have hlen : (L ++ List.replicate k RSlot.none).length = L.length + k := by simp
      rw [← hlen] at hfin
      have hil : i < (L ++ List.replicate k RSlot.none).length := by rw [hlen]; omega
      obtain ⟨g, cap, cur, hv, hob, -⟩ := hfin.pos (by omega)
      obtain ⟨p1, p2, p3⟩ := own_slot_put hfin hv i hil x
      rw [hlen] at hob
      simp only [Value.slice.injEq] at hv
      obtain ⟨rfl, -, rfl⟩ := hv
      have hcx : x.cells.toArray = #[.bool x.is, .bool x.fresh, strV x.b] := rfl
      rw [hcx] at p2 p3
      have P2 := Lib.hid p2
      have P3 := Lib.hid p3
      have hag : AggOf (.agg #[.bool x.is, .bool x.fresh, strV x.b]) 3 := AggOf.mk' (us := [.bool x.is, .bool x.fresh, strV x.b]) rfl (by simp [Value.oneCell'])
      obtain ⟨x0, x1, x2⟩ := (⟨HS.out.box.cell 0, HS.out.box.cell 1, HS.out.box.cell 2⟩ : wr.cell? ⟨w.heap.size, 0, none⟩ = some (.bool x.is) ∧ wr.cell? ⟨w.heap.size, 1, none⟩ = some (.bool x.fresh) ∧ wr.cell? ⟨w.heap.size, 2, none⟩ = some (strV x.b))
      have hiI : (i : Int) < (L.length : Int) + (k : Int) := by omega
      have HKK := Lib.hid hkk
      have HNG : Hid (w.heap.size ≤ g) := Lib.hid (HS.out.new g (by rw [hob]; simp))
      have HOB := Lib.hid hob
      clear p2 p3 hfin hlen hil hkk hcx hob
      go_wp2_with fail
      go_ret
      refine ⟨.slice (some ⟨g, 0, none⟩) (L.length + k) c, rfl, ?_, HS.out.chg.trans P3.out (fun k hk => by simp at hk; subst hk; exact .inr HNG.out), fun k hk => ?_⟩
      · rw [setL_pad L i k x HKK.out]
        have := P2.out
        rw [List.length_set, List.length_append, List.length_replicate] at this
        rw [List.length_set, List.length_append, List.length_replicate]
        exact this
      · rw [HOB.out] at hk
        simp at hk
        subst hk
        exact HNG.out

end Go.Proofs.YtjbpdgknhbnfgaaGreat

namespace Go.Proofs.YtjbpdgknhbnfgaaGreat
open Go.RowKit
set_option maxRecDepth 100000

theorem countP_take_succ {α : Type} (L : List α) (p : α → Bool) (k : Nat) (h : k < L.length) : (L.take (k + 1)).countP p = (L.take k).countP p + if p L[k] then 1 else 0 := by
  rw [List.take_succ_eq_append_getElem h, List.countP_append]
  simp [List.countP_cons]
theorem countP_take_le {α : Type} (L : List α) (p : α → Bool) (k : Nat) : (L.take k).countP p ≤ k := Nat.le_trans List.countP_le_length (by rw [List.length_take]; omega)

set_option maxHeartbeats 1000000 in
theorem ref_there {w : World} {v : Value} {L : List RSlot} (h : Own w 91 3 v L.length (slotCells L)) (hl : L.length ≤ 60000) :
    Calls Tryz.prog 143 #[v] w fun e w' => e = .returned (intV (Ref.there L)) ∧ w = w' := by
  obtain ⟨va, vc, rfl, hv1, hv2⟩ := h.shape
  have HO := Lib.hid h
  clear h
  go_enter Tryz.func143, Tryz.ntmps143
  go_wp2_with fail
  go_loop [3, 4] (fun n i => ∃ k : Nat, k ≤ L.length ∧ i = .int .i64 k ∧ n = .int .i64 ((L.take k).countP RSlot.is : Nat)) (fun _ i => L.length - (intOf i).toNat)
  case atStart => exact ⟨0, Nat.zero_le _, rfl, rfl⟩
  case round =>
    obtain ⟨k, hk, rfl, rfl⟩ := hrel
    by_cases hlt : k < L.length
    · obtain ⟨g, cap, hv, -, -, c0, -, -⟩ := slot_cells HO.out k hlt
      simp only [Value.slice.injEq] at hv
      obtain ⟨rfl, -, rfl⟩ := hv
      have hs := countP_take_succ L RSlot.is k hlt
      have hb := countP_take_le L RSlot.is k
      have hkI : (k : Int) < (L.length : Int) := by omega
      have HS := Lib.hid hs
      clear hs
      obtain ⟨x, hx⟩ : ∃ x, L[k].is = x := ⟨_, rfl⟩
      rw [hx] at c0 HS
      have hcn : ((L.take k).countP RSlot.is : Int) ≤ 60000 := by omega
      clear hx hb
      cases x with
      | true =>
        go_wp2_with fail
        go_round
        case rel => exact ⟨k + 1, by omega, by go_num, by rw [HS.out]; rfl⟩
        case measure => simp [intOf]; omega
      | false =>
        go_wp2_with fail
        go_round
        case rel => exact ⟨k + 1, by omega, by go_num, by rw [HS.out]; rfl⟩
        case measure => simp [intOf]; omega
    · obtain rfl : k = L.length := by omega
      go_wp2_with fail
      go_ret
      exact ⟨rfl, rfl⟩

set_option maxHeartbeats 1000000 in
theorem ref_fresh {w : World} {b : RefB} {r : Ref} (h : RefAt w b r) (hl : r.now.length ≤ 60000) :
    Calls Tryz.prog 74 #[ptrV b.p] w fun e w' => e = .returned (intV r.freshN) ∧ w = w' := by
  obtain ⟨-, k1, -, -⟩ := h.cells
  obtain ⟨va, vc, hnv, hv1, hv2⟩ := h.n.shape
  have hn := h.n
  rw [hnv] at k1 hn
  have HO := Lib.hid hn
  unfold Ref.freshN
  generalize r.now = L at *
  clear h hnv hn
  go_enter Tryz.func74, Tryz.ntmps74
  go_wp2_with fail
  go_loop [3, 4] (fun n i => ∃ k : Nat, k ≤ L.length ∧ i = .int .i64 k ∧ n = .int .i64 ((L.take k).countP (fun x => x.is && x.fresh) : Nat)) (fun _ i => L.length - (intOf i).toNat)
  case atStart => exact ⟨0, Nat.zero_le _, rfl, rfl⟩
  case round =>
    obtain ⟨k, hk, rfl, rfl⟩ := hrel
    by_cases hlt : k < L.length
    · obtain ⟨g, cap, hv, -, -, c0, c1, -⟩ := slot_cells HO.out k hlt
      simp only [Value.slice.injEq] at hv
      obtain ⟨rfl, -, rfl⟩ := hv
      have hs := countP_take_succ L (fun x => x.is && x.fresh) k hlt
      have hb := countP_take_le L (fun x => x.is && x.fresh) k
      have hkI : (k : Int) < (L.length : Int) := by omega
      have HS := Lib.hid hs
      clear hs
      obtain ⟨x, hx⟩ : ∃ x, L[k].is = x := ⟨_, rfl⟩
      obtain ⟨y, hy⟩ : ∃ y, L[k].fresh = y := ⟨_, rfl⟩
      rw [hx] at c0 HS
      rw [hy] at c1 HS
      generalize hcn0 : (L.take k).countP (fun x => x.is && x.fresh) = cn at *
      have hcn : (cn : Int) ≤ 60000 := by omega
      clear hx hy hb hcn0
      cases x <;> cases y
      all_goals
        go_wp2_with fail
        go_round
        case rel => exact ⟨k + 1, by omega, by go_num, by rw [HS.out]; rfl⟩
        case measure => simp [intOf]; omega
    · obtain rfl : k = L.length := by omega
      go_wp2_with fail
      go_ret
      exact ⟨rfl, rfl⟩

theorem rootNeed_bd {n : Int} (h : 0 ≤ n) : 0 ≤ rootNeed n ∧ rootNeed n ≤ n + 1 := by
  unfold rootNeed
  split <;> omega

theorem ref_need (n : Int) (w : World) (h0 : 0 ≤ n) (h1 : n ≤ 60000) :
    Calls Tryz.prog 141 #[intV n] w fun e w' => e = .returned (intV (rootNeed n)) ∧ w = w' := by
  unfold rootNeed
  by_cases h : n < 1
  · rw [if_pos h]
    go_enter Tryz.func141, Tryz.ntmps141
    go_wp2
    go_ret
    exact ⟨rfl, rfl⟩
  · rw [if_neg h]
    go_enter Tryz.func141, Tryz.ntmps141
    go_wp2
    go_ret
    exact ⟨rfl, rfl⟩

theorem quiet_draws {P : Program} {f : FuncId} {args : Array Value} {w : World} {n : Nat} {v : Value}
    (h : Calls P f args (w.drewN n) fun e w' => e = .returned v ∧ ∃ k, w' = (w.drewN n).drewN k) : Calls P f args (w.drewN n) fun e w'' => e = .returned v ∧ ∃ m, w'' = w.drewN m :=
  h.mono fun _ _ ⟨he, k, hw⟩ => ⟨he, n + k, by rw [hw, World.drewN_drewN]⟩

theorem ref_kept {w : World} {b : RefB} {r : Ref} (h : RefAt w b r) (hl : r.old.length ≤ 60000) :
    Calls Tryz.prog 75 #[ptrV b.p] w fun e w' => e = .returned (intV r.kept) ∧ ∃ k, w' = w.drewN k := by
  obtain ⟨-, -, k2, -⟩ := h.cells
  obtain ⟨va, vc, hov, hv1, hv2⟩ := h.o.shape
  have ho := h.o
  rw [hov] at k2 ho
  have ht := fun n => quiet_kept (ref_there (ho.drewN n) hl)
  have hn := fun (n : Nat) => quiet_kept (ref_need (r.old.length : Int) (w.drewN n) (by omega) (by omega))
  have htb : Ref.there r.old ≤ r.old.length := List.countP_le_length
  have hnb := rootNeed_bd (n := (r.old.length : Int)) (by omega)
  have HT := Lib.hid ht
  have HN := Lib.hid hn
  have e1 : IntKind.i64.wrap ((Ref.there r.old : Int) + rootNeed r.old.length) = (Ref.there r.old : Int) + rootNeed r.old.length := IntWalk.i64_in _ (by omega)
  unfold Ref.kept
  clear ht hn ho h hov hnb htb
  generalize rootNeed (r.old.length : Int) = nd at *
  generalize Ref.there r.old = th at *
  generalize r.old.length = ln at *
  go_enter Tryz.func75, Tryz.ntmps75
  go_wp2_with fail
  go_quiet ((first | (go_at_call 143; exact HT.out _) | (go_at_call 141; exact HN.out _)))
  go_wp2_with fail
  go_ret
  exact ⟨rfl, _, rfl⟩

theorem ref_free {w : World} {b : RefB} {r : Ref} (h : RefAt w b r) (hn : r.now.length ≤ 60000) (hl : r.old.length ≤ 60000) (hm : 0 ≤ r.many ∧ r.many ≤ 60000) :
    Calls Tryz.prog 73 #[ptrV b.p] w fun e w' => e = .returned (intV r.free) ∧ ∃ k, w' = w.drewN k := by
  obtain ⟨k0, -, -, -⟩ := h.cells
  have ht := fun n => quiet_draws (ref_kept (h.kept0 ((Chg.refl [] w).drewN n)) hl)
  have hf := fun n => quiet_kept (ref_fresh (h.kept0 ((Chg.refl [] w).drewN n)) hn)
  have htb : Ref.there r.old ≤ r.old.length := List.countP_le_length
  have hfb : r.freshN ≤ r.now.length := List.countP_le_length
  have hnb := rootNeed_bd (n := (r.old.length : Int)) (by omega)
  have hkb : 0 ≤ r.kept ∧ r.kept ≤ 200000 := by unfold Ref.kept; omega
  have e1 : IntKind.i64.wrap (r.many - r.kept) = r.many - r.kept := IntWalk.i64_in _ (by omega)
  have e2 : IntKind.i64.wrap (r.many - r.kept - (r.freshN : Int)) = r.many - r.kept - (r.freshN : Int) := IntWalk.i64_in _ (by omega)
  have HT := Lib.hid ht
  have HF := Lib.hid hf
  unfold Ref.free
  clear ht hf h hnb htb hfb hkb hm
  generalize r.kept = kp at *
  generalize r.many = mn at *
  generalize r.freshN = fr at *
  go_enter Tryz.func73, Tryz.ntmps73
  go_wp2_with fail
  go_quiet ((first | (go_at_call 75; exact HT.out _) | (go_at_call 74; exact HF.out _)))
  go_wp2_with fail
  go_ret
  exact ⟨rfl, _, rfl⟩

end Go.Proofs.YtjbpdgknhbnfgaaGreat

namespace Go.Proofs.YtjbpdgknhbnfgaaGreat
open Go.RowKit
set_option maxRecDepth 100000

def leaves (r : Ref) (i : Nat) : Bool := (Ref.slot r.old i).is && (decide (r.now.length ≤ i) || !(Ref.slot r.now i).is || (Ref.slot r.now i).fresh)
theorem leaving_def (r : Ref) : r.leaving = (List.range r.old.length).countP (leaves r) := rfl
theorem range_count_succ (p : Nat → Bool) (k : Nat) : (List.range (k + 1)).countP p = (List.range k).countP p + if p k then 1 else 0 := by
  rw [List.range_succ, List.countP_append]
  simp [List.countP_cons]
theorem range_count_le (p : Nat → Bool) (k : Nat) : (List.range k).countP p ≤ k := Nat.le_trans List.countP_le_length (by simp)
theorem Ref.slot_of {L : List RSlot} {i : Nat} (h : i < L.length) : Ref.slot L i = L[i] := by simp [Ref.slot, List.getD, h]

set_option maxHeartbeats 2000000 in
theorem ref_leaving {w : World} {b : RefB} {r : Ref} (h : RefAt w b r) (_hn : r.now.length ≤ 60000) (hl : r.old.length ≤ 60000) :
    Calls Tryz.prog 76 #[ptrV b.p] w fun e w' => e = .returned (intV r.leaving) ∧ w = w' := by
  obtain ⟨-, k1, k2, -⟩ := h.cells
  obtain ⟨na, nc, hnv, hn1, hn2⟩ := h.n.shape
  obtain ⟨oa, oc, hov, ho1, ho2⟩ := h.o.shape
  have hon := h.n
  have hoo := h.o
  rw [hnv] at k1 hon
  rw [hov] at k2 hoo
  have HON := Lib.hid hon
  have HOO := Lib.hid hoo
  rw [leaving_def]
  have HLV : Hid (∀ k (hk : k < r.old.length), leaves r k = (r.old[k].is && (decide (r.now.length ≤ k) || !(Ref.slot r.now k).is || (Ref.slot r.now k).fresh))) := Lib.hid (fun k hk => by unfold leaves; rw [Ref.slot_of hk])
  generalize leaves r = lv at *
  generalize r.old = O at *
  generalize r.now = N at *
  clear h hnv hov hon hoo
  go_enter Tryz.func76, Tryz.ntmps76
  go_wp2_with fail
  go_loop [3, 4] (fun n i => ∃ k : Nat, k ≤ O.length ∧ i = .int .i64 k ∧ n = .int .i64 ((List.range k).countP lv : Nat)) (fun _ i => O.length - (intOf i).toNat)
  case atStart => exact ⟨0, Nat.zero_le _, rfl, rfl⟩
  case round =>
    obtain ⟨k, hk, rfl, rfl⟩ := hrel
    by_cases hlt : k < O.length
    · obtain ⟨g, cap, hv, -, -, c0, -, -⟩ := slot_cells HOO.out k hlt
      simp only [Value.slice.injEq] at hv
      obtain ⟨rfl, -, rfl⟩ := hv
      have hs := range_count_succ lv k
      have hb := range_count_le lv k
      rw [HLV.out k hlt] at hs
      have hkI : (k : Int) < (O.length : Int) := by omega
      have hk0 : (k : Int) ≤ 60000 := by omega
      obtain ⟨x, hx⟩ : ∃ x, O[k].is = x := ⟨_, rfl⟩
      rw [hx] at c0 hs
      generalize hcn0 : (List.range k).countP lv = cn at *
      have hcn : (cn : Int) ≤ 60000 := by omega
      clear hx hb hcn0 HLV
      cases x with
      | false =>
        have HS := Lib.hid hs
        clear hs
        go_wp2_with fail
        go_round
        case rel => exact ⟨k + 1, by omega, by go_num, by rw [HS.out]; rfl⟩
        case measure => simp [intOf]; omega
      | true =>
        by_cases hnl : N.length ≤ k
        · have z1 : decide ((N.length : Int) ≤ (k : Int)) = true := by simp; omega
          have z2 : decide (N.length ≤ k) = true := by simp; omega
          rw [z2] at hs
          have HS := Lib.hid hs
          clear hs hnl
          go_wp2_with fail
          go_round
          case rel => exact ⟨k + 1, by omega, by go_num, by rw [HS.out]; rfl⟩
          case measure => simp [intOf]; omega
        · have z1 : decide ((N.length : Int) ≤ (k : Int)) = false := by simp; omega
          have z2 : decide (N.length ≤ k) = false := by simp; omega
          have hkn : k < N.length := by omega
          have hknI : (k : Int) < (N.length : Int) := by omega
          obtain ⟨g2, cap2, hv2, -, -, d0, d1, -⟩ := slot_cells HON.out k hkn
          simp only [Value.slice.injEq] at hv2
          obtain ⟨rfl, -, rfl⟩ := hv2
          rw [z2, Ref.slot_of hkn] at hs
          obtain ⟨y, hy⟩ : ∃ y, N[k].is = y := ⟨_, rfl⟩
          obtain ⟨z, hz⟩ : ∃ z, N[k].fresh = z := ⟨_, rfl⟩
          rw [hy] at d0 hs
          rw [hz] at d1 hs
          have HS := Lib.hid hs
          clear hs hnl hy hz hkn
          cases y <;> cases z
          all_goals
            go_wp2_with fail
            go_round
            case rel => exact ⟨k + 1, by omega, by go_num, by rw [HS.out]; rfl⟩
            case measure => simp [intOf]; omega
    · obtain rfl : k = O.length := by omega
      go_wp2_with fail
      go_ret
      exact ⟨rfl, rfl⟩

/-! the same numbers -/
theorem int_cell {w : World} {v : Value} {L : List Int} (h : Own w 3 1 v L.length (ints L)) (i : Nat) (hi : i < L.length) :
    ∃ g cap, v = .slice (some ⟨g, 0, none⟩) L.length cap ∧ L.length ≤ cap ∧ cap ≤ maxLen ∧ w.cell? ⟨g, i, none⟩ = some (intV L[i]) := by
  obtain ⟨g, cap, cur, hv, -, -, h1, h2, -⟩ := h.pos (by omega)
  refine ⟨g, cap, hv, h1, h2, ?_⟩
  rw [(h.cell hv hi).1, ints_get, List.getElem?_eq_getElem hi]
  rfl
theorem take_eq_succ {A B : List Int} {k : Nat} (ha : k < A.length) (hb : k < B.length) (h : A.take k = B.take k) (he : A[k] = B[k]) : A.take (k + 1) = B.take (k + 1) := by
  rw [List.take_succ_eq_append_getElem ha, List.take_succ_eq_append_getElem hb, h, he]

set_option maxHeartbeats 2000000 in
theorem ref_ints {w : World} {va vb : Value} {A B : List Int} (h1 : Own w 3 1 va A.length (ints A)) (h2 : Own w 3 1 vb B.length (ints B)) (hl : A.length ≤ 60000) (hl2 : B.length ≤ 60000) :
    Calls Tryz.prog 111 #[va, vb] w fun e w' => e = .returned (.bool (decide (A = B))) ∧ Chg [] w w' := by
  obtain ⟨aa, ac, rfl, ha1, ha2⟩ := h1.shape
  obtain ⟨ba, bc, rfl, hb1, hb2⟩ := h2.shape
  have H1 := Lib.hid h1
  have H2 := Lib.hid h2
  clear h1 h2
  by_cases hne : A.length = B.length
  · have z1 : ((A.length : Int) == (B.length : Int)) = true := by simp [hne]
    have z2 : ((A.length : Int) != (B.length : Int)) = false := by simp [hne]
    have z3 : (A.length != B.length) = false := by simp [hne]
    have HNE := Lib.hid hne
    obtain ⟨n, hn⟩ : ∃ n, n = B.length := ⟨_, rfl⟩
    clear hne
    go_enter Tryz.func111, Tryz.ntmps111
    go_wp2_with fail
    clear hn
    go_loopw [5] (fun i wr => ∃ k : Nat, k ≤ A.length ∧ i = .int .i64 k ∧ A.take k = B.take k ∧ Chg [] w wr) (fun i _ => A.length - (intOf i).toNat)
    case atStart => exact ⟨0, Nat.zero_le _, rfl, by simp, Chg.refl _ _⟩
    case round =>
      obtain ⟨k, hk, rfl, htk, hc⟩ := hrel
      have HT := Lib.hid htk
      have HC := Lib.hid hc
      clear htk hc
      by_cases hlt : k < A.length
      · have hltB : k < B.length := by have := HNE.out; omega
        obtain ⟨g, cap, hv, -, -, c0⟩ := int_cell (H1.out.kept HC.out (by simp)) k hlt
        simp only [Value.slice.injEq] at hv
        obtain ⟨rfl, -, rfl⟩ := hv
        obtain ⟨g2, cap2, hv2, -, -, d0⟩ := int_cell (H2.out.kept HC.out (by simp)) k hltB
        simp only [Value.slice.injEq] at hv2
        obtain ⟨rfl, -, rfl⟩ := hv2
        have hkI : (k : Int) < (A.length : Int) := by omega
        have hkB : (k : Int) < (B.length : Int) := by omega
        have hk0 : (0 : Int) ≤ (k : Int) := by omega
        by_cases he : A[k] = B[k]
        · have HS := Lib.hid (take_eq_succ hlt hltB HT.out he)
          rw [he] at c0
          generalize B[k] = x at *
          have z4 : (x == x) = true := by simp
          have z5 : (x != x) = false := by simp
          clear he
          go_wp2_with fail
          go_quiet (fail)
          go_wp2_with fail
          go_roundw
          case rel => exact ⟨k + 1, by omega, by go_num, HS.out, HC.out.drewN _⟩
          case measure => simp [intOf]; omega
        · have z4 : (A[k] == B[k]) = false := by simpa using he
          have z5 : (A[k] != B[k]) = true := by simpa using he
          have HR : Hid (decide (A = B) = false) := Lib.hid (by simp; intro e; subst e; exact he rfl)
          generalize A[k] = x at *
          generalize B[k] = y at *
          clear he
          go_wp2_with fail
          go_quiet (fail)
          go_wp2_with fail
          go_ret
          exact ⟨by rw [HR.out]; rfl, HC.out.drewN _⟩
      · obtain rfl : k = A.length := by omega
        have HR : Hid (decide (A = B) = true) := Lib.hid (by
          have h := HT.out
          rw [List.take_length, List.take_of_length_le (by have := HNE.out; omega)] at h
          simpa using h)
        go_wp2_with fail
        go_ret
        exact ⟨by rw [HR.out]; rfl, HC.out⟩
  · have z1 : ((A.length : Int) == (B.length : Int)) = false := by simp; omega
    have z2 : ((A.length : Int) != (B.length : Int)) = true := by simp; omega
    have z3 : (A.length != B.length) = true := by simpa using hne
    have HR : Hid (decide (A = B) = false) := Lib.hid (by simp; intro e; subst e; exact hne rfl)
    clear hne
    go_enter Tryz.func111, Tryz.ntmps111
    go_wp2_with fail
    go_ret
    exact ⟨by rw [HR.out]; rfl, Chg.refl _ _⟩

/-! the pages that are there -/
def rpagesTo (L : List RSlot) (k : Nat) : List Int := ((List.range k).filter (fun i => (Ref.slot L i).is)).map (fun (i : Nat) => (i : Int))
theorem rpagesTo_all (L : List RSlot) : rpagesTo L L.length = Ref.pages L := rfl
theorem rpagesTo_yes (L : List RSlot) (k : Nat) (h : (Ref.slot L k).is = true) : rpagesTo L (k + 1) = rpagesTo L k ++ [(k : Int)] := by
  unfold rpagesTo
  rw [List.range_succ, List.filter_append, List.map_append]
  simp [h]
theorem rpagesTo_no (L : List RSlot) (k : Nat) (h : (Ref.slot L k).is = false) : rpagesTo L (k + 1) = rpagesTo L k := by
  unfold rpagesTo
  rw [List.range_succ, List.filter_append, List.map_append]
  simp [h]
theorem rpagesTo_len (L : List RSlot) (k : Nat) : (rpagesTo L k).length ≤ k := by
  unfold rpagesTo
  rw [List.length_map]
  exact Nat.le_trans (List.length_filter_le _ _) (by simp)

set_option maxHeartbeats 2000000 in
theorem ref_pages {w : World} {v : Value} {L : List RSlot} (h : Own w 91 3 v L.length (slotCells L)) (hl : L.length ≤ 60000) :
    Calls Tryz.prog 142 #[v] w fun e w' => ∃ v', e = .returned v' ∧ Own w' 3 1 v' (Ref.pages L).length (ints (Ref.pages L)) ∧ Chg [] w w' := by
  obtain ⟨va, vc, rfl, hv1, hv2⟩ := h.shape
  have HO := Lib.hid h
  clear h
  go_enter Tryz.func142, Tryz.ntmps142
  go_wp2_with fail
  go_loopw [3, 4] (fun v i wr => ∃ k : Nat, k ≤ L.length ∧ i = .int .i64 k ∧ Own wr 3 1 v (rpagesTo L k).length (ints (rpagesTo L k)) ∧ Chg [] w wr ∧ ∀ g ∈ ownBlk v, w.heap.size ≤ g) (fun _ i _ => L.length - (intOf i).toNat)
  case atStart => exact ⟨0, Nat.zero_le _, rfl, Own.nil _ _ _, Chg.refl _ _, by simp [ownBlk]⟩
  case round =>
    obtain ⟨k, hk, rfl, hown, hc, hge⟩ := hrel
    obtain ⟨ad, c, rfl, hnc, hcm⟩ := hown.shape
    have hlen := rpagesTo_len L k
    have HP := Lib.hid hown
    have HC := Lib.hid hc
    have HG := Lib.hid hge
    clear hown hc hge
    by_cases hlt : k < L.length
    · obtain ⟨g, cap, hv, -, -, c0, -, -⟩ := slot_cells (HO.out.kept HC.out (by simp)) k hlt
      simp only [Value.slice.injEq] at hv
      obtain ⟨rfl, -, rfl⟩ := hv
      have hkI : (k : Int) < (L.length : Int) := by omega
      have hk0 : (k : Int) ≤ 60000 := by omega
      have HY := Lib.hid (rpagesTo_yes L k)
      have HN := Lib.hid (rpagesTo_no L k)
      have HSL := Lib.hid (Ref.slot_of hlt)
      obtain ⟨x, hx⟩ : ∃ x, L[k].is = x := ⟨_, rfl⟩
      rw [hx] at c0
      have HX := Lib.hid hx
      clear hx
      cases x with
      | true =>
        have hy : rpagesTo L (k + 1) = rpagesTo L k ++ [(k : Int)] := HY.out (by rw [HSL.out, HX.out])
        have HY2 := Lib.hid hy
        clear hy HY HN
        go_wp2_with (refine wpList_append rfl (.tmp 16) (.tmp 18) 52 52 rfl 3 1 8 (intV 0) Tryz.underlying52 info_int rfl (by omega) (.slice ad (rpagesTo L k).length c) (rpagesTo L k).length 1 _ _ rfl (HP.out.alloc _) (src_one Tryz.underlying52 wr _ rfl 3) (by omega) (by unfold maxLen; omega) ?_; intro ad' c' w2 hown2 hc2 hge2 hcm2 hkc2)
        have hln : (rpagesTo L (k + 1)).length = (rpagesTo L k).length + 1 := by rw [HY2.out]; simp
        have hint : ints (rpagesTo L (k + 1)) = ints (rpagesTo L k) ++ [intV k] := by rw [HY2.out]; simp [ints]
        have hown3 : Own w2 3 1 (.slice ad' ((rpagesTo L k).length + 1) c') (rpagesTo L (k + 1)).length (ints (rpagesTo L (k + 1))) := by
          rw [hln, hint]
          exact hown2
        have HO3 := Lib.hid hown3
        clear hln hint hown2 hown3
        go_roundw
        case rel =>
          refine ⟨k + 1, by omega, by go_num, HO3.out, (HC.out.alloc _).trans hc2 (fun g hg => .inr (HG.out g hg)), ?_⟩
          intro g hg
          rcases hge2 g hg with h | h
          · exact HG.out g h
          · exact Nat.le_trans (HC.out.alloc _).size h
        case measure => simp [intOf]; omega
      | false =>
        have hy : rpagesTo L (k + 1) = rpagesTo L k := HN.out (by rw [HSL.out, HX.out])
        have HY2 := Lib.hid hy
        clear hy HY HN
        go_wp2_with fail
        go_roundw
        case rel => exact ⟨k + 1, by omega, by go_num, by rw [HY2.out]; exact HP.out, HC.out, HG.out⟩
        case measure => simp [intOf]; omega
    · obtain rfl : k = L.length := by omega
      go_wp2_with fail
      go_ret
      exact ⟨_, rfl, HP.out, HC.out⟩

end Go.Proofs.YtjbpdgknhbnfgaaGreat

namespace Go.Proofs.YtjbpdgknhbnfgaaGreat
open Go.RowKit
set_option maxRecDepth 100000

/-- The document's store at b has become r'; its lists were its own before, or are new. -/
def RefTo (b : RefB) (w w' : World) (r' : Ref) : Prop := ∃ b', b'.p = b.p ∧ RefAt w' b' r' ∧ Chg [b.p] w w' ∧ ∀ k ∈ b'.set, k ∈ b.set ∨ w.heap.size ≤ k
theorem RefTo.same {b : RefB} {w w' : World} {r : Ref} (h : RefAt w b r) (hc : Chg [] w w') : RefTo b w w' r := ⟨b, rfl, h.kept0 hc, hc.mono (by simp), fun _ hk => .inl hk⟩
theorem RefTo.put {w w' : World} {b : RefB} {r : Ref} {v : Value} {L : List RSlot} (h : RefAt w b r) (ho : Own w' 91 3 v L.length (slotCells L)) (hc : Chg [] w w') (hn : ∀ k ∈ ownBlk v, w.heap.size ≤ k) :
    RefTo b w (w'.setCell ⟨b.p, 1, none⟩ v) { r with now := L } := by
  have h2 := h.kept0 hc
  have hlt := h.st.lt
  have hpv : b.p ∉ ownBlk v := fun hm => by have := hn _ hm; omega
  have hc2 : Chg [b.p] w' (w'.setCell ⟨b.p, 1, none⟩ v) := (Chg.refl _ _).setCell _ _ (.inl (by simp))
  refine ⟨{ b with nv := v }, rfl, ⟨h2.st.set 1 v, ho.other _ _ hpv, h2.o.other _ _ h.po, hpv, h.po⟩, (hc.mono (by simp)).trans1 hc2, fun k hk => ?_⟩
  simp only [RefB.set, List.mem_cons, List.mem_append] at hk ⊢
  rcases hk with hk | hk | hk
  · simp [hk]
  · exact .inr (hn k hk)
  · simp [hk]
structure RefOk (r : Ref) : Prop where
  n : r.now.length ≤ 512
  o : r.old.length ≤ 512
  m : 0 ≤ r.many ∧ r.many ≤ 60000

theorem Ref.hole_le (r : Ref) : r.hole ≤ r.now.length := List.findIdx_le_length
theorem Ref.at_hole (r : Ref) (k : Nat) (h : k ≤ r.hole) : r.at_ k = decide (k < r.hole) := by
  unfold Ref.at_
  rw [Int.toNat_natCast]
  have hle := r.hole_le
  by_cases hk : k < r.hole
  · have hl : k < r.now.length := by omega
    have := List.not_of_lt_findIdx (p := fun x : RSlot => !x.is) (xs := r.now) hk
    rw [Ref.slot_of hl]
    simp at this
    simp [hk, this]
    omega
  · obtain rfl : k = r.hole := by omega
    by_cases hl : r.hole < r.now.length
    · have hw := List.findIdx_getElem (w := (hl : r.now.findIdx (fun x => !x.is) < r.now.length))
      have e : Ref.slot r.now r.hole = r.now[r.hole] := Ref.slot_of hl
      have hw' : (!r.now[r.hole].is) = true := hw
      rw [e]
      simp at hw'
      simp [hw']
    · simp; omega

set_option maxHeartbeats 2000000 in
theorem ref_new {w : World} {b : RefB} {r : Ref} (h : RefAt w b r) (hok : RefOk r) (p : Bytes) (hp : p.length ≤ 60000) :
    Calls Tryz.prog 67 #[ptrV b.p, strV p] w fun e w' => e = .returned (.tuple #[intV (r.new p).1, intV (r.new p).2.1]) ∧ RefTo b w w' (r.new p).2.2 := by
  have HH := Lib.hid h
  obtain ⟨RES, hRES⟩ : ∃ RES, r.new p = RES := ⟨_, rfl⟩
  rw [hRES]
  unfold Ref.new at hRES
  by_cases hbig : 232 < p.length
  · rw [if_pos hbig] at hRES
    have HRES := Lib.hid hRES
    clear hRES
    have z1 : decide (232 < (p.length : Int)) = true := by simp; omega
    clear h hbig
    go_enter Tryz.func67, Tryz.ntmps67
    go_wp2_with fail
    go_ret2
    rw [← HRES.out]
    exact ⟨rfl, RefTo.same HH.out (Chg.refl _ _)⟩
  · rw [if_neg hbig] at hRES
    have HRES := Lib.hid hRES
    clear hRES
    have z1 : decide (232 < (p.length : Int)) = false := by simp; omega
    have hat := fun (k : Nat) (hk : k ≤ r.hole) => (by have := ref_at h (by have := hok.n; omega) k; rw [Ref.at_hole r k hk] at this; exact this : Calls Tryz.prog 139 #[ptrV b.p, intV k] w fun e w' => e = .returned (.bool (decide (k < r.hole))) ∧ w = w')
    have hfr := ref_free h (by have := hok.n; omega) (by have := hok.o; omega) hok.m
    have hhl := r.hole_le
    have hnl := hok.n
    have HAT := Lib.hid hat
    have HFR := Lib.hid hfr
    obtain ⟨hn, hhn⟩ : ∃ hn, r.hole = hn := ⟨_, rfl⟩
    rw [hhn] at HAT hhl HRES
    have hn5 : (hn : Int) ≤ 512 := by omega
    clear hat hfr hbig h hhn
    go_enter Tryz.func67, Tryz.ntmps67
    go_wp2_with fail
    go_loop [6] (fun i => ∃ k : Nat, k ≤ hn ∧ i = .int .i64 k) (fun i => hn - (intOf i).toNat)
    case atStart => exact ⟨0, Nat.zero_le _, rfl⟩
    case round =>
      obtain ⟨k, hk, rfl⟩ := hrel
      have hca := HAT.out k hk
      have hk5 : (k : Int) ≤ 512 := by omega
      by_cases hlt : k < hn
      · rw [show decide (k < hn) = true by simpa using hlt] at hca
        have HCA := Lib.hid hca
        clear hca HAT
        go_wp2_with (first | (go_at_call 139; (with_reducible refine HCA.out.mono ?_); rintro e w' ⟨rfl, rfl⟩))
        go_round
        case rel => exact ⟨k + 1, by omega, by go_num⟩
        case measure => simp [intOf]; omega
      · obtain rfl : hn = k := by omega
        rw [show decide (hn < hn) = false by simp] at hca
        have HCA := Lib.hid hca
        clear hca HAT hlt hk
        by_cases h512 : 512 ≤ hn
        · have hr := HRES.out
          rw [if_pos (.inl h512)] at hr
          have HR2 := Lib.hid hr
          clear hr HRES
          have z2 : decide (512 ≤ (hn : Int)) = true := by simp; omega
          clear h512
          go_wp2_with (first | (go_at_call 139; (with_reducible refine HCA.out.mono ?_); rintro e w' ⟨rfl, rfl⟩))
          go_ret2
          rw [← HR2.out]
          exact ⟨rfl, RefTo.same HH.out (Chg.refl _ _)⟩
        · have z2 : decide (512 ≤ (hn : Int)) = false := by simp; omega
          by_cases hfl : r.free < 1
          · have hr := HRES.out
            rw [if_pos (.inr hfl)] at hr
            have HR2 := Lib.hid hr
            have z3 : decide (r.free < 1) = true := by simpa using hfl
            clear hr HRES hfl h512
            go_wp2_with (first
              | (go_at_call 139; (with_reducible refine HCA.out.mono ?_); rintro e w' ⟨rfl, rfl⟩)
              | (go_at_call 73; (with_reducible refine HFR.out.mono ?_); rintro e w' ⟨rfl, nq, rfl⟩))
            go_ret2
            rw [← HR2.out]
            exact ⟨rfl, RefTo.same HH.out ((Chg.refl _ _).drewN _)⟩
          · have hr := HRES.out
            rw [if_neg (by omega)] at hr
            have HR2 := Lib.hid hr
            have z3 : decide (r.free < 1) = false := by simpa using hfl
            obtain ⟨na, nc, hnv, -, -⟩ := HH.out.n.shape
            have HFU : Hid (∀ wr : World, Calls Tryz.prog 43 #[strV p] wr fun e w' => e = .returned (strV (pad p)) ∧ Chg [] wr w') := Lib.hid fun wr => ref_full p wr hp
            have HSE : Hid (∀ wr : World, Chg [] w wr → Calls Tryz.prog 140 #[b.nv, intV hn, .agg #[.bool true, .bool true, strV (pad p)]] wr fun e w' => ∃ v', e = .returned v' ∧ Own w' 91 3 v' (Ref.setL r.now hn ⟨true, true, pad p⟩).length (slotCells (Ref.setL r.now hn ⟨true, true, pad p⟩)) ∧ Chg [] wr w' ∧ ∀ k ∈ ownBlk v', wr.heap.size ≤ k) :=
              Lib.hid fun wr hc => ref_set (HH.out.kept0 hc).n (by omega) hn (by omega) ⟨true, true, pad p⟩
            have HK1 : Hid (∀ w' : World, Chg [] w w' → w'.cell? ⟨b.p, 1, none⟩ = some b.nv) := Lib.hid fun w' hc => (HH.out.kept0 hc).st.cell 1
            have HF1 : Hid (∀ w' : World, Chg [] w w' → w'.frozen? ⟨b.p, 1, none⟩ = false) := Lib.hid fun w' hc => (HH.out.kept0 hc).st.free 1
            have HFIN : Hid (∀ (w' : World) (v : Value), Own w' 91 3 v (Ref.setL r.now hn ⟨true, true, pad p⟩).length (slotCells (Ref.setL r.now hn ⟨true, true, pad p⟩)) → Chg [] w w' → (∀ k ∈ ownBlk v, w.heap.size ≤ k) → RefTo b w (w'.setCell ⟨b.p, 1, none⟩ v) { r with now := Ref.setL r.now hn ⟨true, true, pad p⟩ }) := Lib.hid fun w' v h1 h2 h3 => RefTo.put HH.out h1 h2 h3
            rw [hnv] at HSE HK1
            clear hr HRES hfl h512 hhl hnl hp
            go_wp2_with (first
              | (go_at_call 139; (with_reducible refine HCA.out.mono ?_); rintro e w' ⟨rfl, rfl⟩)
              | (go_at_call 73; (with_reducible refine HFR.out.mono ?_); rintro e w' ⟨rfl, nq, rfl⟩))
            have C0 : Hid (Chg [] w (w.drewN nq)) := Lib.hid ((Chg.refl _ _).drewN _)
            clear HCA HFR
            obtain ⟨w0, hw0⟩ : ∃ w0, w.drewN nq = w0 := ⟨_, rfl⟩
            rw [hw0] at C0
            rw [hw0]
            clear hw0
            have k1 := HK1.out w0.drew (C0.out.drew)
            refine wp_region_late (fun w' => w'.cell? ⟨b.p, 1, none⟩ = some (.slice na r.now.length nc)) (fun j => decide (10 ≤ j)) (by kernel_rfl) 13 rfl ?_
            refine wpAnyL_pure (v := ?v0) 0 22 rfl rfl (by kernel_rfl) (by kernel_rfl) (by kernel_rfl) (by rfl) (fun _ _ _ h => h) ?hy0 ?rest0
            case hy0 => intro w; go_simp; with_reducible rfl
            simp only [List.setIfInBounds_toArray, List.set_cons_zero, List.set_cons_succ]
            refine wpAnyL_pure (v := ?v1) 1 23 rfl rfl (by kernel_rfl) (by kernel_rfl) (by kernel_rfl) (by rfl) (fun _ _ _ h => h) ?hy1 ?rest1
            case hy1 => intro w; go_simp; with_reducible rfl
            simp only [List.setIfInBounds_toArray, List.set_cons_zero, List.set_cons_succ]
            refine wpAnyL_pure (v := ?v2) 2 24 rfl rfl (by kernel_rfl) (by kernel_rfl) (by kernel_rfl) (by rfl) (fun _ _ _ h => h) ?hy2 ?rest2
            case hy2 => intro w; go_simp; with_reducible rfl
            simp only [List.setIfInBounds_toArray, List.set_cons_zero, List.set_cons_succ]
            refine wpAnyL_pure (v := ?v3) 3 25 rfl rfl (by kernel_rfl) (by kernel_rfl) (by kernel_rfl) (by rfl) (fun _ _ _ h => h) ?hy3 ?rest3
            case hy3 => intro w; go_simp; with_reducible rfl
            simp only [List.setIfInBounds_toArray, List.set_cons_zero, List.set_cons_succ]
            refine wpAnyL_load (v := ?v4) 4 26 rfl rfl (by kernel_rfl) (by kernel_rfl) (by kernel_rfl) (by kernel_rfl) (by rfl) (fun _ _ _ h => h) k1 ?hy4 ?rest4
            case hy4 => intro w hS; obtain s1 := hS; go_simp; with_reducible rfl
            simp only [List.setIfInBounds_toArray, List.set_cons_zero, List.set_cons_succ]
            refine wpAnyL_pure (v := ?v5) 5 27 rfl rfl (by kernel_rfl) (by kernel_rfl) (by kernel_rfl) (by rfl) (fun _ _ _ h => h) ?hy5 ?rest5
            case hy5 => intro w; go_simp; with_reducible rfl
            simp only [List.setIfInBounds_toArray, List.set_cons_zero, List.set_cons_succ]
            refine wpAnyL_pure (v := ?v6) 6 28 rfl rfl (by kernel_rfl) (by kernel_rfl) (by kernel_rfl) (by rfl) (fun _ _ _ h => h) ?hy6 ?rest6
            case hy6 => intro w; go_simp; with_reducible rfl
            simp only [List.setIfInBounds_toArray, List.set_cons_zero, List.set_cons_succ]
            refine wpAnyL_call (f := 43) (args := #[strV p]) 7 29 rfl rfl (by kernel_rfl) (by rfl) ?hr7 (fun v w' => v = strV (pad p) ∧ Chg [] w0.drew w') ?hc7 ?rest7
            case hr7 => go_simp
            case hc7 => exact (HFU.out _).mono fun e w' ⟨h1, h2⟩ => ⟨_, h1, rfl, h2⟩
            rintro v7 w7 ⟨rfl, c7⟩
            have k7 := HK1.out w7 (C0.out.drew.trans0 c7)
            refine ⟨fun _ _ => k7, ?_⟩
            simp only [List.setIfInBounds_toArray, List.set_cons_zero, List.set_cons_succ]
            refine wpAnyL_pure (v := ?v8) 8 30 rfl rfl (by kernel_rfl) (by kernel_rfl) (by kernel_rfl) (by rfl) (fun _ _ _ h => h) ?hy8 ?rest8
            case hy8 => intro w; go_simp; with_reducible rfl
            simp only [List.setIfInBounds_toArray, List.set_cons_zero, List.set_cons_succ]
            refine wpAnyL_call (f := 140) (args := #[.slice na r.now.length nc, intV hn, .agg #[.bool true, .bool true, strV (pad p)]]) 9 31 rfl rfl (by kernel_rfl) (by rfl) ?hr9 (fun v w' => ∃ a c, v = .slice a (Ref.setL r.now hn ⟨true, true, pad p⟩).length c ∧ Own w' 91 3 v (Ref.setL r.now hn ⟨true, true, pad p⟩).length (slotCells (Ref.setL r.now hn ⟨true, true, pad p⟩)) ∧ Chg [] w7 w' ∧ ∀ k ∈ ownBlk v, w7.heap.size ≤ k) ?hc9 ?rest9
            case hr9 => go_simp
            case hc9 => exact (HSE.out w7 (C0.out.drew.trans0 c7)).mono fun e w' ⟨v, h1, h2, h3, h4⟩ => (by obtain ⟨a, c, h5, -, -⟩ := h2.shape; exact ⟨v, h1, a, c, h5, h2, h3, h4⟩)
            rintro v9 w9 ⟨a9, n9, rfl, o9, c9, m9⟩
            have C9 := Lib.hid ((C0.out.drew.trans0 c7).trans0 c9)
            have k9 := HK1.out w9 C9.out
            have z9 := HF1.out w9 C9.out
            refine ⟨fun _ _ => k9, ?_⟩
            have HF := Lib.hid (HFIN.out w9 _ o9 C9.out (fun k hk => Nat.le_trans (C0.out.drew.trans0 c7).size (m9 k hk)))
            clear o9 m9 c9 k7
            simp only [List.setIfInBounds_toArray, List.set_cons_zero, List.set_cons_succ]
            refine wpAnyL_pure (v := ?v10) 10 32 rfl rfl (by kernel_rfl) (by kernel_rfl) (by kernel_rfl) (by rfl) (fun _ _ _ h => h) ?hy10 ?rest10
            case hy10 => intro w; go_simp; with_reducible rfl
            simp only [List.setIfInBounds_toArray, List.set_cons_zero, List.set_cons_succ]
            refine wpAnyL_pure (v := ?v11) 11 33 rfl rfl (by kernel_rfl) (by kernel_rfl) (by kernel_rfl) (by rfl) (fun _ _ _ h => h) ?hy11 ?rest11
            case hy11 => intro w; go_simp; with_reducible rfl
            simp only [List.setIfInBounds_toArray, List.set_cons_zero, List.set_cons_succ]
            refine wpAnyL_store (w' := ?w12) 12 rfl rfl (by kernel_rfl) (by rfl) rfl ?hs12 ?rest12
            case hs12 => go_simp; with_reducible rfl
            refine wpAnyL_done (by kernel_rfl) ?_
            go_wp2_with fail
            go_ret2
            rw [← HR2.out]
            exact ⟨rfl, HF.out⟩

end Go.Proofs.YtjbpdgknhbnfgaaGreat
