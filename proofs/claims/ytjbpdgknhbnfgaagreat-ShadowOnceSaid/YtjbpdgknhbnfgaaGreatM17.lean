/- A part of the walks of the program's functions, each a contract that its caller uses; no condition but what each theorem names. The walks of chain.Get, Pages, Drop. The walk of chain.Drop. The walks of chain.Put's closure and of chain.Put where the value is too great. The walk of chain.Put where there is room. The walk of chain.Put where there is no room. Bytes made of a string: their row bears the run-time's mark behind its end; append onto them, and back to a string. The document's store (reference 14) in memory; the walks of Full, at, set. -/
import Derived.Test.YtjbpdgknhbnfgaaGreatM16

namespace Go.Proofs.YtjbpdgknhbnfgaaGreat
open Go.RowKit
set_option maxRecDepth 100000

theorem chain_get_ok {w : World} {b : PoolB} {A : Pages} {f : Nat} (h : PoolIs w b A f) (r : List Link) (hr : Chain A r) (hne : r ≠ []) (h5 : r.length ≤ 5) (hb : (cbytes r).length ≤ 1024) (first : Int) (hf : nxt r = first) :
    Calls Tryz.prog 66 #[ptrV b.p, intV first] w fun e w' => e = .returned (.tuple #[strV (cbytes r), intV 0]) ∧ PoolIs w' b A f ∧ Chg b.set w w' := by
  have HW := Lib.hid (chain_walk_ok h r hr hne h5 hb first hf)
  clear h hr hne h5 hb hf
  generalize cbytes r = cb at *
  generalize cpages r = cp at *
  go_enter Tryz.func66, Tryz.ntmps66
  go_wp2_with (first
    | (go_at_call 138; with_reducible refine HW.out.mono ?_; rintro e w1 ⟨lv, bv, rfl, hw⟩; have H1 := Lib.hid hw; clear hw))
  go_ret2
  exact ⟨rfl, H1.out.pool, H1.out.chg⟩

theorem chain_pages_ok {w : World} {b : PoolB} {A : Pages} {f : Nat} (h : PoolIs w b A f) (r : List Link) (hr : Chain A r) (hne : r ≠ []) (h5 : r.length ≤ 5) (hb : (cbytes r).length ≤ 1024) (first : Int) (hf : nxt r = first) :
    Calls Tryz.prog 131 #[ptrV b.p, intV first] w fun e w' => ∃ lv, e = .returned (.tuple #[lv, intV 0]) ∧ Own w' 3 1 lv (cpages r).length (ints (cpages r)) ∧ PoolIs w' b A f ∧ Chg b.set w w' := by
  have HW := Lib.hid (chain_walk_ok h r hr hne h5 hb first hf)
  clear h hr hne h5 hb hf
  generalize cbytes r = cb at *
  generalize cpages r = cp at *
  go_enter Tryz.func131, Tryz.ntmps131
  go_wp2_with (first
    | (go_at_call 138; with_reducible refine HW.out.mono ?_; rintro e w1 ⟨lv, bv, rfl, hw⟩; have H1 := Lib.hid hw; clear hw))
  go_ret2
  exact ⟨lv, rfl, H1.out.l, H1.out.pool, H1.out.chg⟩

end Go.Proofs.YtjbpdgknhbnfgaaGreat

namespace Go.Proofs.YtjbpdgknhbnfgaaGreat
open Go.RowKit
set_option maxRecDepth 100000

def dropAll (A : Pages) (ps : List Int) : Pages := ps.foldl (fun A l => A.set l.toNat none) A
theorem dropAll_snoc (A : Pages) (ps : List Int) (l : Int) : dropAll A (ps ++ [l]) = (dropAll A ps).set l.toNat none := by simp [dropAll]
theorem dropAll_lookup : ∀ (ps : List Int) (A : Pages), (∀ p ∈ ps, 0 ≤ p) → ∀ l, lookup (dropAll A ps) l = if l ∈ ps then none else lookup A l
  | [], A, _, l => by simp [dropAll]
  | p :: ps, A, h, l => by
    have ih := dropAll_lookup ps (A.set p.toNat none) (fun q hq => h q (by simp [hq])) l
    have h0 := h p (by simp)
    show lookup (dropAll (A.set p.toNat none) ps) l = _
    rw [ih, lookup_set]
    by_cases h1 : l ∈ ps
    · rw [if_pos h1, if_pos (by simp [h1])]
    · rw [if_neg h1]
      by_cases h2 : l = p
      · rw [if_pos (by omega), if_pos (by simp [h2])]
      · rw [if_neg (by omega), if_neg (by simp [h1, h2])]
theorem dropAll_length (ps : List Int) (A : Pages) : (dropAll A ps).length = A.length := by
  induction ps generalizing A with
  | nil => rfl
  | cons p ps ih =>
    show (dropAll (A.set p.toNat none) ps).length = _
    rw [ih, List.length_set]

theorem pool_drop_at {w : World} {b : PoolB} {A : Pages} {f : Nat} (h : PoolIs w b A f) (l : Int) {bs : Bytes} (ha : lookup A l = some bs) :
    Calls Tryz.prog 58 #[ptrV b.p, intV l] w fun e w' => e = .returned (intV 0) ∧ PoolTo b w w' (A.set l.toNat none) (f + 1) := by
  obtain ⟨i, rfl, -⟩ := lookup_some ha
  rw [Int.toNat_natCast]
  exact pool_drop_yes h i ha

structure DropSt (w wr : World) (b : PoolB) (A : Pages) (f : Nat) (lv : Value) (ps : List Int) (k : Nat) : Prop where
  pool : PoolTo b w wr (dropAll A (ps.take k)) (f + k)
  l : Own wr 3 1 lv ps.length (ints ps)
  ap : ∀ x ∈ ownBlk lv, x ∉ b.set ∧ x < w.heap.size

theorem DropSt.step {w wr w2 : World} {b : PoolB} {A : Pages} {f : Nat} {lv : Value} {ps : List Int} {k : Nat} {sb : StoreB} {p : Int} (h : DropSt w wr b A f lv ps k) (g : Grew b.set (PoolB.set { b with s := sb }) w wr)
    (hk : k < ps.length) (hp : ps[k] = p) (h2 : PoolTo { b with s := sb } wr w2 ((dropAll A (ps.take k)).set p.toNat none) (f + k + 1)) : DropSt w w2 b A f lv ps (k + 1) := by
  obtain ⟨sb2, p2, g2⟩ := h2
  refine ⟨⟨sb2, ?_, g.trans g2⟩, h.l.kept g2.chg (fun x hx hm => ?_), h.ap⟩
  · rw [List.take_succ_eq_append_getElem hk, dropAll_snoc, hp]
    exact p2
  · have h1 := h.ap x hx
    rcases g.from_ x hm with h3 | h3
    · exact h1.1 h3
    · omega

set_option maxHeartbeats 1000000 in
theorem chain_drop_ok {w : World} {b : PoolB} {A : Pages} {f : Nat} (h : PoolIs w b A f) (r : List Link) (hr : Chain A r) (hne : r ≠ []) (h5 : r.length ≤ 5) (hb : (cbytes r).length ≤ 1024) (hnd : (cpages r).Nodup) (first : Int) (hf : nxt r = first) :
    Calls Tryz.prog 65 #[ptrV b.p, intV first] w fun e w' => e = .returned (intV 0) ∧ PoolTo b w w' (dropAll A (cpages r)) (f + (cpages r).length) := by
  have HW := Lib.hid (chain_walk_ok h r hr hne h5 hb first hf)
  have hth := hr.there
  have HO := Lib.hid h.lt
  have hcl : (cpages r).length ≤ 5 := by simpa [cpages] using h5
  clear h hr hne h5 hb hf
  generalize cbytes r = cb at *
  generalize cpages r = ps at *
  have HTH : Hid (∀ k (hk : k < ps.length), ∃ bs, lookup (dropAll A (ps.take k)) ps[k] = some bs) := Lib.hid fun k hk => by
    obtain ⟨bs, hbs⟩ := hth ps[k] (List.getElem_mem hk)
    refine ⟨bs, ?_⟩
    rw [dropAll_lookup, if_neg, hbs]
    · intro hm
      have := List.take_append_drop k ps
      rw [← this, List.nodup_append] at hnd
      have hd : ps[k] ∈ ps.drop k := by
        rw [List.drop_eq_getElem_cons hk]
        exact List.mem_cons_self
      exact hnd.2.2 _ hm _ hd rfl
    · intro p hp
      obtain ⟨bs', hb'⟩ := hth p (List.mem_of_mem_take hp)
      exact lookup_nonneg hb'
  clear hth hnd
  go_enter Tryz.func65, Tryz.ntmps65
  go_wp2_with (first
    | (go_at_call 138; with_reducible refine HW.out.mono ?_; rintro e w1 ⟨lv, bv, rfl, hw⟩; obtain ⟨la, lc, rfl, hla, hlc⟩ := hw.l.shape; have H1 := Lib.hid hw; clear hw))
  have HST : Hid (DropSt w1 w1 b A f (.slice la ps.length lc) ps 0) := Lib.hid ⟨⟨b.s, H1.out.pool, Grew.same (Chg.refl _ _) H1.out.pool.lt⟩, H1.out.l, fun x hx => ⟨fun hm => by have := H1.out.nl x hx; have := HO.out x hm; omega, H1.out.l.lt x hx⟩⟩
  go_loopw [23] (fun i wr => ∃ k : Nat, k ≤ ps.length ∧ i = .int .i64 k ∧ DropSt w1 wr b A f (.slice la ps.length lc) ps k) (fun i _ => ps.length - (intOf i).toNat)
  case atStart => exact ⟨0, Nat.zero_le _, rfl, HST.out⟩
  case round =>
    obtain ⟨k, hk, rfl, hs⟩ := hrel
    by_cases hlt : k < ps.length
    · obtain ⟨g, cap, cur, hv, -, -⟩ := hs.l.pos (by omega)
      have hcell := hs.l.cell hv hlt
      simp at hv
      obtain ⟨rfl, rfl⟩ := hv
      obtain ⟨bs, hbs⟩ := HTH.out k hlt
      obtain ⟨p, hp⟩ : ∃ p, ps[k] = p := ⟨_, rfl⟩
      rw [hp] at hbs
      have k0 : wr.cell? ⟨g, k, none⟩ = some (intV p) := by
        rw [hcell.1, ints_get, List.getElem?_eq_getElem hlt, hp]
        rfl
      have HS := Lib.hid hs
      obtain ⟨sb, p1, g1⟩ := hs.pool
      have HD : Hid (Calls Tryz.prog 58 #[ptrV b.p, intV p] wr fun e w' => e = .returned (intV 0) ∧ PoolTo { b with s := sb } wr w' ((dropAll A (ps.take k)).set p.toNat none) (f + k + 1)) := Lib.hid (pool_drop_at p1 p hbs)
      have HP := Lib.hid hp
      have HLT := Lib.hid hlt
      have G1 := Lib.hid g1
      have hltI : (k : Int) < (ps.length : Int) := by omega
      clear hs p1 hbs hp hcell g1
      go_wp2_with (first
        | (go_at_call 58; with_reducible refine HD.out.mono ?_; rintro e w2 ⟨rfl, h2⟩; have H2 := Lib.hid (HS.out.step G1.out HLT.out HP.out h2); clear h2))
      go_roundw
      case rel => exact ⟨k + 1, by have := HLT.out; omega, by go_num, H2.out⟩
      case measure => have := HLT.out; simp [intOf]; omega
    · obtain rfl : k = ps.length := by omega
      have HS := Lib.hid hs
      clear hs
      go_wp2_with fail
      go_ret
      obtain ⟨sb, p1, g1⟩ := HS.out.pool
      rw [List.take_length] at p1
      exact ⟨rfl, sb, p1, (Grew.same H1.out.chg HO.out).trans g1⟩

end Go.Proofs.YtjbpdgknhbnfgaaGreat

namespace Go.Proofs.YtjbpdgknhbnfgaaGreat
open Go.RowKit
set_option maxRecDepth 100000
attribute [local go_sem ↓] cut2_any

theorem chain_put1 {w : World} {g : Nat} {T : TypeId} (v : Bytes) (hb : Blk w g T [strV v]) (i : Nat) (hi : i * 228 ≤ v.length) (hl : v.length ≤ 60000) :
    Calls Tryz.prog 136 #[intV i, ptrV g] w fun e w' => e = .returned (strV (piece v i)) ∧ w = w' := by
  have c0 := hb.cell 0
  simp at c0
  clear hb
  have hi2 : (i : Int) * 228 ≤ (v.length : Int) := by omega
  have hiN : (i : Int) ≤ 60000 := by omega
  by_cases hc : (i + 1) * 228 ≤ v.length
  · have hin : InStr2 (strV v) (.int .i64 ((i : Int) * 228)) (.int .i64 (((i : Int) + 1) * 228)) := ⟨v, i * 228, (i + 1) * 228, rfl, by rw [Int.natCast_mul]; rfl, by rw [Int.natCast_mul]; rfl, by omega, hc⟩
    have hcut : cut2 (strV v) (.int .i64 ((i : Int) * 228)) (.int .i64 (((i : Int) + 1) * 228)) = strV (piece v i) := by
      rw [cut2_str, show (((i : Int) + 1) * 228).toNat = i * 228 + 228 by omega, show ((i : Int) * 228).toNat = i * 228 by omega]
      unfold piece
      rw [List.drop_take, show i * 228 + 228 - i * 228 = 228 by omega]
    have hc2 : ((i : Int) + 1) * 228 ≤ (v.length : Int) := by omega
    have HV := Lib.hid hcut
    clear hc hcut
    go_enter Tryz.func136, Tryz.ntmps136
    go_wp2_with fail
    go_ret
    exact ⟨by rw [← HV.out]; rfl, rfl⟩
  · have hin : InStr2 (strV v) (.int .i64 ((i : Int) * 228)) (.int .i64 (v.length : Int)) := ⟨v, i * 228, v.length, rfl, by rw [Int.natCast_mul]; rfl, rfl, hi, Nat.le_refl _⟩
    have hcut : cut2 (strV v) (.int .i64 ((i : Int) * 228)) (.int .i64 (v.length : Int)) = strV (piece v i) := by
      rw [cut2_str, show ((i : Int) * 228).toNat = i * 228 by omega, Int.toNat_natCast, List.take_length]
      unfold piece
      rw [List.take_of_length_le (by simp; omega)]
    have hc2 : (v.length : Int) < ((i : Int) + 1) * 228 := by omega
    have HV := Lib.hid hcut
    clear hc hcut
    go_enter Tryz.func136, Tryz.ntmps136
    go_wp2_with fail
    go_ret
    exact ⟨by rw [← HV.out]; rfl, rfl⟩

theorem chain_put_big {w : World} (p : Nat) (v : Bytes) (h1 : 1024 < v.length) (h2 : v.length ≤ 60000) :
    Calls Tryz.prog 64 #[ptrV p, strV v] w fun e w' => e = .returned (.tuple #[intV 0, intV 4]) ∧ Chg [] w w' := by
  go_enter Tryz.func64, Tryz.ntmps64
  go_wp2_with fail
  go_ret2
  exact ⟨rfl, (Chg.refl _ _).alloc _⟩

/-- What lies in memory while chain.Put makes its pages. -/
structure ChPut (w wr : World) (b : PoolB) (sb : StoreB) (g : Nat) (v : Bytes) (A : Pages) (f : Nat) (mv : Value) (ps : List Int) : Prop where
  pool : PoolIs wr { b with s := sb } A f
  grew : Grew b.set (PoolB.set { b with s := sb }) w wr
  l : Own wr 3 1 mv ps.length (ints ps)
  box : Blk wr g 9 [strV v]
  nl : ∀ x ∈ ownBlk mv, w.heap.size ≤ x
  ap : ∀ x ∈ ownBlk mv, x ∉ PoolB.set { b with s := sb }
  gn : g ∉ b.set ∧ g < w.heap.size

theorem ChPut.gset {w wr : World} {b : PoolB} {sb : StoreB} {g : Nat} {v : Bytes} {A : Pages} {f : Nat} {mv : Value} {ps : List Int} (h : ChPut w wr b sb g v A f mv ps) : g ∉ PoolB.set { b with s := sb } := fun hm => by
  rcases h.grew.from_ g hm with h1 | h1
  · exact h.gn.1 h1
  · have := h.gn.2; omega
theorem ChPut.on0 {w wr w2 : World} {b : PoolB} {sb : StoreB} {g : Nat} {v : Bytes} {A : Pages} {f : Nat} {mv : Value} {ps : List Int} (h : ChPut w wr b sb g v A f mv ps) (hc : Chg [] wr w2) : ChPut w w2 b sb g v A f mv ps :=
  ⟨h.pool.kept0 hc, ⟨h.grew.chg.trans0 hc, fun k hk => Nat.lt_of_lt_of_le (h.grew.lt k hk) hc.size, h.grew.from_⟩, h.l.kept hc (by simp), h.box.kept hc (by simp), h.nl, h.ap, h.gn⟩
theorem ChPut.onPool {w wr w2 : World} {b : PoolB} {sb : StoreB} {g : Nat} {v : Bytes} {A A2 : Pages} {f f2 : Nat} {mv : Value} {ps : List Int} (h : ChPut w wr b sb g v A f mv ps) (h2 : PoolTo { b with s := sb } wr w2 A2 f2) :
    ∃ sb2, ChPut w w2 b sb2 g v A2 f2 mv ps := by
  obtain ⟨sb2, p2, g2⟩ := h2
  refine ⟨sb2, p2, h.grew.trans g2, h.l.kept g2.chg (fun x hx hm => h.ap x hx hm), h.box.kept g2.chg h.gset, h.nl, fun x hx hm => ?_, h.gn⟩
  rcases g2.from_ x hm with h3 | h3
  · exact h.ap x hx h3
  · have := h.l.lt x hx; omega
theorem ChPut.onList {w wr w2 : World} {b : PoolB} {sb : StoreB} {g : Nat} {v : Bytes} {A : Pages} {f : Nat} {mv mv' : Value} {ps : List Int} {l : Int} (h : ChPut w wr b sb g v A f mv ps)
    (hown : Own w2 3 1 mv' (ps.length + 1) (ints ps ++ [intV l])) (hc : Chg (ownBlk mv) wr w2) (hg : ∀ k ∈ ownBlk mv', k ∈ ownBlk mv ∨ wr.heap.size ≤ k) : ChPut w w2 b sb g v A f mv' (ps ++ [l]) := by
  have hlt := h.pool.lt
  have hs := h.grew.chg.size
  refine ⟨h.pool.kept hc fun k hk hm => h.ap k hm hk, ⟨h.grew.chg.trans hc fun x hx => .inr (h.nl x hx), fun k hk => Nat.lt_of_lt_of_le (h.grew.lt k hk) hc.size, h.grew.from_⟩, ?_, h.box.kept hc fun hm => by have := h.nl _ hm; have := h.gn.2; omega, fun x hx => ?_, fun x hx hm => ?_, h.gn⟩
  · rw [List.length_append, show ints (ps ++ [l]) = ints ps ++ [intV l] by simp [ints]]
    exact hown
  · rcases hg x hx with h1 | h1
    · exact h.nl x h1
    · omega
  · rcases hg x hx with h1 | h1
    · exact h.ap x h1 hm
    · have := hlt x hm; omega
theorem ChPut.start {w : World} {b : PoolB} {A : Pages} {f : Nat} (h : PoolIs w b A f) (v : Bytes) : ChPut (w.alloc (.cells #[strV v] 9)) (w.alloc (.cells #[strV v] 9)) b b.s w.heap.size v A f (.slice none 0 0) [] := by
  have h0 := h.kept0 ((Chg.refl [] w).alloc (.cells #[strV v] 9))
  refine ⟨h0, Grew.same (Chg.refl _ _) h0.lt, Own.nil _ _ _, Blk.new w _ _, by simp [ownBlk], by simp [ownBlk], fun hm => absurd (h.lt _ hm) (Nat.lt_irrefl _), by simp⟩

end Go.Proofs.YtjbpdgknhbnfgaaGreat

namespace Go.Proofs.YtjbpdgknhbnfgaaGreat
open Go.RowKit
set_option maxRecDepth 100000
attribute [local go_sem ↓] add_str9
attribute [local go_sem] strOf_strV

set_option maxHeartbeats 2000000 in
theorem chain_put_ok {w : World} {b : PoolB} {A : Pages} {f : Nat} (h : PoolIs w b A f) (v : Bytes) (hv : v.length ≤ 1024) (hA : A.length ≤ 500) (hf : chainNeed v.length ≤ f) :
    Calls Tryz.prog 64 #[ptrV b.p, strV v] w fun e w' => e = .returned (.tuple #[intV (nxt (laid v (chainNeed v.length) A (chainNeed v.length)).2), intV 0]) ∧
      PoolTo b w w' (laid v (chainNeed v.length) A (chainNeed v.length)).1 (f - chainNeed v.length) := by
  have HS := Lib.hid (ChPut.start h v)
  have hneed := fun (wr : World) => chain_need v.length wr (by omega)
  have hk1 : 1 ≤ chainNeed v.length ∧ chainNeed v.length ≤ 5 ∧ (chainNeed v.length - 1) * 228 ≤ v.length := by unfold chainNeed; omega
  have hlo := fun j (hj : j ≤ 5) => laid_ok v (chainNeed v.length) A j (by omega)
  have HO := Lib.hid h.lt
  generalize chainNeed v.length = k at *
  obtain ⟨hk1, hk5, hkv⟩ := hk1
  have HN := Lib.hid hneed
  have HLO := Lib.hid hlo
  clear h hneed hlo
  go_enter Tryz.func64, Tryz.ntmps64
  have hmf : ∀ (fn : Fn) (first cap : Array Value) (w : World), (Instr.makeFunc fn first cap).run Tryz.prog w = .ok (.func fn first cap) w := fun _ _ _ _ => rfl
  go_wp2_with (first
    | (go_at_call 132; with_reducible refine (HN.out _).mono ?_; rintro e w1 ⟨rfl, rfl⟩))
  go_loopw [7, 8, 9] (fun mv nx i wr => ∃ (j : Nat) (x y : Int) (sb : StoreB), j ≤ k ∧ x = nxt (laid v k A j).2 ∧ nx = intV x ∧ y = (k : Int) - 1 - j ∧ i = .int .i64 y ∧
    ChPut (w.alloc (.cells #[strV v] 9)) wr b sb w.heap.size v (laid v k A j).1 (f - j) mv (cpages (laid v k A j).2).reverse) (fun _ _ i _ => (intOf i + 1).toNat)
  case atStart => exact ⟨0, -1, (k : Int) - 1, b.s, Nat.zero_le _, rfl, rfl, by omega, rfl, HS.out⟩
  case round =>
    obtain ⟨j, x, y, sb, hj, hx, rfl, hy, rfl, hs⟩ := hrel
    by_cases hlt : j < k
    · obtain ⟨i, hi⟩ : ∃ i : Nat, i = k - 1 - j := ⟨_, rfl⟩
      obtain rfl : y = (i : Int) := by omega
      have hlo := HLO.out j (by omega)
      have hnx := hlo.chain.nxt_bd
      have hlen := hlo.len
      have hstep : laid v k A (j + 1) = (addPage (laid v k A j).1 (pad (linkBytes x (piece v i))), (((holeOf (laid v k A j).1 : Nat) : Int), piece v i) :: (laid v k A j).2) := by
        rw [hx, hi]
        rfl
      rw [← hx] at hnx
      have hclo := chain_put1 v hs.box i (by have : i * 228 ≤ (k - 1) * 228 := Nat.mul_le_mul_right _ (by omega)
                                             omega) (by omega)
      have hpl := piece_length v i
      have hhole := holeOf_le (laid v k A j).1
      have hnew := fun (wr : World) (sb : StoreB) (hp : PoolIs wr { b with s := sb } (laid v k A j).1 (f - j)) => (show Calls Tryz.prog 53 #[ptrV b.p, strV (two (x + 1) ++ (two (piece v i).length ++ piece v i))] wr fun e w' => e = .returned (.tuple #[intV (holeOf (laid v k A j).1), intV 0]) ∧
          PoolTo { b with s := sb } wr w' (addPage (laid v k A j).1 (pad (linkBytes x (piece v i)))) (f - (j + 1)) by
        have e1 : f - j = (f - (j + 1)) + 1 := by omega
        rw [e1] at hp
        have := pool_new_ok hp (linkBytes x (piece v i)) (by simp [linkBytes, two]; omega) (by omega)
        exact this)
      have hps : (cpages ((((holeOf (laid v k A j).1 : Nat) : Int), piece v i) :: (laid v k A j).2)).reverse = (cpages (laid v k A j).2).reverse ++ [((holeOf (laid v k A j).1 : Nat) : Int)] := by simp [cpages]
      have hpsl : (cpages (laid v k A j).2).reverse.length ≤ 5 := by
        rw [List.length_reverse]
        have := hlo.many
        simp only [cpages, List.length_map]
        omega
      obtain ⟨hlx, hhx⟩ : ∃ h, h = holeOf (laid v k A j).1 := ⟨_, rfl⟩
      rw [← hhx] at hstep hnew hps hhole
      clear hhx
      generalize laid v k A j = s at *
      generalize piece v i = pc at *
      generalize (cpages s.2).reverse = ps at *
      have hib : (i : Int) ≤ 4 := by omega
      have hib0 : (0 : Int) ≤ (i : Int) := by omega
      have HST := Lib.hid hstep
      have HCL := Lib.hid hclo
      have HNW := Lib.hid hnew
      have HPS := Lib.hid hps
      have HJ := Lib.hid hlt
      have HP := Lib.hid hs
      have HI := Lib.hid hi
      have i1 : IsStr (strV (two (x + 1))) := IsStr.mk' (by simp [two])
      have i2 : IsStr (strV (two pc.length)) := IsStr.mk' (by simp [two])
      have i3 : IsStr (strV (two (x + 1) ++ two pc.length)) := IsStr.mk' (by simp [two])
      have i4 : IsStr (strV pc) := IsStr.mk' (by omega)
      obtain ⟨ma, mc, rfl, hma, hmc⟩ := hs.l.shape
      clear hlo hstep hclo hnew hps hlt hs hx hi hy hlen hhole
      go_wp2_with (first
        | (go_at_call 136; with_reducible refine HCL.out.mono ?_; rintro e w1 ⟨rfl, rfl⟩)
        | (go_at_call 137; with_reducible refine (chain_two _ _ (by omega) (by omega)).mono ?_; rintro e w1 ⟨rfl, hc⟩; have HP := Lib.hid (HP.out.on0 hc); clear hc)
        | (go_at_call 53; with_reducible refine (HNW.out _ _ HP.out.pool).mono ?_; rintro e w1 ⟨rfl, hp⟩; obtain ⟨sb2, hp2⟩ := HP.out.onPool hp; have HQ := Lib.hid hp2; clear hp hp2)
        | (refine wpList_append rfl (.tmp 61) (.tmp 63) 52 52 rfl 3 1 8 (intV 0) Tryz.underlying52 info_int rfl (by omega) (.slice ma ps.length mc) ps.length 1 (ints ps) [intV hlx] rfl (by exact (HQ.out.on0 ((Chg.refl [] _).alloc _)).l) (by exact src_new' Tryz.underlying52 _ 3 [intV hlx] _ 1 1 rfl rfl (by simp [Value.oneCell'])) (by omega) (by unfold maxLen; omega) ?_; intro ad c w2 hown hc2 hg2 hcm hnc
           have HZ := Lib.hid ((HQ.out.on0 ((Chg.refl [] _).alloc _)).onList hown hc2 hg2); clear hown hc2 hg2))
      go_roundw
      case rel =>
        refine ⟨j + 1, hlx, (i : Int) - 1, sb2, by have := HJ.out; omega, by rw [HST.out]; rfl, rfl, by have := HJ.out; have := HI.out; omega, by go_num, ?_⟩
        rw [HST.out]
        dsimp only
        rw [HPS.out]
        exact HZ.out
      case measure => simp [intOf]
    · obtain rfl : j = k := by omega
      obtain rfl : y = -1 := by omega
      have HX := Lib.hid hs
      have HXX := Lib.hid hx
      clear hs hx
      go_wp2_with fail
      go_ret2
      refine ⟨by rw [← HXX.out]; rfl, sb, HX.out.pool, (Grew.same ((Chg.refl _ _).alloc _) HO.out).trans HX.out.grew⟩

end Go.Proofs.YtjbpdgknhbnfgaaGreat

namespace Go.Proofs.YtjbpdgknhbnfgaaGreat
open Go.RowKit
set_option maxRecDepth 100000
attribute [local go_sem ↓] add_str9
attribute [local go_sem] strOf_strV

theorem nodup_rev {α : Type} {l : List α} (h : l.Nodup) : l.reverse.Nodup := List.pairwise_reverse.2 (h.imp fun hn e => hn e.symm)
theorem there_dropped (A : Pages) (ps : List Int) (hnd : ps.Nodup) (hth : ∀ l ∈ ps, ∃ b, lookup A l = some b) (k : Nat) (hk : k < ps.length) : ∃ bs, lookup (dropAll A (ps.take k)) ps[k] = some bs := by
  obtain ⟨bs, hbs⟩ := hth ps[k] (List.getElem_mem hk)
  refine ⟨bs, ?_⟩
  rw [dropAll_lookup, if_neg, hbs]
  · intro hm
    have := List.take_append_drop k ps
    rw [← this, List.nodup_append] at hnd
    have hd : ps[k] ∈ ps.drop k := by
      rw [List.drop_eq_getElem_cons hk]
      exact List.mem_cons_self
    exact hnd.2.2 _ hm _ hd rfl
  · intro p hp
    obtain ⟨bs', hb'⟩ := hth p (List.mem_of_mem_take hp)
    exact lookup_nonneg hb'

set_option maxHeartbeats 2000000 in
theorem chain_put_full {w : World} {b : PoolB} {A : Pages} {f : Nat} (h : PoolIs w b A f) (v : Bytes) (hv : v.length ≤ 1024) (hA : A.length ≤ 500) (hf : f < chainNeed v.length) :
    Calls Tryz.prog 64 #[ptrV b.p, strV v] w fun e w' => e = .returned (.tuple #[intV 0, intV 11]) ∧
      PoolTo b w w' (dropAll (laid v (chainNeed v.length) A f).1 (cpages (laid v (chainNeed v.length) A f).2).reverse) f := by
  have HS := Lib.hid (ChPut.start h v)
  have hneed := fun (wr : World) => chain_need v.length wr (by omega)
  have hk1 : 1 ≤ chainNeed v.length ∧ chainNeed v.length ≤ 5 ∧ (chainNeed v.length - 1) * 228 ≤ v.length := by unfold chainNeed; omega
  have hlo := fun j (hj : j ≤ 5) => laid_ok v (chainNeed v.length) A j (by omega)
  have HO := Lib.hid h.lt
  generalize chainNeed v.length = k at *
  obtain ⟨hk1, hk5, hkv⟩ := hk1
  have HN := Lib.hid hneed
  have HLO := Lib.hid hlo
  clear h hneed hlo
  go_enter Tryz.func64, Tryz.ntmps64
  have hmf : ∀ (fn : Fn) (first cap : Array Value) (w : World), (Instr.makeFunc fn first cap).run Tryz.prog w = .ok (.func fn first cap) w := fun _ _ _ _ => rfl
  go_wp2_with (first
    | (go_at_call 132; with_reducible refine (HN.out _).mono ?_; rintro e w1 ⟨rfl, rfl⟩))
  go_loopw [7, 8, 9] (fun mv nx i wr => ∃ (j : Nat) (x y : Int) (sb : StoreB), j ≤ f ∧ x = nxt (laid v k A j).2 ∧ nx = intV x ∧ y = (k : Int) - 1 - j ∧ i = .int .i64 y ∧
    ChPut (w.alloc (.cells #[strV v] 9)) wr b sb w.heap.size v (laid v k A j).1 (f - j) mv (cpages (laid v k A j).2).reverse) (fun _ _ i _ => (intOf i + 1).toNat)
  case atStart => exact ⟨0, -1, (k : Int) - 1, b.s, Nat.zero_le _, rfl, rfl, by omega, rfl, HS.out⟩
  case round =>
    obtain ⟨j, x, y, sb, hj, hx, rfl, hy, rfl, hs⟩ := hrel
    by_cases hlt : j < f
    · obtain ⟨i, hi⟩ : ∃ i : Nat, i = k - 1 - j := ⟨_, rfl⟩
      obtain rfl : y = (i : Int) := by omega
      have hlo := HLO.out j (by omega)
      have hnx := hlo.chain.nxt_bd
      have hlen := hlo.len
      have hstep : laid v k A (j + 1) = (addPage (laid v k A j).1 (pad (linkBytes x (piece v i))), (((holeOf (laid v k A j).1 : Nat) : Int), piece v i) :: (laid v k A j).2) := by
        rw [hx, hi]
        rfl
      rw [← hx] at hnx
      have hclo := chain_put1 v hs.box i (by have : i * 228 ≤ (k - 1) * 228 := Nat.mul_le_mul_right _ (by omega)
                                             omega) (by omega)
      have hpl := piece_length v i
      have hhole := holeOf_le (laid v k A j).1
      have hnew := fun (wr : World) (sb : StoreB) (hp : PoolIs wr { b with s := sb } (laid v k A j).1 (f - j)) => (show Calls Tryz.prog 53 #[ptrV b.p, strV (two (x + 1) ++ (two (piece v i).length ++ piece v i))] wr fun e w' => e = .returned (.tuple #[intV (holeOf (laid v k A j).1), intV 0]) ∧
          PoolTo { b with s := sb } wr w' (addPage (laid v k A j).1 (pad (linkBytes x (piece v i)))) (f - (j + 1)) by
        have e1 : f - j = (f - (j + 1)) + 1 := by omega
        rw [e1] at hp
        have := pool_new_ok hp (linkBytes x (piece v i)) (by simp [linkBytes, two]; omega) (by omega)
        exact this)
      have hps : (cpages ((((holeOf (laid v k A j).1 : Nat) : Int), piece v i) :: (laid v k A j).2)).reverse = (cpages (laid v k A j).2).reverse ++ [((holeOf (laid v k A j).1 : Nat) : Int)] := by simp [cpages]
      have hpsl : (cpages (laid v k A j).2).reverse.length ≤ 5 := by
        rw [List.length_reverse]
        have := hlo.many
        simp only [cpages, List.length_map]
        omega
      obtain ⟨hlx, hhx⟩ : ∃ h, h = holeOf (laid v k A j).1 := ⟨_, rfl⟩
      rw [← hhx] at hstep hnew hps hhole
      clear hhx
      generalize laid v k A j = s at *
      generalize piece v i = pc at *
      generalize (cpages s.2).reverse = ps at *
      have hib : (i : Int) ≤ 4 := by omega
      have hib0 : (0 : Int) ≤ (i : Int) := by omega
      have HST := Lib.hid hstep
      have HCL := Lib.hid hclo
      have HNW := Lib.hid hnew
      have HPS := Lib.hid hps
      have HJ := Lib.hid hlt
      have HP := Lib.hid hs
      have HI := Lib.hid hi
      have i1 : IsStr (strV (two (x + 1))) := IsStr.mk' (by simp [two])
      have i2 : IsStr (strV (two pc.length)) := IsStr.mk' (by simp [two])
      have i3 : IsStr (strV (two (x + 1) ++ two pc.length)) := IsStr.mk' (by simp [two])
      have i4 : IsStr (strV pc) := IsStr.mk' (by omega)
      obtain ⟨ma, mc, rfl, hma, hmc⟩ := hs.l.shape
      clear hlo hstep hclo hnew hps hlt hs hx hi hy hlen hhole
      go_wp2_with (first
        | (go_at_call 136; with_reducible refine HCL.out.mono ?_; rintro e w1 ⟨rfl, rfl⟩)
        | (go_at_call 137; with_reducible refine (chain_two _ _ (by omega) (by omega)).mono ?_; rintro e w1 ⟨rfl, hc⟩; have HP := Lib.hid (HP.out.on0 hc); clear hc)
        | (go_at_call 53; with_reducible refine (HNW.out _ _ HP.out.pool).mono ?_; rintro e w1 ⟨rfl, hp⟩; obtain ⟨sb2, hp2⟩ := HP.out.onPool hp; have HQ := Lib.hid hp2; clear hp hp2)
        | (refine wpList_append rfl (.tmp 61) (.tmp 63) 52 52 rfl 3 1 8 (intV 0) Tryz.underlying52 info_int rfl (by omega) (.slice ma ps.length mc) ps.length 1 (ints ps) [intV hlx] rfl (by exact (HQ.out.on0 ((Chg.refl [] _).alloc _)).l) (by exact src_new' Tryz.underlying52 _ 3 [intV hlx] _ 1 1 rfl rfl (by simp [Value.oneCell'])) (by omega) (by unfold maxLen; omega) ?_; intro ad c w2 hown hc2 hg2 hcm hnc
           have HZ := Lib.hid ((HQ.out.on0 ((Chg.refl [] _).alloc _)).onList hown hc2 hg2); clear hown hc2 hg2))
      go_roundw
      case rel =>
        refine ⟨j + 1, hlx, (i : Int) - 1, sb2, by have := HJ.out; omega, by rw [HST.out]; rfl, rfl, by have := HJ.out; have := HI.out; omega, by go_num, ?_⟩
        rw [HST.out]
        dsimp only
        rw [HPS.out]
        exact HZ.out
      case measure => simp [intOf]
    · obtain rfl : j = f := by omega
      obtain ⟨i, hi⟩ : ∃ i : Nat, i = k - 1 - j := ⟨_, rfl⟩
      obtain rfl : y = (i : Int) := by omega
      have hlo := HLO.out j (by omega)
      have hnx := hlo.chain.nxt_bd
      have hlen := hlo.len
      rw [← hx] at hnx
      have hclo := chain_put1 v hs.box i (by have : i * 228 ≤ (k - 1) * 228 := Nat.mul_le_mul_right _ (by omega)
                                             omega) (by omega)
      have hpl := piece_length v i
      have hhole := holeOf_le (laid v k A j).1
      have hnew := fun (wr : World) (sb : StoreB) (hp : PoolIs wr { b with s := sb } (laid v k A j).1 (j - j)) => (show Calls Tryz.prog 53 #[ptrV b.p, strV (two (x + 1) ++ (two (piece v i).length ++ piece v i))] wr fun e w' => e = .returned (.tuple #[intV 0, intV 11]) ∧
          PoolTo { b with s := sb } wr w' (laid v k A j).1 0 by
        rw [Nat.sub_self] at hp
        exact pool_new_full hp (linkBytes x (piece v i)) (by simp [linkBytes, two]; omega))
      have hth : ∀ m (hm : m < (cpages (laid v k A j).2).reverse.length), ∃ bs, lookup (dropAll (laid v k A j).1 ((cpages (laid v k A j).2).reverse.take m)) (cpages (laid v k A j).2).reverse[m] = some bs := there_dropped _ _ (nodup_rev hlo.nodup) (fun l hl => hlo.chain.there l (List.mem_reverse.1 hl))
      have hpsl : (cpages (laid v k A j).2).reverse.length ≤ 5 := by
        rw [List.length_reverse]
        have := hlo.many
        simp only [cpages, List.length_map]
        omega
      have hpj : (cpages (laid v k A j).2).reverse.length = j := by
        rw [List.length_reverse]
        have := hlo.many
        simpa [cpages] using this
      have HPJ : Hid ((cpages (laid v k A j).2).reverse.length = j) := Lib.hid hpj
      clear hpj
      generalize hs0 : laid v k A j = s at *
      generalize piece v i = pc at *
      generalize hp0 : (cpages s.2).reverse = ps at *
      have HS0 := Lib.hid hs0
      have HP0 := Lib.hid hp0
      clear hs0 hp0
      have hib : (i : Int) ≤ 4 := by omega
      have hib0 : (0 : Int) ≤ (i : Int) := by omega
      have HTH := Lib.hid hth
      have HCL := Lib.hid hclo
      have HNW := Lib.hid hnew
      have HP := Lib.hid hs
      have HI := Lib.hid hi
      have i1 : IsStr (strV (two (x + 1))) := IsStr.mk' (by simp [two])
      have i2 : IsStr (strV (two pc.length)) := IsStr.mk' (by simp [two])
      have i3 : IsStr (strV (two (x + 1) ++ two pc.length)) := IsStr.mk' (by simp [two])
      have i4 : IsStr (strV pc) := IsStr.mk' (by omega)
      obtain ⟨ma, mc, rfl, hma, hmc⟩ := hs.l.shape
      clear hlo hclo hnew hlt hs hx hi hy hlen hhole hth
      go_wp2_with (first
        | (go_at_call 136; with_reducible refine HCL.out.mono ?_; rintro e w1 ⟨rfl, rfl⟩)
        | (go_at_call 137; with_reducible refine (chain_two _ _ (by omega) (by omega)).mono ?_; rintro e w1 ⟨rfl, hc⟩; have HP := Lib.hid (HP.out.on0 hc); clear hc)
        | (go_at_call 53; with_reducible refine (HNW.out _ _ HP.out.pool).mono ?_; rintro e w1 ⟨rfl, hp⟩; obtain ⟨sb2, hp2⟩ := HP.out.onPool hp; have HQ := Lib.hid hp2; clear hp hp2))
      go_loopw [52] (fun i wr => ∃ (m : Nat) (sb : StoreB), m ≤ ps.length ∧ i = .int .i64 m ∧ ChPut (w.alloc (.cells #[strV v] 9)) wr b sb w.heap.size v (dropAll s.1 (ps.take m)) m (.slice ma ps.length mc) ps) (fun i _ => ps.length - (intOf i).toNat)
      case atStart => exact ⟨0, sb2, Nat.zero_le _, rfl, HQ.out⟩
      case round =>
        obtain ⟨m, sb3, hm, rfl, hs3⟩ := hrel
        by_cases hmlt : m < ps.length
        · obtain ⟨g, cap, cur, hv3, -, -⟩ := hs3.l.pos (by omega)
          have hcell := hs3.l.cell hv3 hmlt
          simp at hv3
          obtain ⟨rfl, rfl⟩ := hv3
          obtain ⟨bs, hbs⟩ := HTH.out m hmlt
          obtain ⟨p, hp⟩ : ∃ p, ps[m] = p := ⟨_, rfl⟩
          rw [hp] at hbs
          have k0 : wr.cell? ⟨g, m, none⟩ = some (intV p) := by
            rw [hcell.1, ints_get, List.getElem?_eq_getElem hmlt, hp]
            rfl
          have HS3 := Lib.hid hs3
          have HD : Hid (Calls Tryz.prog 58 #[ptrV b.p, intV p] wr fun e w' => e = .returned (intV 0) ∧ PoolTo { b with s := sb3 } wr w' (dropAll s.1 (ps.take (m + 1))) (m + 1)) := Lib.hid (by
            rw [List.take_succ_eq_append_getElem hmlt, dropAll_snoc, hp]
            exact pool_drop_at hs3.pool p hbs)
          have hltI : (m : Int) < (ps.length : Int) := by omega
          clear hs3 hbs hp hcell
          go_wp2_with (first
            | (go_at_call 58; with_reducible refine HD.out.mono ?_; rintro e w2 ⟨rfl, h2⟩; obtain ⟨sb4, hs4⟩ := HS3.out.onPool h2; have H2 := Lib.hid hs4; clear h2 hs4))
          go_roundw
          case rel => exact ⟨m + 1, sb4, hmlt, by go_num, H2.out⟩
          case measure => simp [intOf]; omega
        · obtain rfl : m = ps.length := by omega
          have HS3 := Lib.hid hs3
          clear hs3
          go_wp2_with fail
          go_ret2
          refine ⟨rfl, sb3, ?_, (Grew.same ((Chg.refl _ _).alloc _) HO.out).trans HS3.out.grew⟩
          have hpp := HS3.out.pool
          rw [List.take_length, HPJ.out] at hpp
          rw [HS0.out, HP0.out]
          exact hpp

end Go.Proofs.YtjbpdgknhbnfgaaGreat

namespace Go.Proofs.YtjbpdgknhbnfgaaGreat
open Go.RowKit
set_option maxRecDepth 100000

/-- Block b is a row of the cells cs, of which none is frozen. -/
def BlkZ (w : World) (b : Nat) (T : TypeId) (cs : List Value) : Prop := ∃ fz : Nat × Nat, w.heap[b]? = some (.cells cs.toArray T fz) ∧ (fz = (0, 0) ∨ cs.length ≤ fz.1)
theorem Blk.z {w : World} {b : Nat} {T : TypeId} {cs : List Value} (h : Blk w b T cs) : BlkZ w b T cs := ⟨(0, 0), h, .inl rfl⟩
theorem BlkZ.lt {w : World} {b : Nat} {T : TypeId} {cs : List Value} (h : BlkZ w b T cs) : b < w.heap.size := by
  obtain ⟨fz, h, -⟩ := h
  exact (Array.getElem?_eq_some_iff.1 h).1
theorem BlkZ.cell {w : World} {b : Nat} {T : TypeId} {cs : List Value} (h : BlkZ w b T cs) (i : Nat) : w.cell? ⟨b, i, none⟩ = cs[i]? := by
  obtain ⟨fz, h, -⟩ := h
  rw [cell_of_row w b i _ T fz h]
  simp
theorem BlkZ.free {w : World} {b : Nat} {T : TypeId} {cs : List Value} (h : BlkZ w b T cs) {i : Nat} (hi : i < cs.length) : w.frozen? ⟨b, i, none⟩ = false := by
  obtain ⟨⟨lo, hi'⟩, h, hz⟩ := h
  simp only [World.frozen?, h]
  rcases hz with hz | hz
  · simp at hz
    obtain ⟨rfl, rfl⟩ := hz
    simp
  · have : ¬ lo ≤ i := by
      have : cs.length ≤ lo := hz
      omega
    simp [this]
theorem BlkZ.set {w : World} {b : Nat} {T : TypeId} {cs : List Value} (h : BlkZ w b T cs) (i : Nat) (v : Value) : BlkZ (w.setCell ⟨b, i, none⟩ v) b T (cs.set i v) := by
  obtain ⟨fz, h, hz⟩ := h
  refine ⟨fz, ?_, by rw [List.length_set]; exact hz⟩
  simp [World.setCell, Array.getElem?_modify, h]
theorem BlkZ.kept {w w' : World} {F : List Nat} {b : Nat} {T : TypeId} {cs : List Value} (h : BlkZ w b T cs) (hc : Chg F w w') (hn : b ∉ F) : BlkZ w' b T cs := by
  have hl := h.lt
  obtain ⟨fz, h, hz⟩ := h
  exact ⟨fz, by rw [hc.block b hl hn]; exact h, hz⟩
theorem setCells_blkZ (g : Nat) (T : TypeId) : ∀ (vs : List Value) (o : Nat) (w : World) (cs : List Value), BlkZ w g T cs → o + vs.length ≤ cs.length → BlkZ (w.setCells g o vs) g T (lay cs o vs)
  | [], o, w, cs, h, _ => by simpa [World.setCells, lay] using h
  | v :: r, o, w, cs, h, hl => by
    simp only [World.setCells]
    have := setCells_blkZ g T r (o + 1) _ _ (h.set o v) (by simp at hl ⊢; omega)
    have e : lay (cs.set o v) (o + 1) r = lay cs o (v :: r) := by
      apply List.ext_getElem?
      intro i
      simp at hl
      rw [lay_get _ _ _ (by simp; omega), lay_get _ _ _ (by simp; omega), List.getElem?_set]
      simp only [List.length_cons]
      by_cases c1 : o + 1 ≤ i ∧ i < o + 1 + r.length
      · rw [if_pos c1, if_pos (by omega), show i - o = (i - (o + 1)) + 1 by omega, List.getElem?_cons_succ]
      · rw [if_neg c1]
        by_cases c2 : o = i
        · subst c2
          rw [if_pos rfl, if_pos (by omega), if_pos (by omega), Nat.sub_self]
          rfl
        · rw [if_neg c2, if_neg (by omega)]
    rwa [e] at this

def OwnZ (w : World) (e : TypeId) (v : Value) (n : Nat) (xs : List Value) : Prop :=
  xs.length = n ∧ ((∃ a, v = .slice a 0 0 ∧ n = 0) ∨
    ∃ g cap cur, v = .slice (some ⟨g, 0, none⟩) n cap ∧ BlkZ w g e cur ∧ n ≤ cap ∧ 0 < cap ∧ cap ≤ maxLen ∧ cur.length = cap ∧ cur.take n = xs)
theorem OwnZ.shape {w : World} {e : TypeId} {v : Value} {n : Nat} {xs : List Value} (h : OwnZ w e v n xs) : ∃ a c, v = .slice a n c ∧ n ≤ c ∧ c ≤ maxLen := by
  rcases h.2 with ⟨a, rfl, rfl⟩ | ⟨g, cap, cur, rfl, _, h1, _, h2, _⟩
  · exact ⟨a, 0, rfl, Nat.le_refl _, Nat.zero_le _⟩
  · exact ⟨_, _, rfl, h1, h2⟩
theorem OwnZ.kept {w w' : World} {F : List Nat} {e : TypeId} {v : Value} {n : Nat} {xs : List Value} (h : OwnZ w e v n xs) (hc : Chg F w w') (hn : ∀ k ∈ ownBlk v, k ∉ F) : OwnZ w' e v n xs := by
  refine ⟨h.1, ?_⟩
  rcases h.2 with hl | ⟨g, cap, cur, rfl, hg, h1, hp, rest⟩
  · exact .inl hl
  · obtain ⟨c, rfl⟩ : ∃ c, cap = c + 1 := ⟨cap - 1, by omega⟩
    exact .inr ⟨g, c + 1, cur, rfl, hg.kept hc (hn g (by simp [ownBlk])), h1, hp, rest⟩

section
variable {P : Program}
theorem run_appendZ {w : World} {t tx ty e : TypeId} {bytes : Nat} (z : Value) (ht : P.underlying t = some (.slice e)) (hi : (P.info? e).map (fun i => (i.zero, i.size, i.bytes)) = some (some z, 1, bytes)) (hzs : z.cells.size = 1)
    {v x : Value} {n m : Nat} {xs news : List Value} (hown : OwnZ w e v n xs) (hs : Src P 1 tx x m news w) (hbytes : (n + m) * bytes ≤ 140737488355328) (h63 : n + m ≤ maxLen) :
    ∃ a c w', (Builtin.append_ #[t, tx] ty #[v, x]).run P w = .ok (.slice a (n + m) c) w' ∧ OwnZ w' e (.slice a (n + m) c) (n + m) (xs ++ news) ∧ Chg (ownBlk v) w w' ∧
      (∀ k ∈ ownBlk (.slice a (n + m) c), k ∈ ownBlk v ∨ w.heap.size ≤ k) ∧ c ≤ maxLen ∧ n + m ≤ c := by
  cases hq : P.info? e with
  | none => simp [hq] at hi
  | some i =>
    simp [hq] at hi
    obtain ⟨hz, hi1, rfl⟩ := hi
    have hl := hown.1
    have hnl := hs.newsLen
    have hlen : (xs ++ news).length = n + m := by rw [List.length_append, hl, hnl]; omega
    have hsmall : n + m ≤ 9223372036854775807 := by simp only [maxLen] at h63; omega
    rw [← hi1] at hs
    have grown : ∀ (base : Option Addr) (sCap : Nat), v = .slice base n sCap → n ≤ sCap → sCap < n + m → (Builtin.firstCells i.size n v).run P w.drew = .ok xs.toArray w.drew →
        ∃ a c w', (Builtin.append_ #[t, tx] ty #[v, x]).run P w = .ok (.slice a (n + m) c) w' ∧ OwnZ w' e (.slice a (n + m) c) (n + m) (xs ++ news) ∧ Chg (ownBlk v) w w' ∧
        (∀ k ∈ ownBlk (.slice a (n + m) c), k ∈ ownBlk v ∨ w.heap.size ≤ k) ∧ c ≤ maxLen ∧ n + m ≤ c := by
      intro base sCap hv hle hlt hold
      subst hv
      have hr := run_append_grow_src (P := P) w t tx ty e i z ht hq hz base n sCap xs hold x m news hs hlt (by omega) (growslice_fits (by omega) hbytes)
      have hge := grownCap_ge w (n + m) sCap e
      have hcm : grownCap w (n + m) sCap e ≤ maxLen := grownCap_le_maxLen w (n + m) sCap e h63
      have hB : Blk (w.drew.alloc (.cells ((xs ++ news) ++ (Builtin.zeroCells z.cells (grownCap w (n + m) sCap e - (n + m))).toList).toArray e)) w.heap.size e ((xs ++ news) ++ (Builtin.zeroCells z.cells (grownCap w (n + m) sCap e - (n + m))).toList) := Blk.new w.drew _ _
      refine ⟨_, _, _, hr, ⟨hlen, .inr ⟨w.heap.size, _, (xs ++ news) ++ (Builtin.zeroCells z.cells (grownCap w (n + m) sCap e - (n + m))).toList, rfl, ?_, hge, by omega, hcm, ?_, ?_⟩⟩, (((Chg.refl _ w).drew).alloc _), ?_, hcm, hge⟩
      · have e1 : ((xs ++ news) ++ (Builtin.zeroCells z.cells (grownCap w (n + m) sCap e - (n + m))).toList).toArray = (xs ++ news).toArray ++ Builtin.zeroCells z.cells (grownCap w (n + m) sCap e - (n + m)) := by
          apply Array.ext'
          simp
        rw [e1] at hB
        exact hB.z
      · rw [List.length_append, hlen, Array.length_toList, size_zeroCells', hzs]
        omega
      · rw [← hlen]
        exact List.take_left
      · intro k hk
        obtain ⟨c, hc⟩ : ∃ c, grownCap w (n + m) sCap e = c + 1 := ⟨grownCap w (n + m) sCap e - 1, by omega⟩
        rw [hc] at hk
        simp [ownBlk] at hk
        exact .inr (by omega)
    have hsrc := Lib.hid hs
    rcases hown.2 with ⟨a, rfl, rfl⟩ | ⟨g, cap, cur, rfl, hB, hn, h0, hcm, hcl, htk⟩
    · have hx : xs = [] := List.eq_nil_of_length_eq_zero hl
      subst hx
      by_cases hm : m = 0
      · subst hm
        have hne : news = [] := List.eq_nil_of_length_eq_zero (by simpa using hnl)
        subst hne
        refine ⟨a, 0, w, ?_, ⟨rfl, .inl ⟨a, rfl, rfl⟩⟩, Chg.refl _ _, fun k hk => .inl hk, by simp [maxLen], by omega⟩
        rcases hs.kind with ⟨e', hk⟩ | hk <;> cases a <;>
          simp [Builtin.append_, run_underlying ht, run_underlying hk, sizeOf, typeInfo, hq, hs.len, hs.cells, Go.storeCells]
      · refine grown a 0 rfl (by omega) (by omega) ?_
        cases a <;> simp [Builtin.firstCells, loadCells, loadCellsFrom]
    · by_cases hroom : n + m ≤ cap
      · have hfit : n + news.length ≤ cur.length := by omega
        have hr := run_append_room_src (P := P) w t tx ty e i ht hq g 0 n cap x m news hs hroom
          (fun j hj => by rw [hB.cell]; simp only [Nat.zero_add, hi1]; rw [List.getElem?_eq_getElem (by omega)]; rfl) (fun j hj => hB.free (by simp only [Nat.zero_add, hi1]; omega))
        simp only [Nat.zero_add, hi1, Nat.mul_one] at hr
        have hB' := setCells_blkZ g e news n w cur hB hfit
        obtain ⟨c, rfl⟩ : ∃ c, cap = c + 1 := ⟨cap - 1, by omega⟩
        refine ⟨_, _, _, hr, ⟨hlen, .inr ⟨g, c + 1, _, rfl, hB', hroom, h0, hcm, ?_, ?_⟩⟩, chg_setCells g _ w (.inl (by simp [ownBlk])) news _ w (Chg.refl _ _), fun k hk => .inl (by simpa [ownBlk] using hk), hcm, hroom⟩
        · rw [lay_length' _ _ _ hfit]; exact hcl
        · rw [← hlen, ← htk]
          unfold lay
          rw [← List.append_assoc]
          exact List.take_left' (by simp)
      · refine grown _ cap rfl hn (by omega) ?_
        have := run_firstCells_some (P := P) w.drew i.size n ⟨g, 0, none⟩ n cap xs (by rw [hi1]; omega) (fun j u hu => by
          have hj : j < xs.length := (List.getElem?_eq_some_iff.1 hu).1
          have hb2 : BlkZ w.drew g e cur := hB.kept (F := []) ((Chg.refl _ _).drew) (by simp)
          rw [add_spot, hb2.cell, Nat.zero_add, getElem_take' htk hj]
          exact hu)
        exact this
end

section
variable {P : Program} {w : World} {ops : Array Oper} {rest : List Oper} {o : Oper} {a : Act} {Q : Exit → Act → World → Prop}
theorem wpList_appendZ (hgd : o.guard = none) (s x : Operand) (t tx : TypeId) (ho : o.op = .call { callee := .builtin .append, args := #[s, x], argTypes := #[t, tx] })
    (e : TypeId) (bytes : Nat) (z : Value) (ht : P.underlying t = some (.slice e)) (hi : (P.info? e).map (fun i => (i.zero, i.size, i.bytes)) = some (some z, 1, bytes)) (hzs : z.cells.size = 1)
    (v : Value) (n m : Nat) (xs news : List Value) (hv : a.eval s = v) (hown : OwnZ w e v n xs) (hs : Src P 1 tx (a.eval x) m news w) (hbytes : (n + m) * bytes ≤ 140737488355328) (h63 : n + m ≤ maxLen)
    (h : ∀ ad c w', OwnZ w' e (.slice ad (n + m) c) (n + m) (xs ++ news) → Chg (ownBlk v) w w' → (∀ k ∈ ownBlk (.slice ad (n + m) c), k ∈ ownBlk v ∨ w.heap.size ≤ k) → c ≤ maxLen → n + m ≤ c →
      wpList P ops Q rest (a.put o.dst (.slice ad (n + m) c)) w') : wpList P ops Q (o :: rest) a w := by
  refine wpList_plain hgd fun K hK => ?_
  obtain ⟨ad, c, w', hr, h1, h2, h3, h4, h5⟩ := run_appendZ (P := P) (ty := o.type) z ht hi hzs hown hs hbytes h63
  unfold Oper.wp execOp
  simp only [ho, resolve, invoke, builtin, Sem.run_bind, Sem.run_pure, Result.andThen_ok, List.map_toArray, List.map_cons, List.map_nil, hv, hr]
  exact hK _ _ (h ad c w' h1 h2 h3 h4 h5)

/-- []byte(s) -/
theorem wpList_str_bytes (hgd : o.guard = none) (x : Operand) (src dst e : TypeId) (ho : o.op = .convert src dst x) (hs : P.underlying src = some .string) (hd : P.underlying dst = some (.slice e)) (he : P.underlying e = some (.int .u8))
    (l : Bytes) (hl : l.length ≤ maxLen) (hx : a.eval x = strV l)
    (h : ∀ ad c w', OwnZ w' e (.slice ad l.length c) l.length (byts l) → Chg [] w w' → (∀ k ∈ ownBlk (.slice ad l.length c), w.heap.size ≤ k) → c ≤ maxLen → l.length ≤ c →
      wpList P ops Q rest (a.put o.dst (.slice ad l.length c)) w') : wpList P ops Q (o :: rest) a w := by
  refine wpList_plain hgd fun K hK => ?_
  have hsz : (⟨l.toArray⟩ : ByteArray).size = l.length := by simp [ByteArray.size]
  have hr := Lib.run_convert_string_bytes (P := P) w src dst e ⟨l.toArray⟩ hs hd he
  rw [hsz] at hr
  have hge := grownCap_ge w l.length 0 e
  have hcm : grownCap w l.length 0 e ≤ maxLen := grownCap_le_maxLen w l.length 0 e hl
  have hcl : (Lib.bytesCells w e ⟨l.toArray⟩).toList = byts l ++ List.replicate (grownCap w l.length 0 e - l.length) (bytV 0) := by
    simp [Lib.bytesCells, byts, hsz]
  have hlen : (Lib.bytesCells w e ⟨l.toArray⟩).toList.length = grownCap w l.length 0 e := by rw [hcl]; simp; omega
  have hblk : BlkZ (Lib.bytesWorld w e ⟨l.toArray⟩) w.heap.size e (Lib.bytesCells w e ⟨l.toArray⟩).toList :=
    ⟨_, Lib.bytesWorld_at_new w e ⟨l.toArray⟩, .inr (by simp)⟩
  have hchg : Chg [] w (Lib.bytesWorld w e ⟨l.toArray⟩) := by
    refine ⟨?_, ?_, ?_, by rw [Lib.bytesWorld_size]; omega, fun k hk _ => Lib.bytesWorld_at_old w e _ k hk⟩
    all_goals
      unfold Lib.bytesWorld World.freeze
      split <;> rfl
  have hown : OwnZ (Lib.bytesWorld w e ⟨l.toArray⟩) e (.slice (some ⟨w.heap.size, 0, none⟩) l.length (grownCap w l.length 0 e)) l.length (byts l) := by
    refine ⟨length_byts _, ?_⟩
    by_cases h0 : grownCap w l.length 0 e = 0
    · left
      exact ⟨some ⟨w.heap.size, 0, none⟩, by rw [h0]; congr 1; omega, by omega⟩
    · right
      refine ⟨_, _, _, rfl, hblk, hge, by omega, hcm, hlen, ?_⟩
      rw [hcl]
      exact List.take_left' (length_byts _)
  unfold Oper.wp execOp
  simp only [ho, hx, Sem.run_bind, Sem.run_pure, Result.andThen_ok, hr]
  refine hK _ _ (h _ _ _ hown hchg (fun k hk => ?_) hcm hge)
  generalize grownCap w l.length 0 e = c at hk
  cases c with
  | zero => simp [ownBlk] at hk
  | succ c => simp [ownBlk] at hk; omega

/-- string(b) -/
theorem wpList_z_str (hgd : o.guard = none) (x : Operand) (src dst e : TypeId) (ho : o.op = .convert src dst x) (hs : P.underlying src = some (.slice e)) (he : P.underlying e = some (.int .u8)) (hd : P.underlying dst = some .string)
    (v : Value) (l : Bytes) (T : TypeId) (hx : a.eval x = v) (hown : OwnZ w T v l.length (byts l))
    (h : wpList P ops Q rest (a.put o.dst (strV l)) w) : wpList P ops Q (o :: rest) a w := by
  refine wpList_plain hgd fun K hK => ?_
  unfold Oper.wp execOp
  simp only [ho, hx]
  rcases hown.2 with ⟨ad, hv, hn⟩ | ⟨g, cap, cur, hv, hB, hn, h0, h1, h2, h3⟩
  · have hl : l = [] := List.eq_nil_of_length_eq_zero hn
    subst hl
    have hr : (convert src dst v).run P w = .ok (strV []) w := by
      rw [hv]
      cases ad with
      | none => rw [run_convert_bytes_nil (P := P) w src e hs he 0 0 dst hd]; rfl
      | some ad =>
        have := run_convert_bytes_string (P := P) w src dst e (some ad) 0 0 hs he hd
        rw [this, run_bytesToString w ad 0 0 [] (by simp [loadCells, loadCellsFrom])]
        rfl
    simp only [Sem.run_bind, Sem.run_pure, Result.andThen_ok, hr]
    exact hK _ _ h
  · rw [hv]
    have hr : (convert src dst (.slice (some ⟨g, 0, none⟩) l.length cap)).run P w = .ok (strV l) w := by
      have := run_convert_bytes_arg (P := P) w src e hs he g 0 l.length cap (l.map fun c => (c.toNat : Int)) (by simp) (fun i hi => by
        rw [hB.cell]
        have h1 : (cur.take l.length)[i]? = (byts l)[i]? := by rw [h3]
        rw [List.getElem?_take, if_pos hi] at h1
        rw [Nat.zero_add, h1]
        simp [byts, List.getD, hi]) dst hd
      rw [this]
      congr 2
      simp only [strOfNums, List.map_map]
      congr 2
      conv => rhs; rw [← List.map_id l]
      apply List.map_congr_left
      intro c _
      simp
    simp only [Sem.run_bind, Sem.run_pure, Result.andThen_ok, hr]
    exact hK _ _ h
end

end Go.Proofs.YtjbpdgknhbnfgaaGreat

namespace Go.Proofs.YtjbpdgknhbnfgaaGreat
open Go.RowKit
set_option maxRecDepth 100000

def padTo' (l : Bytes) (k : Nat) : Bytes := l ++ List.replicate k 0
theorem padTo'_succ (l : Bytes) (k : Nat) : byts (padTo' l k) ++ [.int .u8 0] = byts (padTo' l (k + 1)) := by
  unfold padTo' byts
  rw [List.replicate_succ']
  simp
theorem padTo'_length (l : Bytes) (k : Nat) : (padTo' l k).length = l.length + k := by simp [padTo']

set_option maxHeartbeats 1000000 in
theorem ref_full (l : Bytes) (w : World) (hl : l.length ≤ 60000) :
    Calls Tryz.prog 43 #[strV l] w fun e w' => e = .returned (strV (pad l)) ∧ Chg [] w w' := by
  go_enter Tryz.func43, Tryz.ntmps43
  go_wp2_with (refine wpList_str_bytes rfl (.tmp 4) 9 141 5 rfl Tryz.underlying9 Tryz.underlying141 Tryz.underlying5 l (by unfold maxLen; omega) rfl ?_; intro ad c w1 hown hc hg hcm hnc; have O1 := Lib.hid hown; have C1 := Lib.hid hc; have G1 := Lib.hid hg; clear hown hc hg)
  go_loopg [3] (232 - l.length) (fun m bv wr => ∃ (k c : Nat) (ad : Option Addr), m + k = 232 - l.length ∧ bv = .slice ad (l.length + k) c ∧ l.length + k ≤ c ∧ c ≤ maxLen ∧ OwnZ wr 5 (.slice ad (l.length + k) c) (l.length + k) (byts (padTo' l k)) ∧ (∀ x ∈ ownBlk (.slice ad (l.length + k) c), w.heap.size ≤ x) ∧ Chg [] w wr)
  case atStart => exact ⟨0, c, ad, by omega, rfl, hnc, hcm, by simpa [padTo'] using O1.out, G1.out, C1.out⟩
  case round =>
    obtain ⟨k, c2, ad2, hk, rfl, hkc, hcm2, hown, hnew, hchg⟩ := hrel
    have HO := Lib.hid hown
    have HN := Lib.hid hnew
    have HC := Lib.hid hchg
    clear hown hnew hchg
    by_cases hlt : l.length + k < 232
    · have hltI : (l.length : Int) + (k : Int) < 232 := by omega
      have HS := Lib.hid (padTo'_succ l k)
      obtain ⟨m, rfl⟩ : ∃ m, gk = m + 1 := ⟨gk - 1, by omega⟩
      go_wp2_with (refine wpList_appendZ rfl (.tmp 9) (.tmp 10) 141 141 rfl 5 1 (bytV 0) Tryz.underlying141 info_u8 rfl (.slice ad2 (l.length + k) c2) (l.length + k) 1 (byts (padTo' l k)) [.int .u8 0] rfl (by exact HO.out.kept (F := []) ((Chg.refl _ _).alloc _) (fun _ _ h => by cases h)) (by exact src_new' Tryz.underlying141 _ 5 [.int .u8 0] _ 1 1 rfl rfl (by simp [Value.oneCell'])) (by omega) (by unfold maxLen; omega) ?_; intro ad3 c3 w3 hown hc hg hcm3 hnc3; have O3 := Lib.hid hown; have C3 := Lib.hid hc; have G3 := Lib.hid hg; clear hown hc hg)
      go_roundg m
      case measure => omega
      case rel =>
        refine ⟨k + 1, c3, ad3, by omega, rfl, hnc3, hcm3, ?_, fun x hx => ?_, ?_⟩
        · rw [← HS.out]
          exact O3.out
        · rcases G3.out x hx with h1 | h1
          · exact HN.out x h1
          · have h2 := HC.out.size
            simp at h1
            omega
        · exact (HC.out.alloc _).trans C3.out (fun g hg => .inr (HN.out g hg))
    · have hkk : k = 232 - l.length := by omega
      have HOZ : Hid (OwnZ wr 5 (.slice ad2 (l.length + k) c2) (pad l).length (byts (pad l))) := Lib.hid (by
        have e : pad l = padTo' l k := by rw [hkk]; rfl
        rw [e, padTo'_length]
        exact HO.out)
      have hltI : ¬ (l.length : Int) + (k : Int) < 232 := by omega
      clear hkk
      go_wp2_with (refine wpList_z_str rfl (.tmp 12) 141 9 5 rfl Tryz.underlying141 Tryz.underlying5 Tryz.underlying9 (.slice ad2 (l.length + k) c2) (pad l) 5 rfl HOZ.out ?_)
      go_ret
      exact ⟨rfl, HC.out⟩

/-! slots -/
def RSlot.cells (x : RSlot) : List Value := [.bool x.is, .bool x.fresh, strV x.b]
def slotCells (L : List RSlot) : List Value := L.flatMap RSlot.cells
theorem slotCells_length (L : List RSlot) : (slotCells L).length = L.length * 3 := by
  induction L with
  | nil => rfl
  | cons x L ih => simp [slotCells, RSlot.cells] at ih ⊢; omega
theorem slotCells_at : ∀ (L : List RSlot) (i : Nat) (h : i < L.length) (j : Nat) (_ : j < 3), (slotCells L)[i * 3 + j]? = (L[i]).cells[j]?
  | x :: L, 0, _, j, hj => by
    simp only [slotCells, List.flatMap_cons, Nat.zero_mul, Nat.zero_add, List.getElem_cons_zero]
    rw [List.getElem?_append_left (by simpa [RSlot.cells] using hj)]
  | x :: L, i + 1, h, j, hj => by
    have ih := slotCells_at L i (by simpa using h) j hj
    have e : (i + 1) * 3 + j = (x.cells).length + (i * 3 + j) := by simp [RSlot.cells]; omega
    simp only [slotCells, List.flatMap_cons, List.getElem_cons_succ] at ih ⊢
    rw [e, List.getElem?_append_right (by omega), Nat.add_sub_cancel_left]
    exact ih
theorem slotCells_one (L : List RSlot) : ∀ v ∈ slotCells L, v.oneCell' = true := by
  intro v hv
  simp [slotCells] at hv
  obtain ⟨x, _, hv⟩ := hv
  simp [RSlot.cells] at hv
  rcases hv with rfl | rfl | rfl <;> rfl
theorem slotCells_snoc (L : List RSlot) (x : RSlot) : slotCells (L ++ [x]) = slotCells L ++ x.cells := by simp [slotCells]
theorem slotCells_set : ∀ (L : List RSlot) (i : Nat) (_ : i < L.length) (x : RSlot), slotCells (L.set i x) = lay (slotCells L) (i * 3) x.cells
  | y :: L, 0, _, x => by
    simp [slotCells, lay, RSlot.cells]
  | y :: L, i + 1, h, x => by
    have ih := slotCells_set L i (by simpa using h) x
    simp only [slotCells, List.set_cons_succ, List.flatMap_cons] at ih ⊢
    rw [ih]
    have e : (i + 1) * 3 = y.cells.length + i * 3 := by simp [RSlot.cells]; omega
    unfold lay
    rw [e, List.take_length_add_append, List.append_assoc]
    have e2 : y.cells.length + i * 3 + x.cells.length = y.cells.length + (i * 3 + x.cells.length) := by omega
    rw [e2, List.drop_length_add_append]

structure RefB where
  p : Nat
  nv : Value
  ov : Value
/-- The document's store r lies in memory; its lists are never written again. -/
structure RefAt (w : World) (b : RefB) (r : Ref) : Prop where
  st : Blk w b.p 47 [intV r.many, b.nv, b.ov, intV r.epoch, .bool false]
  n : Own w 91 3 b.nv r.now.length (slotCells r.now)
  o : Own w 91 3 b.ov r.old.length (slotCells r.old)
  pn : b.p ∉ ownBlk b.nv
  po : b.p ∉ ownBlk b.ov
def RefB.set (b : RefB) : List Nat := b.p :: (ownBlk b.nv ++ ownBlk b.ov)
theorem RefAt.kept {w w' : World} {F : List Nat} {b : RefB} {r : Ref} (h : RefAt w b r) (hc : Chg F w w') (hn : ∀ k ∈ b.set, k ∉ F) : RefAt w' b r :=
  ⟨h.st.kept hc (hn _ (by simp [RefB.set])), h.n.kept hc fun k hk => hn k (by simp [RefB.set, hk]), h.o.kept hc fun k hk => hn k (by simp [RefB.set, hk]), h.pn, h.po⟩
theorem RefAt.kept0 {w w' : World} {b : RefB} {r : Ref} (h : RefAt w b r) (hc : Chg [] w w') : RefAt w' b r := h.kept hc (by simp)
theorem RefAt.lt {w : World} {b : RefB} {r : Ref} (h : RefAt w b r) : ∀ k ∈ b.set, k < w.heap.size := by
  intro k hk
  simp only [RefB.set, List.mem_cons, List.mem_append] at hk
  rcases hk with rfl | hk | hk
  · exact h.st.lt
  · exact h.n.lt k hk
  · exact h.o.lt k hk
theorem RefAt.cells {w : World} {b : RefB} {r : Ref} (h : RefAt w b r) :
    w.cell? ⟨b.p, 0, none⟩ = some (intV r.many) ∧ w.cell? ⟨b.p, 1, none⟩ = some b.nv ∧ w.cell? ⟨b.p, 2, none⟩ = some b.ov ∧ w.cell? ⟨b.p, 3, none⟩ = some (intV r.epoch) :=
  ⟨h.st.cell 0, h.st.cell 1, h.st.cell 2, h.st.cell 3⟩

/-- a slot's cells -/
theorem slot_cells {w : World} {v : Value} {L : List RSlot} (h : Own w 91 3 v L.length (slotCells L)) (i : Nat) (hi : i < L.length) :
    ∃ g cap, v = .slice (some ⟨g, 0, none⟩) L.length cap ∧ L.length ≤ cap ∧ cap ≤ maxLen ∧ w.cell? ⟨g, i * 3, none⟩ = some (.bool L[i].is) ∧ w.cell? ⟨g, i * 3 + 1, none⟩ = some (.bool L[i].fresh) ∧ w.cell? ⟨g, i * 3 + 2, none⟩ = some (strV L[i].b) := by
  obtain ⟨g, cap, cur, hv, -, hB, hn, hcm, hcl, hct⟩ := h.pos (by omega)
  have hl := h.1
  have hc : ∀ j, j < 3 → w.cell? ⟨g, i * 3 + j, none⟩ = (L[i]).cells[j]? := fun j hj => by
    rw [hB.cell, getElem_take' hct (by omega), slotCells_at L i hi j hj]
  exact ⟨g, cap, hv, hn, hcm, hc 0 (by omega), hc 1 (by omega), hc 2 (by omega)⟩

set_option maxHeartbeats 1000000 in
theorem ref_at {w : World} {b : RefB} {r : Ref} (h : RefAt w b r) (_hl : r.now.length ≤ 60000) (l : Int) :
    Calls Tryz.prog 139 #[ptrV b.p, intV l] w fun e w' => e = .returned (.bool (r.at_ l)) ∧ w = w' := by
  obtain ⟨-, k1, -, -⟩ := h.cells
  obtain ⟨na, nc, hnv, hn1, hn2⟩ := h.n.shape
  by_cases h0 : l < 0
  · have hr : r.at_ l = false := by unfold Ref.at_; simp; omega
    rw [hr]
    have z1 : decide (0 ≤ l) = false := by simp; omega
    rw [hnv] at k1
    clear hr h hnv
    go_enter Tryz.func139, Tryz.ntmps139
    go_wp2_with fail
    go_ret
    exact ⟨rfl, rfl⟩
  · have z1 : decide (0 ≤ l) = true := by simp; omega
    by_cases h1 : (r.now.length : Int) ≤ l
    · have hr : r.at_ l = false := by unfold Ref.at_; simp; omega
      rw [hr]
      have z2 : decide (l < (r.now.length : Int)) = false := by simp; omega
      rw [hnv] at k1
      clear hr h hnv
      go_enter Tryz.func139, Tryz.ntmps139
      go_wp2_with fail
      go_ret
      exact ⟨rfl, rfl⟩
    · obtain ⟨i, rfl⟩ : ∃ i : Nat, l = i := ⟨l.toNat, by omega⟩
      have hi : i < r.now.length := by omega
      obtain ⟨g, cap, hv, -, -, c0, -, -⟩ := slot_cells h.n i hi
      rw [hv] at k1
      have hr : r.at_ i = r.now[i].is := by
        unfold Ref.at_ Ref.slot
        rw [Int.toNat_natCast]
        simp [hi]
      rw [hr]
      have z2 : decide ((i : Int) < (r.now.length : Int)) = true := by simp; omega
      have z4 : (i : Int) < (r.now.length : Int) := by omega
      generalize r.now[i].is = x at *
      generalize r.now.length = n at *
      clear hr hv hnv h
      go_enter Tryz.func139, Tryz.ntmps139
      go_wp2_with fail
      go_ret
      exact ⟨rfl, rfl⟩

end Go.Proofs.YtjbpdgknhbnfgaaGreat
