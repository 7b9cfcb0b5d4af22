/- A part of the walks of the program's functions, each a contract that its caller uses; no condition but what each theorem names. The walk of chain.Put where there is no room. Bytes made of a string: their row bears the run-time's mark behind its end; append onto them, and back to a string. The walks of the law's long, and of the reference's Need. The walk of the law's begun. The chain functions over a pool that the law has made: contracts that say nothing of where it lies. The walk of the law's awake. The walks of the laws ChainNone, ChainBack, ChainFull, ChainApart. -/
import Derived.Test.YtfdhlpdmbgjkdaaM9

namespace Go.Proofs.Ytfdhlpdmbgjkdaa
open Go.RowKit
set_option maxRecDepth 100000
attribute [local go_sem ↓] add_str9
attribute [local go_sem] strOf_strV

theorem nodup_rev {α : Type} {l : List α} (h : l.Nodup) : l.reverse.Nodup := List.pairwise_reverse.2 (h.imp fun hn e => hn e.symm)
theorem there_dropped (A : Pages) (ps : List Int) (hnd : ps.Nodup) (hth : ∀ l ∈ ps, ∃ b, lookup A l = some b) (k : Nat) (hk : k < ps.length) : ∃ bs, lookup (dropAll A (ps.take k)) ps[k] = some bs := by
  obtain ⟨bs, hbs⟩ := hth ps[k] (List.getElem_mem hk)
  refine ⟨bs, ?_⟩
  rw [dropAll_lookup, if_neg, hbs]
  · intro hm
    have := List.take_append_drop k ps
    rw [← this, List.nodup_append] at hnd
    have hd : ps[k] ∈ ps.drop k := by
      rw [List.drop_eq_getElem_cons hk]
      exact List.mem_cons_self
    exact hnd.2.2 _ hm _ hd rfl
  · intro p hp
    obtain ⟨bs', hb'⟩ := hth p (List.mem_of_mem_take hp)
    exact lookup_nonneg hb'

set_option maxHeartbeats 2000000 in
theorem chain_put_full {w : World} {b : PoolB} {A : Pages} {f : Nat} (h : PoolIs w b A f) (v : Bytes) (hv : v.length ≤ 1024) (hA : A.length ≤ 500) (hf : f < chainNeed v.length) :
    Calls Try.prog 9 #[ptrV b.p, strV v] w fun e w' => e = .returned (.tuple #[intV 0, intV 11]) ∧
      PoolTo b w w' (dropAll (laid v (chainNeed v.length) A f).1 (cpages (laid v (chainNeed v.length) A f).2).reverse) f := by
  have HS := Lib.hid (ChPut.start h v)
  have hneed := fun (wr : World) => chain_need v.length wr (by omega)
  have hk1 : 1 ≤ chainNeed v.length ∧ chainNeed v.length ≤ 5 ∧ (chainNeed v.length - 1) * 228 ≤ v.length := by unfold chainNeed; omega
  have hlo := fun j (hj : j ≤ 5) => laid_ok v (chainNeed v.length) A j (by omega)
  have HO := Lib.hid h.lt
  generalize chainNeed v.length = k at *
  obtain ⟨hk1, hk5, hkv⟩ := hk1
  have HN := Lib.hid hneed
  have HLO := Lib.hid hlo
  clear h hneed hlo
  go_enter Try.func9, Try.ntmps9
  have hmf : ∀ (fn : Fn) (first cap : Array Value) (w : World), (Instr.makeFunc fn first cap).run Try.prog w = .ok (.func fn first cap) w := fun _ _ _ _ => rfl
  go_wp2_with (first
    | (go_at_call 13; with_reducible refine (HN.out _).mono ?_; rintro e w1 ⟨rfl, rfl⟩))
  go_loopw [7, 8, 9] (fun mv nx i wr => ∃ (j : Nat) (x y : Int) (sb : StoreB), j ≤ f ∧ x = nxt (laid v k A j).2 ∧ nx = intV x ∧ y = (k : Int) - 1 - j ∧ i = .int .i64 y ∧
    ChPut (w.alloc (.cells #[strV v] 9)) wr b sb w.heap.size v (laid v k A j).1 (f - j) mv (cpages (laid v k A j).2).reverse) (fun _ _ i _ => (intOf i + 1).toNat)
  case atStart => exact ⟨0, -1, (k : Int) - 1, b.s, Nat.zero_le _, rfl, rfl, by omega, rfl, HS.out⟩
  case round =>
    obtain ⟨j, x, y, sb, hj, hx, rfl, hy, rfl, hs⟩ := hrel
    by_cases hlt : j < f
    · obtain ⟨i, hi⟩ : ∃ i : Nat, i = k - 1 - j := ⟨_, rfl⟩
      obtain rfl : y = (i : Int) := by omega
      have hlo := HLO.out j (by omega)
      have hnx := hlo.chain.nxt_bd
      have hlen := hlo.len
      have hstep : laid v k A (j + 1) = (addPage (laid v k A j).1 (pad (linkBytes x (piece v i))), (((holeOf (laid v k A j).1 : Nat) : Int), piece v i) :: (laid v k A j).2) := by
        rw [hx, hi]
        rfl
      rw [← hx] at hnx
      have hclo := chain_put1 v hs.box i (by have : i * 228 ≤ (k - 1) * 228 := Nat.mul_le_mul_right _ (by omega)
                                             omega) (by omega)
      have hpl := piece_length v i
      have hhole := holeOf_le (laid v k A j).1
      have hnew := fun (wr : World) (sb : StoreB) (hp : PoolIs wr { b with s := sb } (laid v k A j).1 (f - j)) => (show Calls Try.prog 24 #[ptrV b.p, strV (two (x + 1) ++ (two (piece v i).length ++ piece v i))] wr fun e w' => e = .returned (.tuple #[intV (holeOf (laid v k A j).1), intV 0]) ∧
          PoolTo { b with s := sb } wr w' (addPage (laid v k A j).1 (pad (linkBytes x (piece v i)))) (f - (j + 1)) by
        have e1 : f - j = (f - (j + 1)) + 1 := by omega
        rw [e1] at hp
        have := pool_new_ok hp (linkBytes x (piece v i)) (by simp [linkBytes, two]; omega) (by omega)
        exact this)
      have hps : (cpages ((((holeOf (laid v k A j).1 : Nat) : Int), piece v i) :: (laid v k A j).2)).reverse = (cpages (laid v k A j).2).reverse ++ [((holeOf (laid v k A j).1 : Nat) : Int)] := by simp [cpages]
      have hpsl : (cpages (laid v k A j).2).reverse.length ≤ 5 := by
        rw [List.length_reverse]
        have := hlo.many
        simp only [cpages, List.length_map]
        omega
      obtain ⟨hlx, hhx⟩ : ∃ h, h = holeOf (laid v k A j).1 := ⟨_, rfl⟩
      rw [← hhx] at hstep hnew hps hhole
      clear hhx
      generalize laid v k A j = s at *
      generalize piece v i = pc at *
      generalize (cpages s.2).reverse = ps at *
      have hib : (i : Int) ≤ 4 := by omega
      have hib0 : (0 : Int) ≤ (i : Int) := by omega
      have HST := Lib.hid hstep
      have HCL := Lib.hid hclo
      have HNW := Lib.hid hnew
      have HPS := Lib.hid hps
      have HJ := Lib.hid hlt
      have HP := Lib.hid hs
      have HI := Lib.hid hi
      have i1 : IsStr (strV (two (x + 1))) := IsStr.mk' (by simp [two])
      have i2 : IsStr (strV (two pc.length)) := IsStr.mk' (by simp [two])
      have i3 : IsStr (strV (two (x + 1) ++ two pc.length)) := IsStr.mk' (by simp [two])
      have i4 : IsStr (strV pc) := IsStr.mk' (by omega)
      obtain ⟨ma, mc, rfl, hma, hmc⟩ := hs.l.shape
      clear hlo hstep hclo hnew hps hlt hs hx hi hy hlen hhole
      go_wp2_with (first
        | (go_at_call 23; with_reducible refine HCL.out.mono ?_; rintro e w1 ⟨rfl, rfl⟩)
        | (go_at_call 25; with_reducible refine (chain_two _ _ (by omega) (by omega)).mono ?_; rintro e w1 ⟨rfl, hc⟩; have HP := Lib.hid (HP.out.on0 hc); clear hc)
        | (go_at_call 24; with_reducible refine (HNW.out _ _ HP.out.pool).mono ?_; rintro e w1 ⟨rfl, hp⟩; obtain ⟨sb2, hp2⟩ := HP.out.onPool hp; have HQ := Lib.hid hp2; clear hp hp2)
        | (refine wpList_append rfl (.tmp 61) (.tmp 63) 34 34 rfl 3 1 8 (intV 0) Try.underlying34 info_int rfl (by omega) (.slice ma ps.length mc) ps.length 1 (ints ps) [intV hlx] rfl (by exact (HQ.out.on0 ((Chg.refl [] _).alloc _)).l) (by exact src_new' Try.underlying34 _ 3 [intV hlx] _ 1 1 rfl rfl (by simp [Value.oneCell'])) (by omega) (by unfold maxLen; omega) ?_; intro ad c w2 hown hc2 hg2 hcm hnc
           have HZ := Lib.hid ((HQ.out.on0 ((Chg.refl [] _).alloc _)).onList hown hc2 hg2); clear hown hc2 hg2))
      go_roundw
      case rel =>
        refine ⟨j + 1, hlx, (i : Int) - 1, sb2, by have := HJ.out; omega, by rw [HST.out]; rfl, rfl, by have := HJ.out; have := HI.out; omega, by go_num, ?_⟩
        rw [HST.out]
        dsimp only
        rw [HPS.out]
        exact HZ.out
      case measure => simp [intOf]
    · obtain rfl : j = f := by omega
      obtain ⟨i, hi⟩ : ∃ i : Nat, i = k - 1 - j := ⟨_, rfl⟩
      obtain rfl : y = (i : Int) := by omega
      have hlo := HLO.out j (by omega)
      have hnx := hlo.chain.nxt_bd
      have hlen := hlo.len
      rw [← hx] at hnx
      have hclo := chain_put1 v hs.box i (by have : i * 228 ≤ (k - 1) * 228 := Nat.mul_le_mul_right _ (by omega)
                                             omega) (by omega)
      have hpl := piece_length v i
      have hhole := holeOf_le (laid v k A j).1
      have hnew := fun (wr : World) (sb : StoreB) (hp : PoolIs wr { b with s := sb } (laid v k A j).1 (j - j)) => (show Calls Try.prog 24 #[ptrV b.p, strV (two (x + 1) ++ (two (piece v i).length ++ piece v i))] wr fun e w' => e = .returned (.tuple #[intV 0, intV 11]) ∧
          PoolTo { b with s := sb } wr w' (laid v k A j).1 0 by
        rw [Nat.sub_self] at hp
        exact pool_new_full hp (linkBytes x (piece v i)) (by simp [linkBytes, two]; omega))
      have hth : ∀ m (hm : m < (cpages (laid v k A j).2).reverse.length), ∃ bs, lookup (dropAll (laid v k A j).1 ((cpages (laid v k A j).2).reverse.take m)) (cpages (laid v k A j).2).reverse[m] = some bs := there_dropped _ _ (nodup_rev hlo.nodup) (fun l hl => hlo.chain.there l (List.mem_reverse.1 hl))
      have hpsl : (cpages (laid v k A j).2).reverse.length ≤ 5 := by
        rw [List.length_reverse]
        have := hlo.many
        simp only [cpages, List.length_map]
        omega
      have hpj : (cpages (laid v k A j).2).reverse.length = j := by
        rw [List.length_reverse]
        have := hlo.many
        simpa [cpages] using this
      have HPJ : Hid ((cpages (laid v k A j).2).reverse.length = j) := Lib.hid hpj
      clear hpj
      generalize hs0 : laid v k A j = s at *
      generalize piece v i = pc at *
      generalize hp0 : (cpages s.2).reverse = ps at *
      have HS0 := Lib.hid hs0
      have HP0 := Lib.hid hp0
      clear hs0 hp0
      have hib : (i : Int) ≤ 4 := by omega
      have hib0 : (0 : Int) ≤ (i : Int) := by omega
      have HTH := Lib.hid hth
      have HCL := Lib.hid hclo
      have HNW := Lib.hid hnew
      have HP := Lib.hid hs
      have HI := Lib.hid hi
      have i1 : IsStr (strV (two (x + 1))) := IsStr.mk' (by simp [two])
      have i2 : IsStr (strV (two pc.length)) := IsStr.mk' (by simp [two])
      have i3 : IsStr (strV (two (x + 1) ++ two pc.length)) := IsStr.mk' (by simp [two])
      have i4 : IsStr (strV pc) := IsStr.mk' (by omega)
      obtain ⟨ma, mc, rfl, hma, hmc⟩ := hs.l.shape
      clear hlo hclo hnew hlt hs hx hi hy hlen hhole hth
      go_wp2_with (first
        | (go_at_call 23; with_reducible refine HCL.out.mono ?_; rintro e w1 ⟨rfl, rfl⟩)
        | (go_at_call 25; with_reducible refine (chain_two _ _ (by omega) (by omega)).mono ?_; rintro e w1 ⟨rfl, hc⟩; have HP := Lib.hid (HP.out.on0 hc); clear hc)
        | (go_at_call 24; with_reducible refine (HNW.out _ _ HP.out.pool).mono ?_; rintro e w1 ⟨rfl, hp⟩; obtain ⟨sb2, hp2⟩ := HP.out.onPool hp; have HQ := Lib.hid hp2; clear hp hp2))
      go_loopw [52] (fun i wr => ∃ (m : Nat) (sb : StoreB), m ≤ ps.length ∧ i = .int .i64 m ∧ ChPut (w.alloc (.cells #[strV v] 9)) wr b sb w.heap.size v (dropAll s.1 (ps.take m)) m (.slice ma ps.length mc) ps) (fun i _ => ps.length - (intOf i).toNat)
      case atStart => exact ⟨0, sb2, Nat.zero_le _, rfl, HQ.out⟩
      case round =>
        obtain ⟨m, sb3, hm, rfl, hs3⟩ := hrel
        by_cases hmlt : m < ps.length
        · obtain ⟨g, cap, cur, hv3, -, -⟩ := hs3.l.pos (by omega)
          have hcell := hs3.l.cell hv3 hmlt
          simp at hv3
          obtain ⟨rfl, rfl⟩ := hv3
          obtain ⟨bs, hbs⟩ := HTH.out m hmlt
          obtain ⟨p, hp⟩ : ∃ p, ps[m] = p := ⟨_, rfl⟩
          rw [hp] at hbs
          have k0 : wr.cell? ⟨g, m, none⟩ = some (intV p) := by
            rw [hcell.1, ints_get, List.getElem?_eq_getElem hmlt, hp]
            rfl
          have HS3 := Lib.hid hs3
          have HD : Hid (Calls Try.prog 26 #[ptrV b.p, intV p] wr fun e w' => e = .returned (intV 0) ∧ PoolTo { b with s := sb3 } wr w' (dropAll s.1 (ps.take (m + 1))) (m + 1)) := Lib.hid (by
            rw [List.take_succ_eq_append_getElem hmlt, dropAll_snoc, hp]
            exact pool_drop_at hs3.pool p hbs)
          have hltI : (m : Int) < (ps.length : Int) := by omega
          clear hs3 hbs hp hcell
          go_wp2_with (first
            | (go_at_call 26; with_reducible refine HD.out.mono ?_; rintro e w2 ⟨rfl, h2⟩; obtain ⟨sb4, hs4⟩ := HS3.out.onPool h2; have H2 := Lib.hid hs4; clear h2 hs4))
          go_roundw
          case rel => exact ⟨m + 1, sb4, hmlt, by go_num, H2.out⟩
          case measure => simp [intOf]; omega
        · obtain rfl : m = ps.length := by omega
          have HS3 := Lib.hid hs3
          clear hs3
          go_wp2_with fail
          go_ret2
          refine ⟨rfl, sb3, ?_, (Grew.same ((Chg.refl _ _).alloc _) HO.out).trans HS3.out.grew⟩
          have hpp := HS3.out.pool
          rw [List.take_length, HPJ.out] at hpp
          rw [HS0.out, HP0.out]
          exact hpp

end Go.Proofs.Ytfdhlpdmbgjkdaa

namespace Go.Proofs.Ytfdhlpdmbgjkdaa
open Go.RowKit
set_option maxRecDepth 100000

/-- Block b is a row of the cells cs, of which none is frozen. -/
def BlkZ (w : World) (b : Nat) (T : TypeId) (cs : List Value) : Prop := ∃ fz : Nat × Nat, w.heap[b]? = some (.cells cs.toArray T fz) ∧ (fz = (0, 0) ∨ cs.length ≤ fz.1)
theorem Blk.z {w : World} {b : Nat} {T : TypeId} {cs : List Value} (h : Blk w b T cs) : BlkZ w b T cs := ⟨(0, 0), h, .inl rfl⟩
theorem BlkZ.lt {w : World} {b : Nat} {T : TypeId} {cs : List Value} (h : BlkZ w b T cs) : b < w.heap.size := by
  obtain ⟨fz, h, -⟩ := h
  exact (Array.getElem?_eq_some_iff.1 h).1
theorem BlkZ.cell {w : World} {b : Nat} {T : TypeId} {cs : List Value} (h : BlkZ w b T cs) (i : Nat) : w.cell? ⟨b, i, none⟩ = cs[i]? := by
  obtain ⟨fz, h, -⟩ := h
  rw [cell_of_row w b i _ T fz h]
  simp
theorem BlkZ.free {w : World} {b : Nat} {T : TypeId} {cs : List Value} (h : BlkZ w b T cs) {i : Nat} (hi : i < cs.length) : w.frozen? ⟨b, i, none⟩ = false := by
  obtain ⟨⟨lo, hi'⟩, h, hz⟩ := h
  simp only [World.frozen?, h]
  rcases hz with hz | hz
  · simp at hz
    obtain ⟨rfl, rfl⟩ := hz
    simp
  · have : ¬ lo ≤ i := by
      have : cs.length ≤ lo := hz
      omega
    simp [this]
theorem BlkZ.set {w : World} {b : Nat} {T : TypeId} {cs : List Value} (h : BlkZ w b T cs) (i : Nat) (v : Value) : BlkZ (w.setCell ⟨b, i, none⟩ v) b T (cs.set i v) := by
  obtain ⟨fz, h, hz⟩ := h
  refine ⟨fz, ?_, by rw [List.length_set]; exact hz⟩
  simp [World.setCell, Array.getElem?_modify, h]
theorem BlkZ.kept {w w' : World} {F : List Nat} {b : Nat} {T : TypeId} {cs : List Value} (h : BlkZ w b T cs) (hc : Chg F w w') (hn : b ∉ F) : BlkZ w' b T cs := by
  have hl := h.lt
  obtain ⟨fz, h, hz⟩ := h
  exact ⟨fz, by rw [hc.block b hl hn]; exact h, hz⟩
theorem setCells_blkZ (g : Nat) (T : TypeId) : ∀ (vs : List Value) (o : Nat) (w : World) (cs : List Value), BlkZ w g T cs → o + vs.length ≤ cs.length → BlkZ (w.setCells g o vs) g T (lay cs o vs)
  | [], o, w, cs, h, _ => by simpa [World.setCells, lay] using h
  | v :: r, o, w, cs, h, hl => by
    simp only [World.setCells]
    have := setCells_blkZ g T r (o + 1) _ _ (h.set o v) (by simp at hl ⊢; omega)
    have e : lay (cs.set o v) (o + 1) r = lay cs o (v :: r) := by
      apply List.ext_getElem?
      intro i
      simp at hl
      rw [lay_get _ _ _ (by simp; omega), lay_get _ _ _ (by simp; omega), List.getElem?_set]
      simp only [List.length_cons]
      by_cases c1 : o + 1 ≤ i ∧ i < o + 1 + r.length
      · rw [if_pos c1, if_pos (by omega), show i - o = (i - (o + 1)) + 1 by omega, List.getElem?_cons_succ]
      · rw [if_neg c1]
        by_cases c2 : o = i
        · subst c2
          rw [if_pos rfl, if_pos (by omega), if_pos (by omega), Nat.sub_self]
          rfl
        · rw [if_neg c2, if_neg (by omega)]
    rwa [e] at this

def OwnZ (w : World) (e : TypeId) (v : Value) (n : Nat) (xs : List Value) : Prop :=
  xs.length = n ∧ ((∃ a, v = .slice a 0 0 ∧ n = 0) ∨
    ∃ g cap cur, v = .slice (some ⟨g, 0, none⟩) n cap ∧ BlkZ w g e cur ∧ n ≤ cap ∧ 0 < cap ∧ cap ≤ maxLen ∧ cur.length = cap ∧ cur.take n = xs)
theorem OwnZ.shape {w : World} {e : TypeId} {v : Value} {n : Nat} {xs : List Value} (h : OwnZ w e v n xs) : ∃ a c, v = .slice a n c ∧ n ≤ c ∧ c ≤ maxLen := by
  rcases h.2 with ⟨a, rfl, rfl⟩ | ⟨g, cap, cur, rfl, _, h1, _, h2, _⟩
  · exact ⟨a, 0, rfl, Nat.le_refl _, Nat.zero_le _⟩
  · exact ⟨_, _, rfl, h1, h2⟩
theorem OwnZ.kept {w w' : World} {F : List Nat} {e : TypeId} {v : Value} {n : Nat} {xs : List Value} (h : OwnZ w e v n xs) (hc : Chg F w w') (hn : ∀ k ∈ ownBlk v, k ∉ F) : OwnZ w' e v n xs := by
  refine ⟨h.1, ?_⟩
  rcases h.2 with hl | ⟨g, cap, cur, rfl, hg, h1, hp, rest⟩
  · exact .inl hl
  · obtain ⟨c, rfl⟩ : ∃ c, cap = c + 1 := ⟨cap - 1, by omega⟩
    exact .inr ⟨g, c + 1, cur, rfl, hg.kept hc (hn g (by simp [ownBlk])), h1, hp, rest⟩

section
variable {P : Program}
theorem run_appendZ {w : World} {t tx ty e : TypeId} {bytes : Nat} (z : Value) (ht : P.underlying t = some (.slice e)) (hi : (P.info? e).map (fun i => (i.zero, i.size, i.bytes)) = some (some z, 1, bytes)) (hzs : z.cells.size = 1)
    {v x : Value} {n m : Nat} {xs news : List Value} (hown : OwnZ w e v n xs) (hs : Src P 1 tx x m news w) (hbytes : (n + m) * bytes ≤ 140737488355328) (h63 : n + m ≤ maxLen) :
    ∃ a c w', (Builtin.append_ #[t, tx] ty #[v, x]).run P w = .ok (.slice a (n + m) c) w' ∧ OwnZ w' e (.slice a (n + m) c) (n + m) (xs ++ news) ∧ Chg (ownBlk v) w w' ∧
      (∀ k ∈ ownBlk (.slice a (n + m) c), k ∈ ownBlk v ∨ w.heap.size ≤ k) ∧ c ≤ maxLen ∧ n + m ≤ c := by
  cases hq : P.info? e with
  | none => simp [hq] at hi
  | some i =>
    simp [hq] at hi
    obtain ⟨hz, hi1, rfl⟩ := hi
    have hl := hown.1
    have hnl := hs.newsLen
    have hlen : (xs ++ news).length = n + m := by rw [List.length_append, hl, hnl]; omega
    have hsmall : n + m ≤ 9223372036854775807 := by simp only [maxLen] at h63; omega
    rw [← hi1] at hs
    have grown : ∀ (base : Option Addr) (sCap : Nat), v = .slice base n sCap → n ≤ sCap → sCap < n + m → (Builtin.firstCells i.size n v).run P w.drew = .ok xs.toArray w.drew →
        ∃ a c w', (Builtin.append_ #[t, tx] ty #[v, x]).run P w = .ok (.slice a (n + m) c) w' ∧ OwnZ w' e (.slice a (n + m) c) (n + m) (xs ++ news) ∧ Chg (ownBlk v) w w' ∧
        (∀ k ∈ ownBlk (.slice a (n + m) c), k ∈ ownBlk v ∨ w.heap.size ≤ k) ∧ c ≤ maxLen ∧ n + m ≤ c := by
      intro base sCap hv hle hlt hold
      subst hv
      have hr := run_append_grow_src (P := P) w t tx ty e i z ht hq hz base n sCap xs hold x m news hs hlt (by omega) (growslice_fits (by omega) hbytes)
      have hge := grownCap_ge w (n + m) sCap e
      have hcm : grownCap w (n + m) sCap e ≤ maxLen := grownCap_le_maxLen w (n + m) sCap e h63
      have hB : Blk (w.drew.alloc (.cells ((xs ++ news) ++ (Builtin.zeroCells z.cells (grownCap w (n + m) sCap e - (n + m))).toList).toArray e)) w.heap.size e ((xs ++ news) ++ (Builtin.zeroCells z.cells (grownCap w (n + m) sCap e - (n + m))).toList) := Blk.new w.drew _ _
      refine ⟨_, _, _, hr, ⟨hlen, .inr ⟨w.heap.size, _, (xs ++ news) ++ (Builtin.zeroCells z.cells (grownCap w (n + m) sCap e - (n + m))).toList, rfl, ?_, hge, by omega, hcm, ?_, ?_⟩⟩, (((Chg.refl _ w).drew).alloc _), ?_, hcm, hge⟩
      · have e1 : ((xs ++ news) ++ (Builtin.zeroCells z.cells (grownCap w (n + m) sCap e - (n + m))).toList).toArray = (xs ++ news).toArray ++ Builtin.zeroCells z.cells (grownCap w (n + m) sCap e - (n + m)) := by
          apply Array.ext'
          simp
        rw [e1] at hB
        exact hB.z
      · rw [List.length_append, hlen, Array.length_toList, size_zeroCells', hzs]
        omega
      · rw [← hlen]
        exact List.take_left
      · intro k hk
        obtain ⟨c, hc⟩ : ∃ c, grownCap w (n + m) sCap e = c + 1 := ⟨grownCap w (n + m) sCap e - 1, by omega⟩
        rw [hc] at hk
        simp [ownBlk] at hk
        exact .inr (by omega)
    have hsrc := Lib.hid hs
    rcases hown.2 with ⟨a, rfl, rfl⟩ | ⟨g, cap, cur, rfl, hB, hn, h0, hcm, hcl, htk⟩
    · have hx : xs = [] := List.eq_nil_of_length_eq_zero hl
      subst hx
      by_cases hm : m = 0
      · subst hm
        have hne : news = [] := List.eq_nil_of_length_eq_zero (by simpa using hnl)
        subst hne
        refine ⟨a, 0, w, ?_, ⟨rfl, .inl ⟨a, rfl, rfl⟩⟩, Chg.refl _ _, fun k hk => .inl hk, by simp [maxLen], by omega⟩
        rcases hs.kind with ⟨e', hk⟩ | hk <;> cases a <;>
          simp [Builtin.append_, run_underlying ht, run_underlying hk, sizeOf, typeInfo, hq, hs.len, hs.cells, Go.storeCells]
      · refine grown a 0 rfl (by omega) (by omega) ?_
        cases a <;> simp [Builtin.firstCells, loadCells, loadCellsFrom]
    · by_cases hroom : n + m ≤ cap
      · have hfit : n + news.length ≤ cur.length := by omega
        have hr := run_append_room_src (P := P) w t tx ty e i ht hq g 0 n cap x m news hs hroom
          (fun j hj => by rw [hB.cell]; simp only [Nat.zero_add, hi1]; rw [List.getElem?_eq_getElem (by omega)]; rfl) (fun j hj => hB.free (by simp only [Nat.zero_add, hi1]; omega))
        simp only [Nat.zero_add, hi1, Nat.mul_one] at hr
        have hB' := setCells_blkZ g e news n w cur hB hfit
        obtain ⟨c, rfl⟩ : ∃ c, cap = c + 1 := ⟨cap - 1, by omega⟩
        refine ⟨_, _, _, hr, ⟨hlen, .inr ⟨g, c + 1, _, rfl, hB', hroom, h0, hcm, ?_, ?_⟩⟩, chg_setCells g _ w (.inl (by simp [ownBlk])) news _ w (Chg.refl _ _), fun k hk => .inl (by simpa [ownBlk] using hk), hcm, hroom⟩
        · rw [lay_length' _ _ _ hfit]; exact hcl
        · rw [← hlen, ← htk]
          unfold lay
          rw [← List.append_assoc]
          exact List.take_left' (by simp)
      · refine grown _ cap rfl hn (by omega) ?_
        have := run_firstCells_some (P := P) w.drew i.size n ⟨g, 0, none⟩ n cap xs (by rw [hi1]; omega) (fun j u hu => by
          have hj : j < xs.length := (List.getElem?_eq_some_iff.1 hu).1
          have hb2 : BlkZ w.drew g e cur := hB.kept (F := []) ((Chg.refl _ _).drew) (by simp)
          rw [add_spot, hb2.cell, Nat.zero_add, getElem_take' htk hj]
          exact hu)
        exact this
end

section
variable {P : Program} {w : World} {ops : Array Oper} {rest : List Oper} {o : Oper} {a : Act} {Q : Exit → Act → World → Prop}
theorem wpList_appendZ (hgd : o.guard = none) (s x : Operand) (t tx : TypeId) (ho : o.op = .call { callee := .builtin .append, args := #[s, x], argTypes := #[t, tx] })
    (e : TypeId) (bytes : Nat) (z : Value) (ht : P.underlying t = some (.slice e)) (hi : (P.info? e).map (fun i => (i.zero, i.size, i.bytes)) = some (some z, 1, bytes)) (hzs : z.cells.size = 1)
    (v : Value) (n m : Nat) (xs news : List Value) (hv : a.eval s = v) (hown : OwnZ w e v n xs) (hs : Src P 1 tx (a.eval x) m news w) (hbytes : (n + m) * bytes ≤ 140737488355328) (h63 : n + m ≤ maxLen)
    (h : ∀ ad c w', OwnZ w' e (.slice ad (n + m) c) (n + m) (xs ++ news) → Chg (ownBlk v) w w' → (∀ k ∈ ownBlk (.slice ad (n + m) c), k ∈ ownBlk v ∨ w.heap.size ≤ k) → c ≤ maxLen → n + m ≤ c →
      wpList P ops Q rest (a.put o.dst (.slice ad (n + m) c)) w') : wpList P ops Q (o :: rest) a w := by
  refine wpList_plain hgd fun K hK => ?_
  obtain ⟨ad, c, w', hr, h1, h2, h3, h4, h5⟩ := run_appendZ (P := P) (ty := o.type) z ht hi hzs hown hs hbytes h63
  unfold Oper.wp execOp
  simp only [ho, resolve, invoke, builtin, Sem.run_bind, Sem.run_pure, Result.andThen_ok, List.map_toArray, List.map_cons, List.map_nil, hv, hr]
  exact hK _ _ (h ad c w' h1 h2 h3 h4 h5)

/-- []byte(s) -/
theorem wpList_str_bytes (hgd : o.guard = none) (x : Operand) (src dst e : TypeId) (ho : o.op = .convert src dst x) (hs : P.underlying src = some .string) (hd : P.underlying dst = some (.slice e)) (he : P.underlying e = some (.int .u8))
    (l : Bytes) (hl : l.length ≤ maxLen) (hx : a.eval x = strV l)
    (h : ∀ ad c w', OwnZ w' e (.slice ad l.length c) l.length (byts l) → Chg [] w w' → (∀ k ∈ ownBlk (.slice ad l.length c), w.heap.size ≤ k) → c ≤ maxLen → l.length ≤ c →
      wpList P ops Q rest (a.put o.dst (.slice ad l.length c)) w') : wpList P ops Q (o :: rest) a w := by
  refine wpList_plain hgd fun K hK => ?_
  have hsz : (⟨l.toArray⟩ : ByteArray).size = l.length := by simp [ByteArray.size]
  have hr := Lib.run_convert_string_bytes (P := P) w src dst e ⟨l.toArray⟩ hs hd he
  rw [hsz] at hr
  have hge := grownCap_ge w l.length 0 e
  have hcm : grownCap w l.length 0 e ≤ maxLen := grownCap_le_maxLen w l.length 0 e hl
  have hcl : (Lib.bytesCells w e ⟨l.toArray⟩).toList = byts l ++ List.replicate (grownCap w l.length 0 e - l.length) (bytV 0) := by
    simp [Lib.bytesCells, byts, hsz]
  have hlen : (Lib.bytesCells w e ⟨l.toArray⟩).toList.length = grownCap w l.length 0 e := by rw [hcl]; simp; omega
  have hblk : BlkZ (Lib.bytesWorld w e ⟨l.toArray⟩) w.heap.size e (Lib.bytesCells w e ⟨l.toArray⟩).toList :=
    ⟨_, Lib.bytesWorld_at_new w e ⟨l.toArray⟩, .inr (by simp)⟩
  have hchg : Chg [] w (Lib.bytesWorld w e ⟨l.toArray⟩) := by
    refine ⟨?_, ?_, ?_, by rw [Lib.bytesWorld_size]; omega, fun k hk _ => Lib.bytesWorld_at_old w e _ k hk⟩
    all_goals
      unfold Lib.bytesWorld World.freeze
      split <;> rfl
  have hown : OwnZ (Lib.bytesWorld w e ⟨l.toArray⟩) e (.slice (some ⟨w.heap.size, 0, none⟩) l.length (grownCap w l.length 0 e)) l.length (byts l) := by
    refine ⟨length_byts _, ?_⟩
    by_cases h0 : grownCap w l.length 0 e = 0
    · left
      exact ⟨some ⟨w.heap.size, 0, none⟩, by rw [h0]; congr 1; omega, by omega⟩
    · right
      refine ⟨_, _, _, rfl, hblk, hge, by omega, hcm, hlen, ?_⟩
      rw [hcl]
      exact List.take_left' (length_byts _)
  unfold Oper.wp execOp
  simp only [ho, hx, Sem.run_bind, Sem.run_pure, Result.andThen_ok, hr]
  refine hK _ _ (h _ _ _ hown hchg (fun k hk => ?_) hcm hge)
  generalize grownCap w l.length 0 e = c at hk
  cases c with
  | zero => simp [ownBlk] at hk
  | succ c => simp [ownBlk] at hk; omega

/-- string(b) -/
theorem wpList_z_str (hgd : o.guard = none) (x : Operand) (src dst e : TypeId) (ho : o.op = .convert src dst x) (hs : P.underlying src = some (.slice e)) (he : P.underlying e = some (.int .u8)) (hd : P.underlying dst = some .string)
    (v : Value) (l : Bytes) (T : TypeId) (hx : a.eval x = v) (hown : OwnZ w T v l.length (byts l))
    (h : wpList P ops Q rest (a.put o.dst (strV l)) w) : wpList P ops Q (o :: rest) a w := by
  refine wpList_plain hgd fun K hK => ?_
  unfold Oper.wp execOp
  simp only [ho, hx]
  rcases hown.2 with ⟨ad, hv, hn⟩ | ⟨g, cap, cur, hv, hB, hn, h0, h1, h2, h3⟩
  · have hl : l = [] := List.eq_nil_of_length_eq_zero hn
    subst hl
    have hr : (convert src dst v).run P w = .ok (strV []) w := by
      rw [hv]
      cases ad with
      | none => rw [run_convert_bytes_nil (P := P) w src e hs he 0 0 dst hd]; rfl
      | some ad =>
        have := run_convert_bytes_string (P := P) w src dst e (some ad) 0 0 hs he hd
        rw [this, run_bytesToString w ad 0 0 [] (by simp [loadCells, loadCellsFrom])]
        rfl
    simp only [Sem.run_bind, Sem.run_pure, Result.andThen_ok, hr]
    exact hK _ _ h
  · rw [hv]
    have hr : (convert src dst (.slice (some ⟨g, 0, none⟩) l.length cap)).run P w = .ok (strV l) w := by
      have := run_convert_bytes_arg (P := P) w src e hs he g 0 l.length cap (l.map fun c => (c.toNat : Int)) (by simp) (fun i hi => by
        rw [hB.cell]
        have h1 : (cur.take l.length)[i]? = (byts l)[i]? := by rw [h3]
        rw [List.getElem?_take, if_pos hi] at h1
        rw [Nat.zero_add, h1]
        simp [byts, List.getD, hi]) dst hd
      rw [this]
      congr 2
      simp only [strOfNums, List.map_map]
      congr 2
      conv => rhs; rw [← List.map_id l]
      apply List.map_congr_left
      intro c _
      simp
    simp only [Sem.run_bind, Sem.run_pure, Result.andThen_ok, hr]
    exact hK _ _ h
end

end Go.Proofs.Ytfdhlpdmbgjkdaa

namespace Go.Proofs.Ytfdhlpdmbgjkdaa
open Go.RowKit
set_option maxRecDepth 100000

def longTo (l : Bytes) (k : Nat) : Bytes := l ++ (List.range k).map fun i => UInt8.ofNat i
def longL (l : Bytes) (n : Nat) : Bytes := longTo l (n - l.length)
theorem longTo_length (l : Bytes) (k : Nat) : (longTo l k).length = l.length + k := by simp [longTo]
theorem longL_length (l : Bytes) (n : Nat) : (longL l n).length = max l.length n := by unfold longL; rw [longTo_length]; omega
theorem longTo_succ (l : Bytes) (k : Nat) : byts (longTo l k) ++ [.int .u8 ((k : Int) % 256)] = byts (longTo l (k + 1)) := by
  unfold longTo byts
  rw [List.range_succ, List.map_append, List.map_append, List.map_append, List.map_append]
  have e : bytV (UInt8.ofNat k) = .int .u8 ((k : Int) % 256) := by
    show Value.int .u8 ((UInt8.ofNat k).toNat : Int) = _
    simp
  simp [e]

set_option maxHeartbeats 1000000 in
theorem law_long (l : Bytes) (n : Nat) (w : World) (hl : l.length ≤ 60000) (hn : n ≤ 60000) :
    Calls Try.prog 15 #[strV l, intV n] w fun e w' => e = .returned (strV (longL l n)) ∧ Chg [] w w' := by
  go_enter Try.func15, Try.ntmps15
  go_wp2_with (refine wpList_str_bytes rfl (.tmp 7) 9 65 5 rfl Try.underlying9 Try.underlying65 Try.underlying5 l (by unfold maxLen; omega) rfl ?_; intro ad c w1 hown hc hg hcm hnc; have O1 := Lib.hid hown; have C1 := Lib.hid hc; have G1 := Lib.hid hg; clear hown hc hg)
  go_loopw [5, 6] (fun bv i wr => ∃ (k c : Nat) (ad : Option Addr), k ≤ n - l.length ∧ i = .int .i64 k ∧ bv = .slice ad (l.length + k) c ∧ l.length + k ≤ c ∧ c ≤ maxLen ∧ OwnZ wr 5 (.slice ad (l.length + k) c) (l.length + k) (byts (longTo l k)) ∧ (∀ x ∈ ownBlk (.slice ad (l.length + k) c), w.heap.size ≤ x) ∧ Chg [] w wr) (fun _ i _ => n - (intOf i).toNat)
  case atStart => exact ⟨0, c, ad, Nat.zero_le _, rfl, rfl, hnc, hcm, by simpa [longTo] using O1.out, G1.out, C1.out⟩
  case round =>
    obtain ⟨k, c2, ad2, hk, rfl, rfl, hkc, hcm2, hown, hnew, hchg⟩ := hrel
    have HO := Lib.hid hown
    have HN := Lib.hid hnew
    have HC := Lib.hid hchg
    clear hown hnew hchg
    by_cases hlt : l.length + k < n
    · have hltI : (l.length : Int) + (k : Int) < (n : Int) := by omega
      have HS := Lib.hid (longTo_succ l k)
      go_wp2_with (refine wpList_appendZ rfl (.tmp 15) (.tmp 18) 65 65 rfl 5 1 (bytV 0) Try.underlying65 info_u8 rfl (.slice ad2 (l.length + k) c2) (l.length + k) 1 (byts (longTo l k)) [.int .u8 ((k : Int) % 256)] rfl (by exact HO.out.kept (F := []) ((Chg.refl _ _).alloc _) (fun _ _ h => by cases h)) (by exact src_new' Try.underlying65 _ 5 [.int .u8 ((k : Int) % 256)] _ 1 1 rfl rfl (by simp [Value.oneCell'])) (by omega) (by unfold maxLen; omega) ?_; intro ad3 c3 w3 hown hc hg hcm3 hnc3; have O3 := Lib.hid hown; have C3 := Lib.hid hc; have G3 := Lib.hid hg; clear hown hc hg)
      go_roundw
      case rel =>
        refine ⟨k + 1, c3, ad3, by omega, by go_num, rfl, hnc3, hcm3, ?_, fun x hx => ?_, ?_⟩
        · rw [← HS.out]
          exact O3.out
        · rcases G3.out x hx with h1 | h1
          · exact HN.out x h1
          · have h2 := HC.out.size
            simp at h1
            omega
        · exact (HC.out.alloc _).trans C3.out (fun g hg => .inr (HN.out g hg))
      case measure => simp [intOf]; omega
    · obtain rfl : k = n - l.length := by omega
      have HOZ : Hid (OwnZ wr 5 (.slice ad2 (l.length + (n - l.length)) c2) (longL l n).length (byts (longL l n))) := Lib.hid (by unfold longL; rw [longTo_length]; exact HO.out)
      have hltI : ¬ (l.length : Int) + ((n - l.length : Nat) : Int) < (n : Int) := by omega
      go_wp2_with (refine wpList_z_str rfl (.tmp 20) 65 9 5 rfl Try.underlying65 Try.underlying5 Try.underlying9 (.slice ad2 (l.length + (n - l.length)) c2) (longL l n) 5 rfl HOZ.out ?_)
      go_ret
      exact ⟨rfl, HC.out⟩

theorem ref16_need (n : Nat) (w : World) (hn : n ≤ 1000000) :
    Calls Try.prog 14 #[intV n] w fun e w' => e = .returned (intV (chainNeed n)) ∧ w = w' := by
  go_enter Try.func14, Try.ntmps14
  go_wp2_with fail
  go_loop [0, 3] (fun m k => ∃ (i j : Nat), i + 228 * j = n ∧ m = .int .i64 i ∧ k = .int .i64 ((j : Int) + 1) ∧ (j = 0 ∨ 0 < i)) (fun m _ => (intOf m).toNat)
  case atStart => exact ⟨n, 0, by omega, rfl, rfl, .inl rfl⟩
  case round =>
    obtain ⟨i, j, hij, rfl, rfl, hp⟩ := hrel
    by_cases h : 228 < i
    · have h2 : (228 : Int) < (i : Int) := by omega
      have h3 : (j : Int) ≤ 1000000 := by omega
      have h4 : (i : Int) ≤ 1000000 := by omega
      have HJ := Lib.hid hij
      clear hij hp
      go_wp2_with fail
      go_round
      case rel => exact ⟨i - 228, j + 1, by have := HJ.out; omega, by congr 1; omega, by congr 1, by omega⟩
      case measure => simp [intOf]; omega
    · have h2 : ¬ (228 : Int) < (i : Int) := by omega
      have HJ := Lib.hid hij
      have HP := Lib.hid hp
      clear hij hp
      go_wp2_with fail
      go_ret
      refine ⟨?_, rfl⟩
      have e : chainNeed n = j + 1 := by
        have := HJ.out
        have := HP.out
        unfold chainNeed
        omega
      rw [e]
      rfl

end Go.Proofs.Ytfdhlpdmbgjkdaa

namespace Go.Proofs.Ytfdhlpdmbgjkdaa
open Go.RowKit
set_option maxRecDepth 100000

theorem Disk.new_up (n : Nat) (h : n ≤ 4096) : (Disk.new n).Up := ⟨Disk.new_ok n h, rfl, rfl⟩
theorem Disk.new_pages (pg : Nat) (h : pg ≤ 1000) : (Disk.new (2 + 4 * pg)).pages = pg := by
  unfold Disk.pages Disk.many Disk.sectors Disk.new
  simp
  omega
theorem Disk.sync_up {D : Disk} (h : D.Up) : ∃ D', D.sync = (0, D') ∧ D'.Up ∧ D'.loose.length = D.loose.length ∧ D'.now = D.now := by
  unfold Disk.sync
  rw [if_neg (by rw [h.down]; simp), Disk.counts_up h.armed, if_neg (by simp)]
  refine ⟨_, rfl, ⟨⟨?_, ?_, ?_, ?_⟩, h.armed, h.down⟩, ?_, rfl⟩
  · simpa using h.ok.now
  · simpa using h.ok.old
  · simpa using h.ok.few
  · exact h.ok.armed
  · simp

theorem begun_disk (pg : Nat) (h1 : 1 ≤ pg) (h2 : pg ≤ 1000) : ∃ D1 D2 D3 : Disk, (Disk.new (2 + 4 * pg)).write 0 (Root.bytes ⟨1, 0, []⟩) = (0, D1) ∧ D1.write 1 [] = (0, D2) ∧ D2.sync = (0, D3) ∧ D3.Up ∧ D3.pages = pg := by
  have h0 := Disk.new_up (2 + 4 * pg) (by omega)
  have hl : (Disk.new (2 + 4 * pg)).loose.length = 2 + 4 * pg := by simp [Disk.new]
  obtain ⟨D1, e1, u1, l1, -⟩ := Disk.write_up h0 0 (by omega) (Root.bytes ⟨1, 0, []⟩)
  obtain ⟨D2, e2, u2, l2, -⟩ := Disk.write_up u1 1 (by omega) []
  obtain ⟨D3, e3, u3, l3, -⟩ := Disk.sync_up u2
  refine ⟨D1, D2, D3, e1, e2, e3, u3, ?_⟩
  rw [Store.pages_of_loose (l3.trans (l2.trans l1)), Disk.new_pages pg h2]

theorem begun_view (D : Disk) (pg fr : Nat) (hu : D.Up) (hp : D.pages = pg) (h1 : 1 ≤ fr) : Pool.View ⟨⟨D, List.replicate pg 0, [], [], [], 1, 0, false⟩, List.replicate fr Frame.empty, 0⟩ [] pg := by
  refine ⟨⟨⟨⟨by show (0 : Int) ≤ 1; omega, by show (1 : Int) ≤ _; omega⟩, by simp, by simp [hp], by simp, by simp⟩, hu, rfl, rfl, fun i x hx => by simp at hx, fun i j t hi => by simp at hi, ?_⟩, by simp; omega, fun f hf => ?_, fun f hf => ?_, fun i j p hi hj hp => ?_⟩
  · show List.countP (fun k => k == 0) (List.replicate pg (0 : Int)) = pg
    rw [List.countP_replicate]
    simp
  · rw [List.eq_of_mem_replicate hf]
    exact ⟨rfl, rfl⟩
  · rw [List.eq_of_mem_replicate hf]
    exact .inl (by show (-1 : Int) < 0; omega)
  · exfalso
    have hi' : (List.map Frame.page (List.replicate fr Frame.empty))[i]? = some p := hi
    rw [List.map_replicate] at hi'
    have := List.eq_of_mem_replicate (List.mem_of_getElem? hi')
    rw [this] at hp
    have : (0 : Int) ≤ -1 := hp
    omega

def BegunOk (w : World) (pg : Nat) (e : Ending) (w' : World) : Prop := ∃ (b : PoolB) (x : Nat), e = .returned (.tuple #[ptrV b.p, ptrV x]) ∧ PoolIs w' b [] pg ∧ Chg [] w w' ∧ ∀ k ∈ b.set, w.heap.size ≤ k

set_option maxHeartbeats 1000000 in
theorem law_begun (fr pg : Nat) (w : World) (f1 : 1 ≤ fr) (f2 : fr ≤ 32) (p1 : 1 ≤ pg) (p2 : pg ≤ 1000) :
    Calls Try.prog 7 #[intV fr, intV pg] w (BegunOk w pg) := by
  obtain ⟨D1, D2, D3, e1, e2, e3, hu, hp⟩ := begun_disk pg p1 p2
  have hnp := Disk.new_pages pg p2
  have hn : ∀ wr, Calls Try.prog 19 #[intV (2 + 4 * (pg : Int))] wr fun e w' => ∃ b : DiskB, e = .returned (.tuple #[ptrV b.d, intV 0]) ∧ DiskAt w' b (Disk.new (2 + 4 * pg)) ∧ Chg [] wr w' ∧ ∀ k ∈ b.set, wr.heap.size ≤ k := fun wr => by
    have := disk_new_ok wr (2 + 4 * pg) (by omega) (by omega)
    rw [show (((2 + 4 * pg : Nat) : Int)) = 2 + 4 * (pg : Int) by omega] at this
    exact this
  have hfm := fun (wr : World) (b : DiskB) (hd : DiskAt wr b (Disk.new (2 + 4 * pg))) => store_format hd (by rw [hnp]; omega) e1 e2 e3
  have hpl := fun (wr : World) (sb : StoreB) (hs : StoreAt wr sb ⟨D3, List.replicate pg 0, [], [], [], 1, 0, false⟩) => pool_new_pool hs fr f1 f2
  have hrf := fun (wr : World) (x : Nat) => ref15_new (w := wr) x fr (by omega)
  have hview := begun_view D3 pg fr hu hp f1
  rw [hnp] at hfm
  have HN := Lib.hid hn
  have HFM := Lib.hid hfm
  have HPL := Lib.hid hpl
  have HRF := Lib.hid hrf
  have HV := Lib.hid hview
  clear hn hfm hpl hrf hview e1 e2 e3 hu hp hnp
  have hpI : (pg : Int) ≤ 1000 := by omega
  go_enter Try.func7, Try.ntmps7
  go_wp2_with (first
    | (go_at_call 19; with_reducible refine (HN.out _).mono ?_; rintro e w1 ⟨b1, rfl, hd1, hc1, hb1⟩; have A1 := Lib.hid hd1; have C1 := Lib.hid hc1; have B1 := Lib.hid hb1; clear hd1 hc1 hb1)
    | (go_at_call 20; with_reducible refine (HFM.out _ _ A1.out).mono ?_; rintro e w2 ⟨b2, rfl, hb2, hs2, hc2, hn2⟩; have A2 := Lib.hid hs2; have C2 := Lib.hid hc2; have B2 := Lib.hid hn2; clear hb2 hs2 hc2 hn2)
    | (go_at_call 21; with_reducible refine (HPL.out _ _ A2.out).mono ?_; rintro e w3 ⟨b3, rfl, hb3, hp3, hc3, hn3⟩; have A3 := Lib.hid hp3; have C3 := Lib.hid hc3; have B3 := Lib.hid hn3; clear hb3 hp3 hc3 hn3)
    | (go_at_call 22; with_reducible refine (HRF.out _ _).mono ?_; rintro e w4 ⟨lv, rfl, hst⟩; have C4 := Lib.hid hst.chg; clear hst))
  go_ret2
  have k1 := C1.out
  have k2 : Chg [] w w2 := k1.trans C2.out fun g hg => .inr (B1.out g hg)
  refine ⟨b3, _, rfl, ⟨_, A3.out.kept0 (((Chg.refl [] _).alloc _).trans0 C4.out), HV.out⟩, ((k2.trans0 C3.out).alloc _).trans0 C4.out, fun k hk => ?_⟩
  rcases B3.out k hk with h1 | h1
  · rcases B2.out k h1 with h2 | h2
    · exact B1.out k h2
    · have := k1.size; omega
  · have := k2.size; omega

end Go.Proofs.Ytfdhlpdmbgjkdaa

namespace Go.Proofs.Ytfdhlpdmbgjkdaa
open Go.RowKit
set_option maxRecDepth 100000

/-- Since w a pool has been made, at block p; it is at rest. -/
def At (w wr : World) (p : Nat) (A : Pages) (f : Nat) : Prop := ∃ b : PoolB, b.p = p ∧ PoolIs wr b A f ∧ Chg [] w wr ∧ ∀ k ∈ b.set, w.heap.size ≤ k
/-- The same, and its store lies at block s. -/
def AtS (w wr : World) (p s : Nat) (A : Pages) (f : Nat) : Prop := ∃ b : PoolB, b.p = p ∧ b.s.s = s ∧ PoolIs wr b A f ∧ Chg [] w wr ∧ ∀ k ∈ b.set, w.heap.size ≤ k
theorem At.on0 {w wr w2 : World} {p : Nat} {A : Pages} {f : Nat} (h : At w wr p A f) (hc : Chg [] wr w2) : At w w2 p A f := by
  obtain ⟨b, h1, h2, h3, h4⟩ := h
  exact ⟨b, h1, h2.kept0 hc, h3.trans0 hc, h4⟩
theorem At.chg {w wr : World} {p : Nat} {A : Pages} {f : Nat} (h : At w wr p A f) : Chg [] w wr := by
  obtain ⟨b, h1, h2, h3, h4⟩ := h
  exact h3
theorem At.ofTo {w wr w2 : World} {b : PoolB} {A : Pages} {f : Nat} {A2 : Pages} {f2 : Nat} (h3 : Chg [] w wr) (h4 : ∀ k ∈ b.set, w.heap.size ≤ k) (_ : PoolIs wr b A f) (ht : PoolTo b wr w2 A2 f2) : At w w2 b.p A2 f2 := by
  obtain ⟨sb, p2, g2⟩ := ht
  refine ⟨{ b with s := sb }, rfl, p2, h3.trans g2.chg fun g hg => .inr (h4 g hg), fun k hk => ?_⟩
  rcases g2.from_ k hk with h5 | h5
  · exact h4 k h5
  · have := h3.size; omega
theorem At.ofIs {w wr w2 : World} {b : PoolB} {A : Pages} {f : Nat} (h3 : Chg [] w wr) (h4 : ∀ k ∈ b.set, w.heap.size ≤ k) (h2 : PoolIs w2 b A f) (hc : Chg b.set wr w2) : At w w2 b.p A f :=
  ⟨b, rfl, h2, h3.trans hc fun g hg => .inr (h4 g hg), h4⟩

def AtBegun (w : World) (pg : Nat) (e : Ending) (w' : World) : Prop := ∃ p x : Nat, e = .returned (.tuple #[ptrV p, ptrV x]) ∧ At w w' p [] pg
theorem at_begun (fr pg : Nat) (w : World) (f1 : 1 ≤ fr) (f2 : fr ≤ 32) (p1 : 1 ≤ pg) (p2 : pg ≤ 1000) : Calls Try.prog 7 #[intV fr, intV pg] w (AtBegun w pg) := by
  refine (law_begun fr pg w f1 f2 p1 p2).mono ?_
  rintro e w' ⟨b, x, rfl, h1, h2, h3⟩
  exact ⟨b.p, x, rfl, b, rfl, h1, h2, h3⟩

/-! the pages that a value has -/
def pagesOf (v : Bytes) (A : Pages) : Pages := (laid v (chainNeed v.length) A (chainNeed v.length)).1
def linksOf (v : Bytes) (A : Pages) : List Link := (laid v (chainNeed v.length) A (chainNeed v.length)).2
theorem chainNeed_bd {n : Nat} (h : n ≤ 1024) : 1 ≤ chainNeed n ∧ chainNeed n ≤ 5 ∧ n ≤ chainNeed n * 228 := by unfold chainNeed; omega
structure Holds (v : Bytes) (A A' : Pages) (r : List Link) : Prop where
  chain : Chain A' r
  some : r ≠ []
  many : r.length = chainNeed v.length
  few : r.length ≤ 5
  bytes : cbytes r = v
  nodup : (cpages r).Nodup
  old : ∀ l, l ∉ cpages r → lookup A' l = lookup A l
  new : ∀ l ∈ cpages r, lookup A l = none
  len : A'.length ≤ A.length + 5
theorem holds_of (v : Bytes) (A : Pages) (hv : v.length ≤ 1024) (hA : A.length ≤ 500) : Holds v A (pagesOf v A) (linksOf v A) := by
  have hk := chainNeed_bd hv
  have h := laid_ok v (chainNeed v.length) A (chainNeed v.length) (by omega)
  refine ⟨h.chain, fun e => ?_, h.many, ?_, ?_, h.nodup, h.old, h.new, ?_⟩
  · have := h.many
    unfold linksOf at e
    rw [e] at this
    have h0 : (0 : Nat) = chainNeed v.length := this
    omega
  · show (laid v (chainNeed v.length) A (chainNeed v.length)).2.length ≤ 5
    rw [h.many]; omega
  · unfold linksOf
    rw [laid_bytes v _ A _ (Nat.le_refl _), Nat.sub_self, pieces_all v _ _ (by omega), Nat.zero_mul, List.drop_zero]
  · show (laid v (chainNeed v.length) A (chainNeed v.length)).1.length ≤ _
    have := h.len
    omega

theorem at_put_ok {w wr : World} {p : Nat} {A : Pages} {f : Nat} (h : At w wr p A f) (v : Bytes) (hv : v.length ≤ 1024) (hA : A.length ≤ 500) (hf : chainNeed v.length ≤ f) :
    Calls Try.prog 9 #[ptrV p, strV v] wr fun e w' => e = .returned (.tuple #[intV (nxt (linksOf v A)), intV 0]) ∧ At w w' p (pagesOf v A) (f - chainNeed v.length) := by
  obtain ⟨b, rfl, h2, h3, h4⟩ := h
  refine (chain_put_ok h2 v hv hA hf).mono ?_
  rintro e w' ⟨rfl, ht⟩
  exact ⟨rfl, At.ofTo h3 h4 h2 ht⟩
theorem at_put_full {w wr : World} {p : Nat} {A : Pages} {f : Nat} (h : At w wr p A f) (v : Bytes) (hv : v.length ≤ 1024) (hA : A.length ≤ 500) (hf : f < chainNeed v.length) :
    Calls Try.prog 9 #[ptrV p, strV v] wr fun e w' => e = .returned (.tuple #[intV 0, intV 11]) ∧ At w w' p (dropAll (laid v (chainNeed v.length) A f).1 (cpages (laid v (chainNeed v.length) A f).2).reverse) f := by
  obtain ⟨b, rfl, h2, h3, h4⟩ := h
  refine (chain_put_full h2 v hv hA hf).mono ?_
  rintro e w' ⟨rfl, ht⟩
  exact ⟨rfl, At.ofTo h3 h4 h2 ht⟩
theorem at_put_big {w wr : World} {p : Nat} {A : Pages} {f : Nat} (h : At w wr p A f) (v : Bytes) (h1 : 1024 < v.length) (h2 : v.length ≤ 60000) :
    Calls Try.prog 9 #[ptrV p, strV v] wr fun e w' => e = .returned (.tuple #[intV 0, intV 4]) ∧ At w w' p A f := by
  refine (chain_put_big p v h1 h2).mono ?_
  rintro e w' ⟨rfl, hc⟩
  exact ⟨rfl, h.on0 hc⟩
theorem at_get {w wr : World} {p : Nat} {A : Pages} {f : Nat} (h : At w wr p A f) (r : List Link) (hr : Chain A r) (hne : r ≠ []) (h5 : r.length ≤ 5) (v : Bytes) (hb : cbytes r = v) (hv : v.length ≤ 1024) :
    Calls Try.prog 11 #[ptrV p, intV (nxt r)] wr fun e w' => e = .returned (.tuple #[strV v, intV 0]) ∧ At w w' p A f := by
  subst hb
  obtain ⟨b, rfl, h2, h3, h4⟩ := h
  refine (chain_get_ok h2 r hr hne h5 hv _ rfl).mono ?_
  rintro e w' ⟨rfl, hp, hc⟩
  exact ⟨rfl, At.ofIs h3 h4 hp hc⟩
theorem at_pages {w wr : World} {p : Nat} {A : Pages} {f : Nat} (h : At w wr p A f) (r : List Link) (hr : Chain A r) (hne : r ≠ []) (h5 : r.length ≤ 5) (hb : (cbytes r).length ≤ 1024) (n : Nat) (hn : r.length = n) :
    Calls Try.prog 12 #[ptrV p, intV (nxt r)] wr fun e w' => ∃ a c, e = .returned (.tuple #[.slice a n c, intV 0]) ∧ n ≤ c ∧ c ≤ maxLen ∧ At w w' p A f := by
  obtain ⟨b, rfl, h2, h3, h4⟩ := h
  refine (chain_pages_ok h2 r hr hne h5 hb _ rfl).mono ?_
  rintro e w' ⟨lv, rfl, ho, hp, hc⟩
  obtain ⟨a, c, rfl, h5, h6⟩ := ho.shape
  have e1 : (cpages r).length = n := by rw [← hn]; simp [cpages]
  rw [e1] at h5
  exact ⟨a, c, by rw [e1], h5, h6, At.ofIs h3 h4 hp hc⟩
theorem at_drop {w wr : World} {p : Nat} {A : Pages} {f : Nat} (h : At w wr p A f) (r : List Link) (hr : Chain A r) (hne : r ≠ []) (h5 : r.length ≤ 5) (hb : (cbytes r).length ≤ 1024) (hnd : (cpages r).Nodup) :
    Calls Try.prog 10 #[ptrV p, intV (nxt r)] wr fun e w' => e = .returned (intV 0) ∧ At w w' p (dropAll A (cpages r)) (f + r.length) := by
  obtain ⟨b, rfl, h2, h3, h4⟩ := h
  refine (chain_drop_ok h2 r hr hne h5 hb hnd _ rfl).mono ?_
  rintro e w' ⟨rfl, ht⟩
  rw [show (cpages r).length = r.length by simp [cpages]] at ht
  exact ⟨rfl, At.ofTo h3 h4 h2 ht⟩

/-! the store's counts -/
theorem list_count (m : FMap) (x : Int) : (FMap.list m x).length = List.countP (fun k => k == x) m := by
  unfold FMap.list
  rw [List.length_map, ← List.countP_eq_length_filter]
  have e : m = (List.range m.length).map (fun i => m.getD i 0) := by
    apply List.ext_getElem
    · simp
    · intro i h1 h2
      rw [List.getElem_map, List.getElem_range]
      simp [List.getD, h1]
  conv => rhs; rw [e]
  rw [List.countP_map]
  rfl
def howMany (A : Pages) : Nat := A.countP Option.isSome
theorem Store.View.pages_length {S : Store} {A : Pages} {f : Nat} (h : S.View A f) : S.pages.length = howMany A := by
  unfold Store.pages howMany
  rw [List.length_map, ← List.countP_eq_length_filter]
  have e : A.map Option.isSome = (List.range S.table.length).map (fun i => decide (0 ≤ S.table.getD i 0)) := by
    apply List.ext_getElem
    · simp [h.len]
    · intro i h1 h2
      simp at h1 h2
      obtain ⟨t, ht, hh⟩ := h.cell i _ (List.getElem?_eq_getElem h1)
      have hg : S.table.getD i 0 = t := by
        obtain ⟨h3, h4⟩ := List.getElem?_eq_some_iff.1 ht
        simp [List.getD, h2, h4]
      simp only [List.getElem_map, List.getElem_range]
      rw [hg]
      cases hx : A[i] with
      | none =>
        rw [hx] at hh
        have : t = -1 := hh
        subst this
        rfl
      | some b =>
        rw [hx] at hh
        obtain ⟨n, rfl, -⟩ := hh
        simp
  have h1 : A.countP Option.isSome = (A.map Option.isSome).countP id := by rw [List.countP_map]; rfl
  have h2 : (List.range S.table.length).countP (fun i => decide (0 ≤ S.table.getD i 0)) = ((List.range S.table.length).map (fun i => decide (0 ≤ S.table.getD i 0))).countP id := by rw [List.countP_map]; rfl
  rw [h1, h2, e]

theorem at_store {w wr : World} {p : Nat} {A : Pages} {f : Nat} (h : At w wr p A f) :
    Calls Try.prog 16 #[ptrV p] wr fun e w' => ∃ s : Nat, e = .returned (ptrV s) ∧ wr = w' ∧ AtS w w' p s A f := by
  obtain ⟨b, rfl, ⟨Q, h2, h2'⟩, h3, h4⟩ := h
  refine (pool_store h2).mono ?_
  rintro e w' ⟨rfl, rfl⟩
  exact ⟨_, rfl, rfl, b, rfl, rfl, ⟨Q, h2, h2'⟩, h3, h4⟩
theorem at_count {w wr : World} {p s : Nat} {A : Pages} {f : Nat} (h : AtS w wr p s A f) :
    Calls Try.prog 18 #[ptrV s] wr fun e w' => ∃ x y z : Int, e = .returned (.tuple #[intV f, intV x, intV y, intV z]) ∧ At w w' p A f := by
  obtain ⟨b, rfl, rfl, ⟨Q, h2, h2'⟩, h3, h4⟩ := h
  refine (store_count h2.s).mono ?_
  rintro e w' ⟨rfl, hc⟩
  unfold FMap.countV
  rw [list_count Q.s.m 0, h2'.st.free]
  exact ⟨_, _, _, rfl, b, rfl, ⟨Q, h2.kept0 hc, h2'⟩, h3.trans0 hc, h4⟩
theorem at_spages {w wr : World} {p s : Nat} {A : Pages} {f : Nat} (h : AtS w wr p s A f) (n : Nat) (hn : howMany A = n) :
    Calls Try.prog 17 #[ptrV s] wr fun e w' => ∃ a c, e = .returned (.slice a n c) ∧ n ≤ c ∧ c ≤ maxLen ∧ At w w' p A f := by
  obtain ⟨b, rfl, rfl, ⟨Q, h2, h2'⟩, h3, h4⟩ := h
  refine (store_pages h2.s h2'.st.ok).mono ?_
  rintro e w' ⟨a, c, rfl, ho, hc⟩
  rw [h2'.st.pages_length, hn] at ho ⊢
  obtain ⟨a', c', hv, h5, h6⟩ := ho.shape
  simp at hv
  obtain ⟨rfl, rfl⟩ := hv
  exact ⟨a, c, rfl, h5, h6, b, rfl, ⟨Q, h2.kept0 hc, h2'⟩, h3.trans0 hc, h4⟩

end Go.Proofs.Ytfdhlpdmbgjkdaa

namespace Go.Proofs.Ytfdhlpdmbgjkdaa
open Go.RowKit
set_option maxRecDepth 100000

theorem chain_need2 (w : World) : Calls Try.prog 13 #[intV 300] w fun e w' => e = .returned (intV 2) ∧ w = w' := by
  have := chain_need 300 w (by omega)
  exact this

def YesOk (w : World) (e : Ending) (w' : World) : Prop := e = .returned (.bool true) ∧ Chg [] w w'

set_option maxHeartbeats 1000000 in
theorem law_awake (w : World) : Calls Try.prog 8 #[] w (YesOk w) := by
  have hb : Calls Try.prog 7 #[intV 2, intV 20] w (AtBegun w 20) := at_begun 2 20 w (by omega) (by omega) (by omega) (by omega)
  have hL : (longL [97] 300).length = 300 := by rw [longL_length]; rfl
  have hlg : ∀ wr, Calls Try.prog 15 #[.string ⟨#[97]⟩, intV 300] wr fun e w' => e = .returned (strV (longL [97] 300)) ∧ Chg [] wr w' := fun wr => law_long [97] 300 wr (by simp) (by omega)
  generalize longL [97] 300 = L at *
  have hk : chainNeed L.length = 2 := by rw [hL]; rfl
  have hH := holds_of L [] (by omega) (by simp)
  have hput := fun (wr : World) (p : Nat) (h : At w wr p [] 20) => at_put_ok h L (by omega) (by simp) (by omega)
  rw [hk] at hput
  have hget := fun (wr : World) (p : Nat) (h : At w wr p (pagesOf L []) (20 - 2)) => at_get h (linksOf L []) hH.chain hH.some hH.few L hH.bytes (by omega)
  have hpgs := fun (wr : World) (p : Nat) (h : At w wr p (pagesOf L []) (20 - 2)) => at_pages h (linksOf L []) hH.chain hH.some hH.few (by rw [hH.bytes]; omega) 2 (hH.many.trans hk)
  generalize nxt (linksOf L []) = fst at *
  generalize pagesOf L [] = A at *
  have HB := Lib.hid hb
  have HLG := Lib.hid hlg
  have HPUT := Lib.hid hput
  have HGET := Lib.hid hget
  have HPGS := Lib.hid hpgs
  clear hb hlg hput hget hpgs hH hk hL
  go_enter Try.func8, Try.ntmps8
  go_wp2_with (first
    | (go_at_call 7; (with_reducible refine HB.out.mono ?_); rintro e w1 ⟨p, x, rfl, h1⟩; have HP := Lib.hid h1; clear h1)
    | (go_at_call 15; with_reducible refine (HLG.out _).mono ?_; rintro e w2 ⟨rfl, hc⟩; have HP := Lib.hid (HP.out.on0 hc); clear hc)
    | (go_at_call 9; with_reducible refine (HPUT.out _ _ HP.out).mono ?_; rintro e w3 ⟨rfl, h1⟩; have HP := Lib.hid h1; clear h1)
    | (go_at_call 11; with_reducible refine (HGET.out _ _ HP.out).mono ?_; rintro e w4 ⟨rfl, h1⟩; have HP := Lib.hid h1; clear h1)
    | (go_at_call 12; with_reducible refine (HPGS.out _ _ HP.out).mono ?_; rintro e w5 ⟨pa, pc, rfl, hpc1, hpc2, h1⟩; have HP := Lib.hid h1; clear h1)
    | (go_at_call 13; with_reducible refine (chain_need2 _).mono ?_; rintro e w6 ⟨rfl, rfl⟩))
  go_ret
  exact ⟨rfl, HP.out.chg⟩

end Go.Proofs.Ytfdhlpdmbgjkdaa

namespace Go.Proofs.Ytfdhlpdmbgjkdaa
open Go.RowKit
set_option maxRecDepth 100000

/-! without a pool -/
theorem chain_put_nil (v : Bytes) (w : World) : Calls Try.prog 9 #[.pointer none, strV v] w fun e w' => e = .returned (.tuple #[intV 0, intV 1]) ∧ Chg [] w w' := by
  go_enter Try.func9, Try.ntmps9
  go_wp2_with fail
  go_ret2
  exact ⟨rfl, (Chg.refl _ _).alloc _⟩
theorem chain_walk_nil (l : Int) (w : World) : Calls Try.prog 27 #[.pointer none, intV l] w fun e w' => e = .returned (.tuple #[.slice none 0 0, strV [], intV 1]) ∧ w = w' := by
  go_enter Try.func27, Try.ntmps27
  go_wp2_with fail
  go_ret3
  exact ⟨rfl, rfl⟩
theorem chain_get_nil (l : Int) (w : World) : Calls Try.prog 11 #[.pointer none, intV l] w fun e w' => e = .returned (.tuple #[strV [], intV 1]) ∧ w = w' := by
  go_enter Try.func11, Try.ntmps11
  go_wp2_with (go_at_call 27; with_reducible refine (chain_walk_nil _ _).mono ?_; rintro e w1 ⟨rfl, rfl⟩)
  go_ret2
  exact ⟨rfl, rfl⟩
theorem chain_pages_nil (l : Int) (w : World) : Calls Try.prog 12 #[.pointer none, intV l] w fun e w' => e = .returned (.tuple #[.slice none 0 0, intV 1]) ∧ w = w' := by
  go_enter Try.func12, Try.ntmps12
  go_wp2_with (go_at_call 27; with_reducible refine (chain_walk_nil _ _).mono ?_; rintro e w1 ⟨rfl, rfl⟩)
  go_ret2
  exact ⟨rfl, rfl⟩
theorem chain_drop_nil (l : Int) (w : World) : Calls Try.prog 10 #[.pointer none, intV l] w fun e w' => e = .returned (intV 1) ∧ w = w' := by
  go_enter Try.func10, Try.ntmps10
  go_wp2_with (go_at_call 27; with_reducible refine (chain_walk_nil _ _).mono ?_; rintro e w1 ⟨rfl, rfl⟩)
  go_ret
  exact ⟨rfl, rfl⟩

def needI (n : Int) : Int := if n < 0 then 1 else chainNeed n.toNat
theorem chain_need_any (n : Int) (w : World) (hn : n ≤ 1000000) : Calls Try.prog 13 #[intV n] w fun e w' => e = .returned (intV (needI n)) ∧ w = w' := by
  unfold needI
  by_cases h : n < 0
  · rw [if_pos h]
    exact chain_need_neg n w h
  · rw [if_neg h]
    obtain ⟨m, rfl⟩ : ∃ m : Nat, n = m := ⟨n.toNat, by omega⟩
    exact chain_need m w (by omega)
theorem ref16_need_neg (n : Int) (w : World) (hn : n < 0) : Calls Try.prog 14 #[intV n] w fun e w' => e = .returned (intV 1) ∧ w = w' := by
  have h2 : ¬ 228 < n := by omega
  go_enter Try.func14, Try.ntmps14
  go_wp2_with fail
  go_loop [0, 3] (fun m k => m = .int .i64 n ∧ k = .int .i64 1) (fun m _ => 0)
  case atStart => exact ⟨rfl, rfl⟩
  case round =>
    obtain ⟨rfl, rfl⟩ := hrel
    go_wp2_with fail
    go_ret
    exact ⟨rfl, rfl⟩
theorem ref16_need_any (n : Int) (w : World) (hn : n ≤ 1000000) : Calls Try.prog 14 #[intV n] w fun e w' => e = .returned (intV (needI n)) ∧ w = w' := by
  unfold needI
  by_cases h : n < 0
  · rw [if_pos h]
    exact ref16_need_neg n w h
  · rw [if_neg h]
    obtain ⟨m, rfl⟩ : ∃ m : Nat, n = m := ⟨n.toNat, by omega⟩
    exact ref16_need m w (by omega)

set_option maxHeartbeats 1000000 in
theorem law_none (s : Bytes) (first n : Int) (w : World) (h0 : -9223372036854775808 ≤ n) (h1 : n ≤ 9223372036854775807) : Calls Try.prog 4 #[strV s, intV first, intV n] w (YesOk w) := by
  by_cases hn : 100000 < n
  all_goals
    go_enter Try.func4, Try.ntmps4
    go_wp2_with (first
      | (go_at_call 9; (with_reducible refine (chain_put_nil s _).mono ?_); rintro e w1 ⟨rfl, hc⟩; have C1 := Lib.hid hc; clear hc)
      | (go_at_call 11; (with_reducible refine (chain_get_nil first _).mono ?_); rintro e w2 ⟨rfl, rfl⟩)
      | (go_at_call 12; (with_reducible refine (chain_pages_nil first _).mono ?_); rintro e w3 ⟨rfl, rfl⟩)
      | (go_at_call 8; (with_reducible refine (law_awake _).mono ?_); rintro e w4 ⟨rfl, hc⟩; have C2 := Lib.hid (C1.out.trans0 hc); clear hc)
      | (go_at_call 10; (with_reducible refine (chain_drop_nil first _).mono ?_); rintro e w5 ⟨rfl, rfl⟩)
      | (go_at_call 13; (with_reducible refine (chain_need_any _ _ (by omega)).mono ?_); rintro e w6 ⟨rfl, rfl⟩)
      | (go_at_call 14; (with_reducible refine (ref16_need_any _ _ (by omega)).mono ?_); rintro e w7 ⟨rfl, rfl⟩))
    go_ret
    exact ⟨rfl, C2.out⟩

end Go.Proofs.Ytfdhlpdmbgjkdaa
